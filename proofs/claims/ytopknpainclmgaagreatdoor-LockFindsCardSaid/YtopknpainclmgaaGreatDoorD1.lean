/- Walks: the document's cutting of texts: Lines, Pieces, words; the conditions stand in the theorems. -/
import Derived.Test.YtopknpainclmgaaGreatDoorD0
import Derived.Test.YtopknpainclmgaaGreatDoorL4
import Derived.StillTailTactics
import Derived.IntWalk
namespace Go.Proofs.YtopknpainclmgaaGreatDoor
open Go Go.RowKit

theorem flat_str (l : List S) : l.flatMap strC = l.map Value.string := by
  induction l with
  | nil => rfl
  | cons a l ih => rw [List.flatMap_cons, List.map_cons, ih]; rfl
/-- The pieces of a text, as strings. -/
def piecesS (c : UInt8) (s : Bs) : List S := (piecesB c s).map bs
theorem piecesS_pos (c : UInt8) (s : Bs) : 0 < (piecesS c s).length := by
  obtain ⟨p, ps, h⟩ := piecesB_cons c s
  simp [piecesS, h]
theorem piecesS_snoc (c : UInt8) (s : Bs) : piecesS c (s ++ [c]) = piecesS c s ++ [⟨#[]⟩] := by
  unfold piecesS
  rw [piecesB_snoc, List.map_append]; rfl
theorem piecesS_snoc_ne {c x : UInt8} (hx : x ≠ c) (s : Bs) (n : Nat) (hn : (piecesS c s).length = n + 1) : piecesS c (s ++ [x]) = (piecesS c s).set n (((piecesS c s)[n]'(by omega)) ++ ⟨#[x]⟩) := by
  have hne := piecesB_ne c s
  have hd := List.dropLast_concat_getLast hne
  have h1 := piecesB_snoc_ne hx s _ _ hd.symm
  have hl : (piecesB c s).length = n + 1 := by simpa [piecesS] using hn
  have hlen : (piecesB c s).dropLast.length = n := by rw [List.length_dropLast]; omega
  unfold piecesS
  rw [h1]
  apply List.ext_getElem
  · simp; omega
  · intro i hi hi'
    rw [List.getElem_set]
    by_cases h : n = i
    · subst h
      rw [if_pos rfl]
      simp only [List.getElem_map]
      rw [List.getElem_append_right (by omega)]
      simp only [hlen, Nat.sub_self, List.getElem_cons_zero]
      rw [List.getLast_eq_getElem]
      simp only [hl, Nat.add_sub_cancel]
      exact bs_append _ _
    · rw [if_neg h]
      have hi2 : i < n := by simp at hi; omega
      simp only [List.getElem_map]
      rw [List.getElem_append_left (by omega), List.getElem_dropLast]
theorem piece_len (c : UInt8) : ∀ l : Bs, ∀ p ∈ piecesB c l, p.length ≤ l.length
  | [], p, hp => by
    have : p = [] := by simpa [piecesB] using hp
    rw [this]; simp
  | x :: l, p, hp => by
    obtain ⟨q, qs, h⟩ := piecesB_cons c l
    have ih := piece_len c l
    by_cases hx : x = c
    · subst hx
      rw [piecesB_hit] at hp
      rcases List.mem_cons.1 hp with rfl | hp
      · simp
      · exact Nat.le_succ_of_le (ih p hp)
    · rw [piecesB_miss hx h] at hp
      rw [h] at ih
      rcases List.mem_cons.1 hp with rfl | hp
      · exact Nat.succ_le_succ (ih q (List.mem_cons_self ..))
      · exact Nat.le_succ_of_le (ih p (List.mem_cons_of_mem _ hp))
theorem piecesS_len (c : UInt8) (s : S) : ∀ i, (piecesS c (s.data.toList.take i)).length ≤ i + 1
  | 0 => by simp [piecesS, piecesB]
  | i + 1 => by
    have ih := piecesS_len c s i
    by_cases h : i < s.data.toList.length
    · rw [List.take_succ_eq_append_getElem h]
      by_cases hx : s.data.toList[i] = c
      · rw [hx, piecesS_snoc, List.length_append]
        simp only [List.length_singleton]
        omega
      · obtain ⟨n, hn⟩ : ∃ n, (piecesS c (s.data.toList.take i)).length = n + 1 := ⟨_, (Nat.succ_pred_eq_of_pos (piecesS_pos c _)).symm⟩
        rw [piecesS_snoc_ne hx _ n hn, List.length_set]
        omega
    · rw [List.take_of_length_le (by omega)] at ih ⊢
      omega
def PiecesOut (w : World) (l : List S) (e : Ending) (w' : World) : Prop := ∃ v, e = .returned v ∧ Owns w.heap.size 9 1 strC w' v l ∧ Below w.heap.size w w'

end Go.Proofs.YtopknpainclmgaaGreatDoor
