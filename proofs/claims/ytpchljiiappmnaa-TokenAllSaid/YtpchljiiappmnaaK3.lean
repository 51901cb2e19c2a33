/- Plain laws: the program's ways to look for an end, a line, a column come to the document's; no program in sight. -/
import Derived.Test.YtpchljiiappmnaaK1
import Derived.Lib.Index
import Derived.Lib.LastIndexByte
import Derived.Lib.LastIndexLaws
namespace Go.Proofs.Ytpchljiiappmnaa
open Go Go.RowKit

/-- What stands up to an end, by the place of the end. -/
def untilP (til l : Bs) : Res Bs :=
  if 0 ≤ Lib.index l til then
    if span cText (l.take (Lib.index l til).toNat) < (Lib.index l til).toNat then .bad 10 (l.drop (span cText (l.take (Lib.index l til).toNat)))
    else .ok (l.take (Lib.index l til).toNat) (l.drop ((Lib.index l til).toNat + til.length))
  else if span cText l < l.length then .bad 10 (l.drop (span cText l)) else .bad 13 []

theorem plain_until {til : Bs} (ht : til ≠ []) (l : Bs) : plain til l = untilP til l := by
  have hp0 : til.isPrefixOf [] = false := by cases til with
    | nil => exact absurd rfl ht
    | cons a t => rfl
  induction l with
  | nil =>
    have hi : Lib.index [] til = -1 := by
      unfold Lib.index
      cases til with
      | nil => exact absurd rfl ht
      | cons a t => rfl
    unfold untilP plain
    rw [hi, hp0]; simp [span]
  | cons c l ih =>
    have hge := Lib.index_ge l til
    simp only [plain]
    by_cases hp : til.isPrefixOf (c :: l)
    · have hi : Lib.index (c :: l) til = 0 := by simp [Lib.index, hp]
      unfold untilP
      rw [if_pos hp, hi]; simp
    · rw [if_neg hp, ih]
      by_cases hl : Lib.index l til = -1
      · have hi : Lib.index (c :: l) til = -1 := by simp [Lib.index, hp, hl]
        unfold untilP
        rw [hi, hl]
        simp only [show ¬ (0 : Int) ≤ -1 by decide, if_false, span, List.length_cons]
        by_cases hc : cText c = true
        rotate_left
        · simp [hc]
        · simp only [hc, if_true]
          by_cases h2 : span cText l < l.length
          · rw [if_pos h2, if_pos (by omega)]; rfl
          · rw [if_neg h2, if_neg (by omega)]; rfl
      · have hi : Lib.index (c :: l) til = Lib.index l til + 1 := by simp [Lib.index, hp, hl]
        unfold untilP
        have hn0 : 0 ≤ Lib.index l til := by omega
        rw [hi, if_pos hn0, if_pos (show 0 ≤ Lib.index l til + 1 by omega)]
        have hn : (Lib.index l til + 1).toNat = (Lib.index l til).toNat + 1 := by omega
        rw [hn, List.take_succ_cons]
        simp only [span]
        by_cases hc : cText c = true
        rotate_left
        · simp [hc]
        · simp only [hc, if_true]
          by_cases h2 : span cText (l.take (Lib.index l til).toNat) < (Lib.index l til).toNat
          · rw [if_pos h2, if_pos (by omega)]; rfl
          · rw [if_neg h2, if_neg (by omega)]
            show Res.ok _ _ = _
            rw [show (Lib.index l til).toNat + 1 + til.length = (Lib.index l til).toNat + til.length + 1 by omega]; rfl

theorem index_le' (l til : Bs) : Lib.index l til ≤ l.length := by
  induction l with
  | nil => unfold Lib.index; split <;> simp
  | cons c l ih =>
    unfold Lib.index
    split
    · simp; omega
    · split
      · simp; omega
      · simp; omega

theorem lineCol_snoc (l : Bs) (c : UInt8) : lineCol (l ++ [c]) = if c = 10 then ((lineCol l).1 + 1, 1) else ((lineCol l).1, (lineCol l).2 + 1) := by
  unfold lineCol; rw [List.foldl_append]; rfl
theorem snoc_ind {P : Bs → Prop} (h0 : P []) (h1 : ∀ l c, P l → P (l ++ [c])) (l : Bs) : P l := by
  have h : ∀ m : Bs, P m.reverse := fun m => by
    induction m with
    | nil => exact h0
    | cons c m ih => rw [List.reverse_cons]; exact h1 _ _ ih
  have := h l.reverse
  rwa [List.reverse_reverse] at this
theorem lineCol_pos (l : Bs) : 1 ≤ (lineCol l).1 ∧ 1 ≤ (lineCol l).2 ∧ (lineCol l).1 ≤ l.length + 1 ∧ (lineCol l).2 ≤ l.length + 1 := by
  induction l using snoc_ind with
  | h0 => decide
  | h1 l c ih =>
  rw [lineCol_snoc]
  simp only [List.length_append, List.length_singleton]
  split <;> simp <;> omega

theorem lineCol_line (l : Bs) : (lineCol l).1 = 1 + l.count 10 := by
  induction l using snoc_ind with
  | h0 => rfl
  | h1 l c ih =>
  rw [lineCol_snoc, List.count_append]
  split
  · rename_i h; subst h; simp [ih]; omega
  · rename_i h; simp [ih, h]

theorem lastIdx_congr {s t : ByteArray} {c : Int} (k : Nat) (h : ∀ j, j < k → s.data[j]! = t.data[j]!) : Lib.lastIdx s c k = Lib.lastIdx t c k := by
  induction k with
  | zero => rfl
  | succ k ih => simp only [Lib.lastIdx]; rw [h k (by omega), ih fun j hj => h j (by omega)]
theorem bs_bang (l : Bs) (j : Nat) (h : j < l.length) : (bs l).data[j]! = l[j] := by
  rw [getElem!_pos (bs l).data j (by simpa [bs] using h)]; simp [bs]

theorem lineCol_col (l : Bs) : Lib.lastIndexByte (bs l) 10 = (l.length : Int) - (lineCol l).2 := by
  induction l using snoc_ind with
  | h0 => rfl
  | h1 l c ih =>
  unfold Lib.lastIndexByte at ih ⊢
  rw [bs_size] at ih ⊢
  rw [lineCol_snoc, List.length_append, List.length_singleton]
  simp only [Lib.lastIdx]
  rw [bs_bang _ _ (by simp)]
  have e : (l ++ [c])[l.length]'(by simp) = c := by simp
  rw [e]
  by_cases h : c = 10
  · subst h; simp
  · have h' : ¬ ((c.toNat : Nat) : Int) = 10 := fun e => h (UInt8.toNat_inj.1 (by simpa using (by omega : c.toNat = 10)))
    rw [if_neg h', if_neg h, lastIdx_congr (t := bs l) l.length (fun j hj => by rw [bs_bang _ _ (by simp; omega), bs_bang _ _ hj]; simp [hj]), ih]
    simp; omega

theorem lastOcc_one (l : Bs) (c : UInt8) (k : Nat) (hk : k ≤ l.length) : Lib.lastOcc l [c] k = Lib.lastIdx (bs l) c.toNat k := by
  induction k with
  | zero => rfl
  | succ k ih =>
    have hl : k < l.length := by omega
    have ho : Lib.occAt l [c] k = decide (l[k] = c) := by
      unfold Lib.occAt
      rw [List.drop_eq_getElem_cons hl]
      simp only [List.isPrefixOf, Bool.and_true]
      by_cases e : c = l[k]
      · simp [← e]
      · simp [e, Ne.symm e]
    simp only [Lib.lastIdx]
    rw [bs_bang _ _ hl]
    by_cases h : l[k] = c
    · rw [Lib.lastOcc_hit _ _ _ (by rw [ho]; simpa using h), if_pos (by rw [h])]
    · rw [Lib.lastOcc_miss _ _ _ (by rw [ho]; simpa using h), ih (by omega), if_neg]
      intro e; exact h (UInt8.toNat_inj.1 (by omega))
theorem lastIndex_one (l : Bs) : Lib.lastIndex l [10] = (l.length : Int) - (lineCol l).2 := by
  rw [← lineCol_col]
  unfold Lib.lastIndex Lib.lastIndexByte
  rw [bs_size]
  cases l with
  | nil => rfl
  | cons c l =>
    rw [if_pos (by simp), show (c :: l).length - ([10] : Bs).length + 1 = (c :: l).length by simp, lastOcc_one _ _ _ (Nat.le_refl _)]; rfl

end Go.Proofs.Ytpchljiiappmnaa
