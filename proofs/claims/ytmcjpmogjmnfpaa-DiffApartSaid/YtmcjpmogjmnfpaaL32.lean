/- What diff.Apply computes is the document's answer: the plain part; no program in sight. -/
import Derived.Test.YtmcjpmogjmnfpaaL31
namespace Go.Proofs.Ytmcjpmogjmnfpaa
open Go Go.RowKit

theorem rise_lock {l : Lock} (h : lockMay l = true) : RiseP l.pins := by
  unfold lockMay at h
  simp only [Bool.and_eq_true] at h
  exact (rise_iff _).1 h.1.1.2
theorem apply_plain {a : Lock} {l : List Edit} {s : List Pin} (ha : lockMay a = true) (hm : mayE l = true) (hp : s.Perm (newsP l ++ leftP a.pins l)) (hs : s.Pairwise fun p q => cmpK p.key q.key ≠ 1) : (⟨a.root, s⟩ : Lock) = outL a l := by
  unfold outL
  rw [← apply_same (rise_lock ha) hm hp hs]
/-- The entries that the first loop has made. -/
def entsE : Nat → List Edit → List EntE
  | _, [] => []
  | c, e :: l => ⟨e.key, e, c⟩ :: entsE (c + 1) l
theorem entsE_snoc : ∀ (l : List Edit) (c : Nat) (e : Edit), entsE c (l ++ [e]) = entsE c l ++ [⟨e.key, e, c + l.length⟩]
  | [], c, e => rfl
  | f :: l, c, e => by
    simp only [List.cons_append, entsE, entsE_snoc l (c + 1) e, List.length_cons]
    rw [show c + 1 + l.length = c + (l.length + 1) by omega]
theorem idxE_ents : ∀ (l : List Edit) (c : Nat) (k : Key), (idxE (entsE c l) k).isSome = l.any fun e => decide (e.key = k)
  | [], c, k => rfl
  | e :: l, c, k => by
    have ih := idxE_ents l (c + 1) k
    unfold idxE at ih ⊢
    rw [entsE, List.findIdx?_cons, List.any_cons]
    by_cases h : k = e.key
    · simp [h]
    · have h' : ¬ e.key = k := fun e' => h e'.symm
      simp only [h, h', decide_false, Bool.false_or, Bool.false_eq_true, if_false]
      rw [← ih]
      simp
theorem idxE_new {l : List Edit} (hm : mayE l = true) {i : Nat} (hi : i < l.length) (c : Nat) : idxE (entsE c (l.take i)) l[i].key = none := by
  have h1 := idxE_ents (l.take i) c l[i].key
  have h2 : ((l.take i).any fun e => decide (e.key = l[i].key)) = false := by
    rw [List.any_eq_false]
    intro e he
    obtain ⟨j, hj, rfl⟩ := List.mem_iff_getElem.1 he
    have hj2 : j < i := by simp at hj; omega
    unfold mayE at hm
    rw [Bool.and_eq_true, rise_iff] at hm
    have h3 := List.pairwise_iff_getElem.1 hm.2 j i (by simp; omega) (by simpa using hi) hj2
    simp only [List.getElem_map] at h3
    simp only [List.getElem_take, decide_eq_true_eq]
    intro h4
    rw [h4] at h3
    exact cmpK_irr h3
  rw [h2] at h1
  cases hx : idxE (entsE c (l.take i)) l[i].key with
  | none => rfl
  | some x => rw [hx] at h1; simp at h1
theorem newsP_succ {l : List Edit} {i : Nat} (hi : i < l.length) : newsP (l.take (i + 1)) = newsP (l.take i) ++ (if l[i].has then [l[i].new] else []) := by
  unfold newsP
  rw [List.take_succ_eq_append_getElem hi, List.filterMap_append]
  congr 1
  cases h : l[i].has <;> simp [h]
theorem leftP_succ {a : List Pin} {l : List Edit} {i : Nat} (hi : i < a.length) : leftP (a.take (i + 1)) l = leftP (a.take i) l ++ (if (l.any fun e => decide (e.key = a[i].key)) then [] else [a[i]]) := by
  unfold leftP
  rw [List.take_succ_eq_append_getElem hi, List.filter_append]
  congr 1
  cases h : (l.any fun e => decide (e.key = a[i].key)) <;> simp [h]

end Go.Proofs.Ytmcjpmogjmnfpaa
