/- What is another one in two lists of pins, applied to the first, makes the second; no program in sight. -/
import Derived.Test.YtmcjpmogjmnfpaaLA
namespace Go.Proofs.Ytmcjpmogjmnfpaa
open Go Go.RowKit

/-- Do some edits fit a list of pins? -/
def FitsP (a : List Pin) (l : List Edit) : Prop := ∀ e ∈ l, (findP a e.key).isSome = e.had ∧ (findP a e.key).getD noPin = e.old
def turnE (l : List Edit) : List Edit := l.map fun e => ⟨e.key, e.has, e.had, e.new, e.old⟩

theorem mem_refEdits {a b : List Pin} {e : Edit} : e ∈ refEdits a b ↔ (∃ k, k ∈ keysP (a ++ b) ∧ ((findP a k).isSome ≠ (findP b k).isSome ∨ (findP a k).getD noPin ≠ (findP b k).getD noPin) ∧ e = editOf k (findP a k) (findP b k)) := by
  unfold refEdits
  rw [List.mem_flatMap]
  constructor
  · rintro ⟨k, hk, he⟩
    unfold oneR at he
    split at he
    · rename_i hc
      exact ⟨k, hk, hc, by simpa using he⟩
    · simp at he
  · rintro ⟨k, hk, hc, rfl⟩
    exact ⟨k, hk, by unfold oneR; rw [if_pos hc]; simp⟩
theorem findP_in {l : List Pin} {k : Key} {p : Pin} (h : findP l k = some p) : p ∈ l := List.mem_of_find?_eq_some h
theorem edits_fit (a b : List Pin) : FitsP a (refEdits a b) := by
  intro e he
  obtain ⟨k, hk, hc, rfl⟩ := mem_refEdits.1 he
  exact ⟨rfl, rfl⟩
/-- The law of DiffBack: forth. -/
theorem apply_edits {a b : List Pin} (ha : RiseP a) (hb : RiseP b) : refRow (refPins a (refEdits a b)) = b := by
  have hm : mayE (refEdits a b) = true := by rw [← edits_same ha hb]; exact edits_may ha hb
  have hor : OnceP (refPins a (refEdits a b)) := by
    rw [refPins_eq _ a hm]
    exact (((List.perm_append_comm (l₁ := newsP (refEdits a b)) (l₂ := leftP a (refEdits a b))).map Pin.key).nodup_iff).1 (both_once (riseP_once ha) hm)
  refine riseP_ext (refRow_rise _) hb fun x => ?_
  rw [refRow_mem hor, refPins_eq _ a hm, List.mem_append]
  constructor
  · rintro (hx | hx)
    · unfold leftP at hx
      obtain ⟨h1, h2⟩ := List.mem_filter.1 hx
      have hf := findP_once (riseP_once ha) x h1
      have hk : x.key ∈ keysP (a ++ b) := (keysP_mem _ _).2 ⟨x, List.mem_append_left _ h1, rfl⟩
      by_cases hc : ((findP a x.key).isSome ≠ (findP b x.key).isSome ∨ (findP a x.key).getD noPin ≠ (findP b x.key).getD noPin)
      · exfalso
        rw [Bool.not_eq_true', List.any_eq_false] at h2
        have := h2 _ (mem_refEdits.2 ⟨x.key, hk, hc, rfl⟩)
        simp [editOf] at this
      · simp only [not_or, Decidable.not_not] at hc
        obtain ⟨c1, c2⟩ := hc
        rw [hf] at c1 c2
        obtain ⟨q, hq⟩ := Option.isSome_iff_exists.1 c1.symm
        rw [hq] at c2
        have e : x = q := c2
        rw [e]; exact findP_in hq
    · unfold newsP at hx
      obtain ⟨e, he, hx⟩ := List.mem_filterMap.1 hx
      obtain ⟨k, hk, hc, rfl⟩ := mem_refEdits.1 he
      by_cases hh : (editOf k (findP a k) (findP b k)).has = true
      · rw [if_pos hh] at hx
        cases hx
        obtain ⟨q, hq⟩ := Option.isSome_iff_exists.1 (show (findP b k).isSome = true from hh)
        have e : (editOf k (findP a k) (findP b k)).new = q := by show (findP b k).getD noPin = q; rw [hq]; rfl
        rw [e]; exact findP_in hq
      · rw [if_neg hh] at hx; cases hx
  · intro hx
    have hf := findP_once (riseP_once hb) x hx
    have hk : x.key ∈ keysP (a ++ b) := (keysP_mem _ _).2 ⟨x, List.mem_append_right _ hx, rfl⟩
    by_cases hc : ((findP a x.key).isSome ≠ (findP b x.key).isSome ∨ (findP a x.key).getD noPin ≠ (findP b x.key).getD noPin)
    · right
      unfold newsP
      refine List.mem_filterMap.2 ⟨_, mem_refEdits.2 ⟨x.key, hk, hc, rfl⟩, ?_⟩
      unfold editOf
      rw [hf]; rfl
    · left
      simp only [not_or, Decidable.not_not] at hc
      obtain ⟨c1, c2⟩ := hc
      rw [hf] at c1 c2
      obtain ⟨q, hq⟩ := Option.isSome_iff_exists.1 c1
      rw [hq] at c2
      have e : q = x := c2
      subst e
      unfold leftP
      refine List.mem_filter.2 ⟨findP_in hq, ?_⟩
      rw [Bool.not_eq_true', List.any_eq_false]
      intro f hf2 hfk
      obtain ⟨k, hk2, hc2, rfl⟩ := mem_refEdits.1 hf2
      have hke : k = q.key := of_decide_eq_true hfk
      subst hke
      rw [hq, hf] at hc2
      simp at hc2
theorem keysP_comm (a b : List Pin) : keysP (a ++ b) = keysP (b ++ a) := rise_ext (keysP_rise _) (keysP_rise _) fun x => by
  rw [keysP_mem, keysP_mem]
  simp only [List.mem_append, or_and_right, exists_or, or_comm]
theorem turn_edits (a b : List Pin) : turnE (refEdits a b) = refEdits b a := by
  unfold turnE refEdits
  rw [keysP_comm a b, List.map_flatMap]
  refine flat_congr fun k _ => ?_
  unfold oneR
  by_cases hc : (findP a k).isSome ≠ (findP b k).isSome ∨ (findP a k).getD noPin ≠ (findP b k).getD noPin
  · rw [if_pos hc, if_pos (hc.imp Ne.symm Ne.symm)]; rfl
  · rw [if_neg hc, if_neg (fun h => hc (h.imp Ne.symm Ne.symm))]; rfl
theorem edits_self (a : List Pin) : refEdits a a = [] := by
  unfold refEdits
  rw [List.flatMap_eq_nil_iff]
  intro k _
  unfold oneR
  rw [if_neg (by simp)]
theorem apply_none {a : List Pin} (ha : RiseP a) : refRow (refPins a []) = a :=
  riseP_ext (refRow_rise _) ha fun x => refRow_mem (riseP_once ha) x

end Go.Proofs.Ytmcjpmogjmnfpaa
