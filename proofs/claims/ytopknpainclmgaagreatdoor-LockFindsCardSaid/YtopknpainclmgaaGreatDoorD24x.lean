/- Parts of L0 for the walk D24. -/
import Derived.Test.YtopknpainclmgaaGreatDoorL1
namespace Go.Proofs.YtopknpainclmgaaGreatDoor
open Go Go.RowKit

/-! The order of Keys. -/
theorem cmpS_refl (a : S) : cmpS a a = 0 := cmpB_refl _
theorem cmpL_refl : ∀ l : List S, cmpL l l = 0
  | [] => rfl
  | a :: l => by simp only [cmpL]; rw [if_pos (cmpS_refl a)]; exact cmpL_refl l
theorem cmpL_eq : ∀ {l m : List S}, l.length = m.length → cmpL l m = 0 → l = m
  | [], [], _, _ => rfl
  | [], _ :: _, h, _ => by cases h
  | _ :: _, [], h, _ => by cases h
  | a :: l, b :: m, hl, h => by
    simp only [cmpL] at h
    by_cases h0 : cmpS a b = 0
    · rw [if_pos h0] at h; rw [cmpS_eq h0, cmpL_eq (by simpa using hl) h]
    · rw [if_neg h0] at h; exact absurd h h0
theorem cmpK_refl (a : Key) : cmpK a a = 0 := cmpL_refl _
theorem cmpK_eq {a b : Key} (h : cmpK a b = 0) : a = b := by
  have := cmpL_eq (l := fieldsOf a) (m := fieldsOf b) rfl h
  cases a; cases b
  simp [fieldsOf] at this
  obtain ⟨rfl, rfl, rfl, rfl⟩ := this
  rfl
theorem cmpK_zero {a b : Key} : cmpK a b = 0 ↔ a = b := ⟨cmpK_eq, fun h => h ▸ cmpK_refl a⟩



end Go.Proofs.YtopknpainclmgaaGreatDoor
