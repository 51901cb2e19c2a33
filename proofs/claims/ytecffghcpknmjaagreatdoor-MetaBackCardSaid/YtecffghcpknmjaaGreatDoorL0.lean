/- Pins, locks, edits; which ids, versions, Keys may be; the order of Keys; no program in sight. -/
import Derived.Test.YtecffghcpknmjaaGreatDoorG0
import Derived.Lib.Bytealg
namespace Go.Proofs.YtecffghcpknmjaaGreatDoor
open Go Go.RowKit

def idByte (c : UInt8) : Bool := (decide (97 ≤ c.toNat) && decide (c.toNat ≤ 122)) || (decide (65 ≤ c.toNat) && decide (c.toNat ≤ 90)) || (decide (48 ≤ c.toNat) && decide (c.toNat ≤ 57)) || c.toNat == 46 || c.toNat == 45 || c.toNat == 95
def verByte (c : UInt8) : Bool := idByte c || c.toNat == 43
theorem idByte_iff {c : UInt8} : idByte c = true ↔ (97 ≤ c.toNat ∧ c.toNat ≤ 122) ∨ (65 ≤ c.toNat ∧ c.toNat ≤ 90) ∨ (48 ≤ c.toNat ∧ c.toNat ≤ 57) ∨ c.toNat = 46 ∨ c.toNat = 45 ∨ c.toNat = 95 := by
  simp [idByte, or_assoc]
theorem verByte_iff {c : UInt8} : verByte c = true ↔ (97 ≤ c.toNat ∧ c.toNat ≤ 122) ∨ (65 ≤ c.toNat ∧ c.toNat ≤ 90) ∨ (48 ≤ c.toNat ∧ c.toNat ≤ 57) ∨ c.toNat = 46 ∨ c.toNat = 45 ∨ c.toNat = 95 ∨ c.toNat = 43 := by
  simp [verByte, idByte, or_assoc]
theorem idByte_no {c : UInt8} (h : idByte c = false) : ¬ ((97 ≤ c.toNat ∧ c.toNat ≤ 122) ∨ (65 ≤ c.toNat ∧ c.toNat ≤ 90) ∨ (48 ≤ c.toNat ∧ c.toNat ≤ 57) ∨ c.toNat = 46 ∨ c.toNat = 45 ∨ c.toNat = 95) := by
  rw [← idByte_iff, h]; simp
theorem verByte_no {c : UInt8} (h : verByte c = false) : ¬ ((97 ≤ c.toNat ∧ c.toNat ≤ 122) ∨ (65 ≤ c.toNat ∧ c.toNat ≤ 90) ∨ (48 ≤ c.toNat ∧ c.toNat ≤ 57) ∨ c.toNat = 46 ∨ c.toNat = 45 ∨ c.toNat = 95 ∨ c.toNat = 43) := by
  rw [← verByte_iff, h]; simp
def isIdB (s : S) : Bool := s.data.toList.all idByte && decide (1 ≤ s.size) && decide (s.size ≤ 64)
def verMay (s : S) : Bool := s.data.toList.all verByte && decide (1 ≤ s.size) && decide (s.size ≤ 64)
def gavMay (g : Gav) : Bool := isIdB g.group && isIdB g.artifact && verMay g.version
theorem cmpB_range : ∀ a b : Bs, Lib.compareBytes a b = -1 ∨ Lib.compareBytes a b = 0 ∨ Lib.compareBytes a b = 1
  | [], [] => .inr (.inl rfl)
  | [], _ :: _ => .inl rfl
  | _ :: _, [] => .inr (.inr rfl)
  | a :: as, b :: bs => by
    unfold Lib.compareBytes
    by_cases h1 : a < b
    · rw [if_pos h1]; exact .inl rfl
    · rw [if_neg h1]
      by_cases h2 : b < a
      · rw [if_pos h2]; exact .inr (.inr rfl)
      · rw [if_neg h2]; exact cmpB_range as bs
theorem cmpB_refl : ∀ a : Bs, Lib.compareBytes a a = 0
  | [] => rfl
  | a :: as => by unfold Lib.compareBytes; rw [if_neg (by simp), if_neg (by simp)]; exact cmpB_refl as
theorem cmpB_eq : ∀ {a b : Bs}, Lib.compareBytes a b = 0 → a = b
  | [], [], _ => rfl
  | [], _ :: _, h => by cases h
  | _ :: _, [], h => by cases h
  | a :: as, b :: bs, h => by
    unfold Lib.compareBytes at h
    by_cases h1 : a < b
    · rw [if_pos h1] at h; cases h
    · rw [if_neg h1] at h
      by_cases h2 : b < a
      · rw [if_pos h2] at h; cases h
      · rw [if_neg h2] at h
        have : a = b := by
          rw [UInt8.lt_iff_toNat_lt] at h1 h2
          exact UInt8.toNat_inj.1 (by omega)
        rw [this, cmpB_eq h]
theorem cmpB_anti : ∀ a b : Bs, Lib.compareBytes b a = - Lib.compareBytes a b
  | [], [] => rfl
  | [], _ :: _ => rfl
  | _ :: _, [] => rfl
  | a :: as, b :: bs => by
    unfold Lib.compareBytes
    by_cases h1 : a < b
    · have h2 : ¬ b < a := by rw [UInt8.lt_iff_toNat_lt] at *; omega
      rw [if_neg h2, if_pos h1, if_pos h1]; rfl
    · by_cases h2 : b < a
      · rw [if_pos h2, if_neg h1, if_pos h2]
      · rw [if_neg h2, if_neg h1, if_neg h1, if_neg h2]; exact cmpB_anti as bs
theorem cmpB_trans : ∀ {a b c : Bs}, Lib.compareBytes a b = -1 → Lib.compareBytes b c = -1 → Lib.compareBytes a c = -1
  | [], [], _, h, _ => by cases h
  | [], _ :: _, [], _, h => by cases h
  | [], _ :: _, _ :: _, _, _ => rfl
  | _ :: _, [], _, h, _ => by cases h
  | _ :: _, _ :: _, [], _, h => by cases h
  | a :: as, b :: bs, c :: cs, h, h' => by
    unfold Lib.compareBytes at h h' ⊢
    by_cases h1 : a < b
    · by_cases h2 : b < c
      · rw [if_pos (by rw [UInt8.lt_iff_toNat_lt] at *; omega)]
      · rw [if_neg h2] at h'
        by_cases h3 : c < b
        · rw [if_pos h3] at h'; cases h'
        · rw [if_pos (by rw [UInt8.lt_iff_toNat_lt] at *; omega)]
    · rw [if_neg h1] at h
      by_cases h4 : b < a
      · rw [if_pos h4] at h; cases h
      · rw [if_neg h4] at h
        by_cases h2 : b < c
        · rw [if_pos (by rw [UInt8.lt_iff_toNat_lt] at *; omega)]
        · rw [if_neg h2] at h'
          by_cases h3 : c < b
          · rw [if_pos h3] at h'; cases h'
          · rw [if_neg h3] at h'
            rw [if_neg (by rw [UInt8.lt_iff_toNat_lt] at *; omega), if_neg (by rw [UInt8.lt_iff_toNat_lt] at *; omega)]
            exact cmpB_trans h h'

end Go.Proofs.YtecffghcpknmjaaGreatDoor
