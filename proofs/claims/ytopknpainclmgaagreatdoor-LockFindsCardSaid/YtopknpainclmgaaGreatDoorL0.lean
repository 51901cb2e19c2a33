/- Pins, locks, edits; which ids, versions, Keys may be; the order of Keys; no program in sight. -/
import Derived.Test.YtopknpainclmgaaGreatDoorG0
import Derived.Lib.Bytealg
namespace Go.Proofs.YtopknpainclmgaaGreatDoor
open Go Go.RowKit

structure Pin where
  key : Key
  version : S
  scope : Int
  deriving DecidableEq
structure Lock where
  root : Gav
  pins : List Pin
  deriving DecidableEq
structure Edit where
  key : Key
  had : Bool
  has : Bool
  old : Pin
  new : Pin
  deriving DecidableEq
def pinC (p : Pin) : List Value := [.string p.key.group, .string p.key.artifact, .string p.key.type, .string p.key.classifier, .string p.version, .int .i64 p.scope]
def editC (e : Edit) : List Value := [.string e.key.group, .string e.key.artifact, .string e.key.type, .string e.key.classifier, .bool e.had, .bool e.has,
  .string e.old.key.group, .string e.old.key.artifact, .string e.old.key.type, .string e.old.key.classifier, .string e.old.version, .int .i64 e.old.scope,
  .string e.new.key.group, .string e.new.key.artifact, .string e.new.key.type, .string e.new.key.classifier, .string e.new.version, .int .i64 e.new.scope]
theorem pinC_len (p : Pin) : (pinC p).length = 6 := rfl
theorem pinC_one {p : Pin} : ∀ u ∈ pinC p, u.oneCell' = true := by intro u hu; simp [pinC] at hu; rcases hu with rfl | rfl | rfl | rfl | rfl | rfl <;> rfl
def noKey : Key := ⟨⟨#[]⟩, ⟨#[]⟩, ⟨#[]⟩, ⟨#[]⟩⟩
def noPin : Pin := ⟨noKey, ⟨#[]⟩, 0⟩
def noGav : Gav := ⟨⟨#[]⟩, ⟨#[]⟩, ⟨#[]⟩⟩
def idByte (c : UInt8) : Bool := (decide (97 ≤ c.toNat) && decide (c.toNat ≤ 122)) || (decide (65 ≤ c.toNat) && decide (c.toNat ≤ 90)) || (decide (48 ≤ c.toNat) && decide (c.toNat ≤ 57)) || c.toNat == 46 || c.toNat == 45 || c.toNat == 95
def verByte (c : UInt8) : Bool := idByte c || c.toNat == 43
theorem idByte_iff {c : UInt8} : idByte c = true ↔ (97 ≤ c.toNat ∧ c.toNat ≤ 122) ∨ (65 ≤ c.toNat ∧ c.toNat ≤ 90) ∨ (48 ≤ c.toNat ∧ c.toNat ≤ 57) ∨ c.toNat = 46 ∨ c.toNat = 45 ∨ c.toNat = 95 := by
  simp [idByte, or_assoc]
theorem verByte_iff {c : UInt8} : verByte c = true ↔ (97 ≤ c.toNat ∧ c.toNat ≤ 122) ∨ (65 ≤ c.toNat ∧ c.toNat ≤ 90) ∨ (48 ≤ c.toNat ∧ c.toNat ≤ 57) ∨ c.toNat = 46 ∨ c.toNat = 45 ∨ c.toNat = 95 ∨ c.toNat = 43 := by
  simp [verByte, idByte, or_assoc]
theorem idByte_no {c : UInt8} (h : idByte c = false) : ¬ ((97 ≤ c.toNat ∧ c.toNat ≤ 122) ∨ (65 ≤ c.toNat ∧ c.toNat ≤ 90) ∨ (48 ≤ c.toNat ∧ c.toNat ≤ 57) ∨ c.toNat = 46 ∨ c.toNat = 45 ∨ c.toNat = 95) := by
  rw [← idByte_iff, h]; simp
theorem verByte_no {c : UInt8} (h : verByte c = false) : ¬ ((97 ≤ c.toNat ∧ c.toNat ≤ 122) ∨ (65 ≤ c.toNat ∧ c.toNat ≤ 90) ∨ (48 ≤ c.toNat ∧ c.toNat ≤ 57) ∨ c.toNat = 46 ∨ c.toNat = 45 ∨ c.toNat = 95 ∨ c.toNat = 43) := by
  rw [← verByte_iff, h]; simp
def isIdB (s : S) : Bool := s.data.toList.all idByte && decide (1 ≤ s.size) && decide (s.size ≤ 64)
def verMay (s : S) : Bool := s.data.toList.all verByte && decide (1 ≤ s.size) && decide (s.size ≤ 64)
def gavMay (g : Gav) : Bool := isIdB g.group && isIdB g.artifact && verMay g.version
def keyMay (k : Key) : Bool := isIdB k.group && isIdB k.artifact && isIdB k.type && (k.classifier.toList.isEmpty || isIdB k.classifier)
def pinMay (p : Pin) : Bool := keyMay p.key && verMay p.version && decide (1 ≤ p.scope) && decide (p.scope ≤ 5)
/-! The order of Keys. -/
def cmpS (a b : S) : Int := Lib.compareBytes a.data.toList b.data.toList
def fieldsOf (k : Key) : List S := [k.group, k.artifact, k.type, k.classifier]
def cmpL : List S → List S → Int
  | a :: l, b :: m => if cmpS a b = 0 then cmpL l m else cmpS a b
  | _, _ => 0
def cmpK (a b : Key) : Int := cmpL (fieldsOf a) (fieldsOf b)
theorem cmpB_range : ∀ a b : Bs, Lib.compareBytes a b = -1 ∨ Lib.compareBytes a b = 0 ∨ Lib.compareBytes a b = 1
  | [], [] => .inr (.inl rfl)
  | [], _ :: _ => .inl rfl
  | _ :: _, [] => .inr (.inr rfl)
  | a :: as, b :: bs => by
    unfold Lib.compareBytes
    by_cases h1 : a < b
    · rw [if_pos h1]; exact .inl rfl
    · rw [if_neg h1]
      by_cases h2 : b < a
      · rw [if_pos h2]; exact .inr (.inr rfl)
      · rw [if_neg h2]; exact cmpB_range as bs
theorem cmpB_refl : ∀ a : Bs, Lib.compareBytes a a = 0
  | [] => rfl
  | a :: as => by unfold Lib.compareBytes; rw [if_neg (by simp), if_neg (by simp)]; exact cmpB_refl as
theorem cmpB_eq : ∀ {a b : Bs}, Lib.compareBytes a b = 0 → a = b
  | [], [], _ => rfl
  | [], _ :: _, h => by cases h
  | _ :: _, [], h => by cases h
  | a :: as, b :: bs, h => by
    unfold Lib.compareBytes at h
    by_cases h1 : a < b
    · rw [if_pos h1] at h; cases h
    · rw [if_neg h1] at h
      by_cases h2 : b < a
      · rw [if_pos h2] at h; cases h
      · rw [if_neg h2] at h
        have : a = b := by
          rw [UInt8.lt_iff_toNat_lt] at h1 h2
          exact UInt8.toNat_inj.1 (by omega)
        rw [this, cmpB_eq h]
theorem cmpS_range (a b : S) : cmpS a b = -1 ∨ cmpS a b = 0 ∨ cmpS a b = 1 := cmpB_range _ _
theorem cmpS_eq {a b : S} (h : cmpS a b = 0) : a = b := by rw [← data_bs a, ← data_bs b, cmpB_eq h]
theorem cmpL_range : ∀ a b : List S, cmpL a b = -1 ∨ cmpL a b = 0 ∨ cmpL a b = 1
  | [], _ => .inr (.inl rfl)
  | _ :: _, [] => .inr (.inl rfl)
  | a :: l, b :: m => by
    simp only [cmpL]
    by_cases h : cmpS a b = 0
    · rw [if_pos h]; exact cmpL_range l m
    · rw [if_neg h]; exact cmpS_range a b
theorem cmpK_range (a b : Key) : cmpK a b = -1 ∨ cmpK a b = 0 ∨ cmpK a b = 1 := cmpL_range _ _
/-- Do the Keys of some pins rise? -/
def rises : List Key → Bool
  | [] => true
  | [_] => true
  | a :: b :: l => decide (cmpK a b = -1) && rises (b :: l)
def lockMay (l : Lock) : Bool := l.pins.all pinMay && rises (l.pins.map (·.key)) && gavMay l.root && decide (l.pins.length ≤ 4096)

end Go.Proofs.YtopknpainclmgaaGreatDoor
