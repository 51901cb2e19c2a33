/- Pins, locks, edits; which ids, versions, Keys may be; the order of Keys; no program in sight. -/
import Derived.Test.YtmcjpmogjmnfpaaDoorG0
import Derived.Lib.Bytealg
namespace Go.Proofs.YtmcjpmogjmnfpaaDoor
open Go Go.RowKit

structure Pin where
  key : Key
  version : S
  scope : Int
  deriving DecidableEq
structure Lock where
  root : Gav
  pins : List Pin
  deriving DecidableEq
structure Edit where
  key : Key
  had : Bool
  has : Bool
  old : Pin
  new : Pin
  deriving DecidableEq
def pinC (p : Pin) : List Value := [.string p.key.group, .string p.key.artifact, .string p.key.type, .string p.key.classifier, .string p.version, .int .i64 p.scope]
def editC (e : Edit) : List Value := [.string e.key.group, .string e.key.artifact, .string e.key.type, .string e.key.classifier, .bool e.had, .bool e.has,
  .string e.old.key.group, .string e.old.key.artifact, .string e.old.key.type, .string e.old.key.classifier, .string e.old.version, .int .i64 e.old.scope,
  .string e.new.key.group, .string e.new.key.artifact, .string e.new.key.type, .string e.new.key.classifier, .string e.new.version, .int .i64 e.new.scope]
theorem pinC_len (p : Pin) : (pinC p).length = 6 := rfl
theorem editC_len (p : Edit) : (editC p).length = 18 := rfl
theorem keyC_len (p : Key) : (keyC p).length = 4 := rfl
theorem pinC_one {p : Pin} : ∀ u ∈ pinC p, u.oneCell' = true := by intro u hu; simp [pinC] at hu; rcases hu with rfl | rfl | rfl | rfl | rfl | rfl <;> rfl
theorem editC_one {p : Edit} : ∀ u ∈ editC p, u.oneCell' = true := by
  intro u hu; simp [editC] at hu
  rcases hu with rfl | rfl | rfl | rfl | rfl | rfl | rfl | rfl | rfl | rfl | rfl | rfl | rfl | rfl | rfl | rfl | rfl | rfl <;> rfl
theorem keyC_one {p : Key} : ∀ u ∈ keyC p, u.oneCell' = true := by intro u hu; simp [keyC] at hu; rcases hu with rfl | rfl | rfl | rfl <;> rfl

def noKey : Key := ⟨⟨#[]⟩, ⟨#[]⟩, ⟨#[]⟩, ⟨#[]⟩⟩
def noPin : Pin := ⟨noKey, ⟨#[]⟩, 0⟩
def noGav : Gav := ⟨⟨#[]⟩, ⟨#[]⟩, ⟨#[]⟩⟩

def idByte (c : UInt8) : Bool := (decide (97 ≤ c.toNat) && decide (c.toNat ≤ 122)) || (decide (65 ≤ c.toNat) && decide (c.toNat ≤ 90)) || (decide (48 ≤ c.toNat) && decide (c.toNat ≤ 57)) || c.toNat == 46 || c.toNat == 45 || c.toNat == 95
def verByte (c : UInt8) : Bool := idByte c || c.toNat == 43
theorem idByte_iff {c : UInt8} : idByte c = true ↔ (97 ≤ c.toNat ∧ c.toNat ≤ 122) ∨ (65 ≤ c.toNat ∧ c.toNat ≤ 90) ∨ (48 ≤ c.toNat ∧ c.toNat ≤ 57) ∨ c.toNat = 46 ∨ c.toNat = 45 ∨ c.toNat = 95 := by
  simp [idByte, or_assoc]
theorem verByte_iff {c : UInt8} : verByte c = true ↔ (97 ≤ c.toNat ∧ c.toNat ≤ 122) ∨ (65 ≤ c.toNat ∧ c.toNat ≤ 90) ∨ (48 ≤ c.toNat ∧ c.toNat ≤ 57) ∨ c.toNat = 46 ∨ c.toNat = 45 ∨ c.toNat = 95 ∨ c.toNat = 43 := by
  simp [verByte, idByte, or_assoc]
theorem idByte_no {c : UInt8} (h : idByte c = false) : ¬ ((97 ≤ c.toNat ∧ c.toNat ≤ 122) ∨ (65 ≤ c.toNat ∧ c.toNat ≤ 90) ∨ (48 ≤ c.toNat ∧ c.toNat ≤ 57) ∨ c.toNat = 46 ∨ c.toNat = 45 ∨ c.toNat = 95) := by
  rw [← idByte_iff, h]; simp
theorem verByte_no {c : UInt8} (h : verByte c = false) : ¬ ((97 ≤ c.toNat ∧ c.toNat ≤ 122) ∨ (65 ≤ c.toNat ∧ c.toNat ≤ 90) ∨ (48 ≤ c.toNat ∧ c.toNat ≤ 57) ∨ c.toNat = 46 ∨ c.toNat = 45 ∨ c.toNat = 95 ∨ c.toNat = 43) := by
  rw [← verByte_iff, h]; simp

def isIdB (s : S) : Bool := s.data.toList.all idByte && decide (1 ≤ s.size) && decide (s.size ≤ 64)
def verMay (s : S) : Bool := s.data.toList.all verByte && decide (1 ≤ s.size) && decide (s.size ≤ 64)
def gavMay (g : Gav) : Bool := isIdB g.group && isIdB g.artifact && verMay g.version
def keyMay (k : Key) : Bool := isIdB k.group && isIdB k.artifact && isIdB k.type && (k.classifier.toList.isEmpty || isIdB k.classifier)
def pinMay (p : Pin) : Bool := keyMay p.key && verMay p.version && decide (1 ≤ p.scope) && decide (p.scope ≤ 5)

/-! The order of Keys. -/
def cmpS (a b : S) : Int := Lib.compareBytes a.data.toList b.data.toList
def fieldsOf (k : Key) : List S := [k.group, k.artifact, k.type, k.classifier]
def cmpL : List S → List S → Int
  | a :: l, b :: m => if cmpS a b = 0 then cmpL l m else cmpS a b
  | _, _ => 0
def cmpK (a b : Key) : Int := cmpL (fieldsOf a) (fieldsOf b)

theorem cmpB_range : ∀ a b : Bs, Lib.compareBytes a b = -1 ∨ Lib.compareBytes a b = 0 ∨ Lib.compareBytes a b = 1
  | [], [] => .inr (.inl rfl)
  | [], _ :: _ => .inl rfl
  | _ :: _, [] => .inr (.inr rfl)
  | a :: as, b :: bs => by
    unfold Lib.compareBytes
    by_cases h1 : a < b
    · rw [if_pos h1]; exact .inl rfl
    · rw [if_neg h1]
      by_cases h2 : b < a
      · rw [if_pos h2]; exact .inr (.inr rfl)
      · rw [if_neg h2]; exact cmpB_range as bs
theorem cmpB_refl : ∀ a : Bs, Lib.compareBytes a a = 0
  | [] => rfl
  | a :: as => by unfold Lib.compareBytes; rw [if_neg (by simp), if_neg (by simp)]; exact cmpB_refl as
theorem cmpB_eq : ∀ {a b : Bs}, Lib.compareBytes a b = 0 → a = b
  | [], [], _ => rfl
  | [], _ :: _, h => by cases h
  | _ :: _, [], h => by cases h
  | a :: as, b :: bs, h => by
    unfold Lib.compareBytes at h
    by_cases h1 : a < b
    · rw [if_pos h1] at h; cases h
    · rw [if_neg h1] at h
      by_cases h2 : b < a
      · rw [if_pos h2] at h; cases h
      · rw [if_neg h2] at h
        have : a = b := by
          rw [UInt8.lt_iff_toNat_lt] at h1 h2
          exact UInt8.toNat_inj.1 (by omega)
        rw [this, cmpB_eq h]
theorem cmpB_anti : ∀ a b : Bs, Lib.compareBytes b a = - Lib.compareBytes a b
  | [], [] => rfl
  | [], _ :: _ => rfl
  | _ :: _, [] => rfl
  | a :: as, b :: bs => by
    unfold Lib.compareBytes
    by_cases h1 : a < b
    · have h2 : ¬ b < a := by rw [UInt8.lt_iff_toNat_lt] at *; omega
      rw [if_neg h2, if_pos h1, if_pos h1]; rfl
    · by_cases h2 : b < a
      · rw [if_pos h2, if_neg h1, if_pos h2]
      · rw [if_neg h2, if_neg h1, if_neg h1, if_neg h2]; exact cmpB_anti as bs
theorem cmpB_trans : ∀ {a b c : Bs}, Lib.compareBytes a b = -1 → Lib.compareBytes b c = -1 → Lib.compareBytes a c = -1
  | [], [], _, h, _ => by cases h
  | [], _ :: _, [], _, h => by cases h
  | [], _ :: _, _ :: _, _, _ => rfl
  | _ :: _, [], _, h, _ => by cases h
  | _ :: _, _ :: _, [], _, h => by cases h
  | a :: as, b :: bs, c :: cs, h, h' => by
    unfold Lib.compareBytes at h h' ⊢
    by_cases h1 : a < b
    · by_cases h2 : b < c
      · rw [if_pos (by rw [UInt8.lt_iff_toNat_lt] at *; omega)]
      · rw [if_neg h2] at h'
        by_cases h3 : c < b
        · rw [if_pos h3] at h'; cases h'
        · rw [if_pos (by rw [UInt8.lt_iff_toNat_lt] at *; omega)]
    · rw [if_neg h1] at h
      by_cases h4 : b < a
      · rw [if_pos h4] at h; cases h
      · rw [if_neg h4] at h
        by_cases h2 : b < c
        · rw [if_pos (by rw [UInt8.lt_iff_toNat_lt] at *; omega)]
        · rw [if_neg h2] at h'
          by_cases h3 : c < b
          · rw [if_pos h3] at h'; cases h'
          · rw [if_neg h3] at h'
            rw [if_neg (by rw [UInt8.lt_iff_toNat_lt] at *; omega), if_neg (by rw [UInt8.lt_iff_toNat_lt] at *; omega)]
            exact cmpB_trans h h'

theorem cmpS_range (a b : S) : cmpS a b = -1 ∨ cmpS a b = 0 ∨ cmpS a b = 1 := cmpB_range _ _
theorem cmpS_refl (a : S) : cmpS a a = 0 := cmpB_refl _
theorem cmpS_eq {a b : S} (h : cmpS a b = 0) : a = b := by rw [← data_bs a, ← data_bs b, cmpB_eq h]
theorem cmpS_anti (a b : S) : cmpS b a = - cmpS a b := cmpB_anti _ _
theorem cmpS_trans {a b c : S} (h : cmpS a b = -1) (h' : cmpS b c = -1) : cmpS a c = -1 := cmpB_trans h h'
theorem cmpL_range : ∀ a b : List S, cmpL a b = -1 ∨ cmpL a b = 0 ∨ cmpL a b = 1
  | [], _ => .inr (.inl rfl)
  | _ :: _, [] => .inr (.inl rfl)
  | a :: l, b :: m => by
    simp only [cmpL]
    by_cases h : cmpS a b = 0
    · rw [if_pos h]; exact cmpL_range l m
    · rw [if_neg h]; exact cmpS_range a b
theorem cmpL_refl : ∀ l : List S, cmpL l l = 0
  | [] => rfl
  | a :: l => by simp only [cmpL]; rw [if_pos (cmpS_refl a)]; exact cmpL_refl l
theorem cmpL_eq : ∀ {l m : List S}, l.length = m.length → cmpL l m = 0 → l = m
  | [], [], _, _ => rfl
  | [], _ :: _, h, _ => by cases h
  | _ :: _, [], h, _ => by cases h
  | a :: l, b :: m, hl, h => by
    simp only [cmpL] at h
    by_cases h0 : cmpS a b = 0
    · rw [if_pos h0] at h; rw [cmpS_eq h0, cmpL_eq (by simpa using hl) h]
    · rw [if_neg h0] at h; exact absurd h h0
theorem cmpL_anti : ∀ l m : List S, cmpL m l = - cmpL l m
  | [], [] => rfl
  | [], _ :: _ => rfl
  | _ :: _, [] => rfl
  | a :: l, b :: m => by
    simp only [cmpL]
    have := cmpS_anti a b
    by_cases h0 : cmpS a b = 0
    · rw [if_pos (by omega), if_pos h0]; exact cmpL_anti l m
    · rw [if_neg (by omega), if_neg h0]; exact this
theorem cmpL_trans : ∀ {l m n : List S}, cmpL l m = -1 → cmpL m n = -1 → cmpL l n = -1
  | [], _, _, h, _ => by cases h
  | _ :: _, [], _, h, _ => by cases h
  | _ :: _, _ :: _, [], _, h => by cases h
  | a :: l, b :: m, c :: n, h, h' => by
    simp only [cmpL] at h h' ⊢
    by_cases h0 : cmpS a b = 0
    · rw [if_pos h0] at h
      have e := cmpS_eq h0
      subst e
      by_cases h1 : cmpS a c = 0
      · rw [if_pos h1] at h' ⊢; exact cmpL_trans h h'
      · rw [if_neg h1] at h' ⊢; exact h'
    · rw [if_neg h0] at h
      by_cases h1 : cmpS b c = 0
      · have e := cmpS_eq h1
        subst e
        rw [if_neg (by omega)]; exact h
      · rw [if_neg h1] at h'
        have := cmpS_trans h h'
        rw [if_neg (by omega)]; exact this

theorem cmpK_range (a b : Key) : cmpK a b = -1 ∨ cmpK a b = 0 ∨ cmpK a b = 1 := cmpL_range _ _
theorem cmpK_refl (a : Key) : cmpK a a = 0 := cmpL_refl _
theorem cmpK_eq {a b : Key} (h : cmpK a b = 0) : a = b := by
  have := cmpL_eq (l := fieldsOf a) (m := fieldsOf b) rfl h
  cases a; cases b
  simp [fieldsOf] at this
  obtain ⟨rfl, rfl, rfl, rfl⟩ := this
  rfl
theorem cmpK_anti (a b : Key) : cmpK b a = - cmpK a b := cmpL_anti _ _
theorem cmpK_trans {a b c : Key} (h : cmpK a b = -1) (h' : cmpK b c = -1) : cmpK a c = -1 := cmpL_trans h h'
theorem cmpK_zero {a b : Key} : cmpK a b = 0 ↔ a = b := ⟨cmpK_eq, fun h => h ▸ cmpK_refl a⟩

/-- Do the Keys of some pins rise? -/
def rises : List Key → Bool
  | [] => true
  | [_] => true
  | a :: b :: l => decide (cmpK a b = -1) && rises (b :: l)
def lockMay (l : Lock) : Bool := l.pins.all pinMay && rises (l.pins.map (·.key)) && gavMay l.root && decide (l.pins.length ≤ 4096)

end Go.Proofs.YtmcjpmogjmnfpaaDoor
