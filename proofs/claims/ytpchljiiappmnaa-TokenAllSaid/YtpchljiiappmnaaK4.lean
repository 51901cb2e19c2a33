/- Walks of the predicates on bytes, the program's and the document's; their conditions stand in the theorems. -/
import Derived.Test.YtpchljiiappmnaaProg
import Derived.Test.YtpchljiiappmnaaK3
import Derived.WalkKit
import Derived.WalkSpells
import Derived.WalkLawsBesides
import Derived.Deep.QuietTactic
import Derived.BigQuiet
import Derived.Lib.Hide
namespace Go.Proofs.Ytpchljiiappmnaa
open Go Go.RowKit

theorem isBlank_any (c : UInt8) (w : World) : Calls Try.prog 104 #[.int .u8 c.toNat] w fun e w' => e = .returned (.bool (cBlank c)) ∧ w = w' := by
  go_enter Try.func104, Try.ntmps104
  go_wp2
  all_goals (go_ret; exact ⟨ret_bool (by rw [Bool.eq_iff_iff]; simp [cBlank]; omega), rfl⟩)

theorem isDigit_any (c : UInt8) (w : World) : Calls Try.prog 135 #[.int .u8 c.toNat] w fun e w' => e = .returned (.bool (cDigit c)) ∧ w = w' := by
  go_enter Try.func135, Try.ntmps135
  go_wp2
  all_goals (go_ret; exact ⟨ret_bool (by rw [Bool.eq_iff_iff]; simp [cDigit]; omega), rfl⟩)

theorem isLower_any (c : UInt8) (w : World) : Calls Try.prog 131 #[.int .u8 c.toNat] w fun e w' => e = .returned (.bool (cLower c)) ∧ w = w' := by
  go_enter Try.func131, Try.ntmps131
  go_wp2
  all_goals (go_ret; exact ⟨ret_bool (by rw [Bool.eq_iff_iff]; simp [cLower]; omega), rfl⟩)

set_option maxHeartbeats 1000000 in
theorem isFirst_any (c : UInt8) (w : World) : Calls Try.prog 124 #[.int .u8 c.toNat] w fun e w' => e = .returned (.bool (cFirst c)) ∧ w = w' := by
  go_enter Try.func124, Try.ntmps124
  go_wp2
  all_goals (go_ret; exact ⟨ret_bool (by rw [Bool.eq_iff_iff]; simp [cFirst]; omega), rfl⟩)

set_option maxHeartbeats 1000000 in
theorem isText_any (c : UInt8) (w : World) : Calls Try.prog 115 #[.int .u8 c.toNat] w fun e w' => e = .returned (.bool (cText c)) ∧ w = w' := by
  by_cases h : 32 ≤ (c.toNat : Int)
  · go_enter Try.func115, Try.ntmps115
    go_wp2
    go_ret
    exact ⟨ret_bool (by have : 32 ≤ c.toNat := by omega
                        simp [cText, this]), rfl⟩
  · go_enter Try.func115, Try.ntmps115
    go_wp2_with (go_at_call 104; refine (isBlank_any c _).mono ?_; rintro e w' ⟨rfl, rfl⟩)
    go_ret
    exact ⟨ret_bool (by have : ¬ 32 ≤ c.toNat := by omega
                        simp [cText, this]), rfl⟩

set_option maxHeartbeats 1000000 in
theorem isName_any (c : UInt8) (w : World) : Calls Try.prog 125 #[.int .u8 c.toNat] w fun e w' => e = .returned (.bool (cName c)) ∧ w = w' := by
  cases h1 : cFirst c
  · cases h2 : cDigit c
    · go_enter Try.func125, Try.ntmps125
      go_wp2_with (first | (go_at_call 124; refine (isFirst_any c _).mono ?_; rintro e w' ⟨rfl, rfl⟩; rw [h1]) | (go_at_call 135; refine (isDigit_any c _).mono ?_; rintro e w' ⟨rfl, rfl⟩; rw [h2]))
      all_goals (go_ret; exact ⟨ret_bool (by rw [Bool.eq_iff_iff]; simp [cName, h1, h2]; omega), rfl⟩)
    · go_enter Try.func125, Try.ntmps125
      go_wp2_with (first | (go_at_call 124; refine (isFirst_any c _).mono ?_; rintro e w' ⟨rfl, rfl⟩; rw [h1]) | (go_at_call 135; refine (isDigit_any c _).mono ?_; rintro e w' ⟨rfl, rfl⟩; rw [h2]))
      go_ret
      exact ⟨ret_bool (by simp [cName, h2]), rfl⟩
  · go_enter Try.func125, Try.ntmps125
    go_wp2_with (go_at_call 124; refine (isFirst_any c _).mono ?_; rintro e w' ⟨rfl, rfl⟩; rw [h1])
    go_ret
    exact ⟨ret_bool (by simp [cName, h1]), rfl⟩

/-- The document's class of a byte. -/
def classV (c : UInt8) : Int := (if cBlank c then 1 else 0) + (if cDigit c then 10 else 0) + (if cFirst c then 12 else 0) + (if c.toNat = 46 ∨ c.toNat = 45 ∨ c.toNat = 58 then 8 else 0) + (if cText c then 16 else 0)

set_option maxRecDepth 100000 in
set_option maxHeartbeats 4000000 in
theorem class_eq (c : UInt8) (w : World) (h : c.toNat = 9 ∨ c.toNat = 10 ∨ c.toNat = 13 ∨ c.toNat = 32 ∨ c.toNat = 45 ∨ c.toNat = 46 ∨ c.toNat = 58 ∨ c.toNat = 95) : Calls Try.prog 58 #[.int .u8 c.toNat] w fun e w' => e = .returned (.int .i64 (classV c)) ∧ w = w' := by
  rcases h with h | h | h | h | h | h | h | h
  all_goals
    rw [h]
    have HH := Lib.hid h
    clear h
    go_enter Try.func58, Try.ntmps58
    go_wp2
    go_ret
    exact ⟨ret_int (by simp [classV, cBlank, cDigit, cFirst, cText, HH.out]), rfl⟩

set_option maxRecDepth 100000 in
set_option maxHeartbeats 8000000 in
theorem class_ne (c : UInt8) (w : World) (e1 : ((c.toNat : Int) == 9) = false) (e2 : ((c.toNat : Int) == 10) = false) (e3 : ((c.toNat : Int) == 13) = false) (e4 : ((c.toNat : Int) == 32) = false) (e5 : ((c.toNat : Int) == 45) = false) (e6 : ((c.toNat : Int) == 46) = false) (e7 : ((c.toNat : Int) == 58) = false) (e8 : ((c.toNat : Int) == 95) = false) :
    Calls Try.prog 58 #[.int .u8 c.toNat] w fun e w' => e = .returned (.int .i64 (classV c)) ∧ w = w' := by
  have hc : (c.toNat : Int) < 32 ∨ (32 < (c.toNat : Int) ∧ (c.toNat : Int) < 48) ∨ (48 ≤ (c.toNat : Int) ∧ (c.toNat : Int) ≤ 57) ∨ (57 < (c.toNat : Int) ∧ (c.toNat : Int) < 65) ∨ (65 ≤ (c.toNat : Int) ∧ (c.toNat : Int) ≤ 90) ∨ (90 < (c.toNat : Int) ∧ (c.toNat : Int) < 97) ∨ (97 ≤ (c.toNat : Int) ∧ (c.toNat : Int) ≤ 122) ∨ 122 < (c.toNat : Int) := by
    have : c.toNat ≠ 32 := by intro h; simp [h] at e4
    omega
  have f1 : c.toNat ≠ 9 := by intro h; simp [h] at e1
  have f2 : c.toNat ≠ 10 := by intro h; simp [h] at e2
  have f3 : c.toNat ≠ 13 := by intro h; simp [h] at e3
  have f4 : c.toNat ≠ 32 := by intro h; simp [h] at e4
  have f5 : c.toNat ≠ 45 := by intro h; simp [h] at e5
  have f6 : c.toNat ≠ 46 := by intro h; simp [h] at e6
  have f7 : c.toNat ≠ 58 := by intro h; simp [h] at e7
  have f8 : c.toNat ≠ 95 := by intro h; simp [h] at e8
  have H : Hid (classV c = (if 48 ≤ c.toNat ∧ c.toNat ≤ 57 then 10 else 0) + (if (65 ≤ c.toNat ∧ c.toNat ≤ 90) ∨ (97 ≤ c.toNat ∧ c.toNat ≤ 122) then 12 else 0) + (if 32 ≤ c.toNat then 16 else 0)) := by
    show _ = _
    simp [classV, cBlank, cDigit, cFirst, cText, f1, f2, f3, f4, f5, f6, f7, f8]
  clear f1 f2 f3 f4 f5 f6 f7 f8
  rcases hc with h | ⟨h, h'⟩ | ⟨h, h'⟩ | ⟨h, h'⟩ | ⟨h, h'⟩ | ⟨h, h'⟩ | ⟨h, h'⟩ | h
  all_goals
    go_enter Try.func58, Try.ntmps58
    go_wp2
    go_ret
    exact ⟨ret_int (by rw [H.out]; simp (disch := omega) [if_pos, if_neg]), rfl⟩

theorem class_any (c : UInt8) (w : World) : Calls Try.prog 58 #[.int .u8 c.toNat] w fun e w' => e = .returned (.int .i64 (classV c)) ∧ w = w' := by
  by_cases h : c.toNat = 9 ∨ c.toNat = 10 ∨ c.toNat = 13 ∨ c.toNat = 32 ∨ c.toNat = 45 ∨ c.toNat = 46 ∨ c.toNat = 58 ∨ c.toNat = 95
  · exact class_eq c w h
  · refine class_ne c w ?_ ?_ ?_ ?_ ?_ ?_ ?_ ?_ <;> (simp; omega)

/-- What the document asks of a class. -/
def inClass (k : Int) (c : UInt8) : Bool := if k = 1 then cBlank c else if k = 4 then cFirst c else if k = 8 then cName c else cText c
theorem classV_is (c : UInt8) : (classV c % 2 = 1 ↔ cBlank c = true) ∧ (classV c / 4 % 2 = 1 ↔ cFirst c = true) ∧ (classV c / 8 % 2 = 1 ↔ cName c = true) ∧ (classV c / 16 % 2 = 1 ↔ cText c = true) ∧ 0 ≤ classV c ∧ classV c < 64 := by
  have h : ∀ n : Fin 256, (classV (UInt8.ofNat n) % 2 = 1 ↔ cBlank (UInt8.ofNat n) = true) ∧ (classV (UInt8.ofNat n) / 4 % 2 = 1 ↔ cFirst (UInt8.ofNat n) = true) ∧ (classV (UInt8.ofNat n) / 8 % 2 = 1 ↔ cName (UInt8.ofNat n) = true) ∧ (classV (UInt8.ofNat n) / 16 % 2 = 1 ↔ cText (UInt8.ofNat n) = true) ∧ 0 ≤ classV (UInt8.ofNat n) ∧ classV (UInt8.ofNat n) < 64 := by decide +kernel
  have := h ⟨c.toNat, c.toNat_lt⟩
  simpa using this

end Go.Proofs.Ytpchljiiappmnaa
