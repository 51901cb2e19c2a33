/- Walks: numbers as texts, the program's and the document's; the conditions stand in the theorems. -/
import Derived.Test.YtopknpainclmgaaGreatDoorD1

namespace Go.Proofs.YtopknpainclmgaaGreatDoor
open Go Go.RowKit

theorem numB_low {n : Nat} (h : n < 10) : numB n = [UInt8.ofNat (48 + n)] := by rw [numB, if_pos h]
theorem numB_high {n : Nat} (h : ¬ n < 10) : numB n = numB (n / 10) ++ numB (n % 10) := by
  rw [numB, if_neg h, numB_low (n := n % 10) (by omega)]
theorem numB_len : ∀ k n : Nat, n < 10 ^ k → (numB n).length ≤ k + 1
  | 0, n, h => by
    have : n = 0 := by simpa using h
    subst this
    rw [numB_low (by omega)]; simp
  | k + 1, n, h => by
    by_cases hn : n < 10
    · rw [numB_low hn]; simp
    · rw [numB_high hn, List.length_append, numB_low (n := n % 10) (by omega)]
      have := numB_len k (n / 10) (by rw [Nat.pow_succ] at h; omega)
      simp only [List.length_singleton]
      omega
set_option maxHeartbeats 4000000 in
theorem number_any (n : Nat) : ∀ (w : World), n ≤ 1000000 → Calls Tryz.prog 29 #[.int .i64 n] w fun e w' => e = .returned (.string (bs (numB n))) ∧ w = w' := by
  induction n using Nat.strongRecOn with
  | ind n ih =>
    intro w hn
    by_cases h : n < 10
    · rcases (by omega : n = 0 ∨ n = 1 ∨ n = 2 ∨ n = 3 ∨ n = 4 ∨ n = 5 ∨ n = 6 ∨ n = 7 ∨ n = 8 ∨ n = 9) with rfl | rfl | rfl | rfl | rfl | rfl | rfl | rfl | rfl | rfl
      all_goals
        clear ih
        go_enter Tryz.func29, Tryz.ntmps29
        go_wp2
        go_ret
        refine ⟨?_, rfl⟩
        rw [numB_low (by decide)]
        exact congrArg (fun x => Ending.returned (.string x)) (by rw [Lib.extract_eq]; rfl)
    · have HI1 := Lib.hid (ih (n / 10) (by omega))
      have HI2 := Lib.hid (ih (n % 10) (by omega))
      have HE := Lib.hid (numB_high h)
      have h1 : (10 : Int) ≤ (n : Int) := by omega
      have h2 : ((n : Int) < 10) = False := by simp; omega
      have hq : (n : Int) / 10 = ((n / 10 : Nat) : Int) := by omega
      have hr : (n : Int) % 10 = ((n % 10 : Nat) : Int) := by omega
      have hl1 := numB_len 7 (n / 10) (by omega)
      have hl2 := numB_len 7 (n % 10) (by omega)
      have HL1 : Hid (n / 10 ≤ 1000000) := by show _ ≤ _; omega
      have HL2 : Hid (n % 10 ≤ 1000000) := by show _ ≤ _; omega
      clear ih h
      generalize n / 10 = a at *
      generalize n % 10 = b at *
      have hs : ¬ 9223372036854775807 < (bs (numB a)).size + (bs (numB b)).size := by rw [bs_size, bs_size]; omega
      go_enter Tryz.func29, Tryz.ntmps29
      go_wp2_with fail
      refine (HI1.out w HL1.out).mono ?_
      rintro e w' ⟨rfl, rfl⟩
      go_wp2_with fail
      refine (HI2.out w HL2.out).mono ?_
      rintro e w' ⟨rfl, rfl⟩
      go_wp2
      go_ret
      exact ⟨by rw [HE.out]; rfl, rfl⟩

end Go.Proofs.YtopknpainclmgaaGreatDoor
