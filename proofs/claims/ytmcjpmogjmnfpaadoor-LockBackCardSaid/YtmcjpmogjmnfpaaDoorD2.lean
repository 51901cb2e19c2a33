/- Walks: numbers as texts, the program's and the document's; the conditions stand in the theorems. -/
import Derived.Test.YtmcjpmogjmnfpaaDoorD1
namespace Go.Proofs.YtmcjpmogjmnfpaaDoor
open Go Go.RowKit

theorem numB_low {n : Nat} (h : n < 10) : numB n = [UInt8.ofNat (48 + n)] := by rw [numB, if_pos h]
theorem numB_high {n : Nat} (h : ¬ n < 10) : numB n = numB (n / 10) ++ numB (n % 10) := by
  rw [numB, if_neg h, numB_low (n := n % 10) (by omega)]
theorem numB_len : ∀ k n : Nat, n < 10 ^ k → (numB n).length ≤ k + 1
  | 0, n, h => by
    have : n = 0 := by simpa using h
    subst this
    rw [numB_low (by omega)]; simp
  | k + 1, n, h => by
    by_cases hn : n < 10
    · rw [numB_low hn]; simp
    · rw [numB_high hn, List.length_append, numB_low (n := n % 10) (by omega)]
      have := numB_len k (n / 10) (by rw [Nat.pow_succ] at h; omega)
      simp only [List.length_singleton]
      omega

set_option maxHeartbeats 4000000 in
theorem number_any (n : Nat) : ∀ (w : World), n ≤ 1000000 → Calls Tryd.prog 22 #[.int .i64 n] w fun e w' => e = .returned (.string (bs (numB n))) ∧ w = w' := by
  induction n using Nat.strongRecOn with
  | ind n ih =>
    intro w hn
    by_cases h : n < 10
    · rcases (by omega : n = 0 ∨ n = 1 ∨ n = 2 ∨ n = 3 ∨ n = 4 ∨ n = 5 ∨ n = 6 ∨ n = 7 ∨ n = 8 ∨ n = 9) with rfl | rfl | rfl | rfl | rfl | rfl | rfl | rfl | rfl | rfl
      all_goals
        clear ih
        go_enter Tryd.func22, Tryd.ntmps22
        go_wp2
        go_ret
        refine ⟨?_, rfl⟩
        rw [numB_low (by decide)]
        exact congrArg (fun x => Ending.returned (.string x)) (by rw [Lib.extract_eq]; rfl)
    · have HI1 := Lib.hid (ih (n / 10) (by omega))
      have HI2 := Lib.hid (ih (n % 10) (by omega))
      have HE := Lib.hid (numB_high h)
      have h1 : (10 : Int) ≤ (n : Int) := by omega
      have h2 : ((n : Int) < 10) = False := by simp; omega
      have hq : (n : Int) / 10 = ((n / 10 : Nat) : Int) := by omega
      have hr : (n : Int) % 10 = ((n % 10 : Nat) : Int) := by omega
      have hl1 := numB_len 7 (n / 10) (by omega)
      have hl2 := numB_len 7 (n % 10) (by omega)
      have HL1 : Hid (n / 10 ≤ 1000000) := by show _ ≤ _; omega
      have HL2 : Hid (n % 10 ≤ 1000000) := by show _ ≤ _; omega
      clear ih h
      generalize n / 10 = a at *
      generalize n % 10 = b at *
      have hs : ¬ 9223372036854775807 < (bs (numB a)).size + (bs (numB b)).size := by rw [bs_size, bs_size]; omega
      go_enter Tryd.func22, Tryd.ntmps22
      go_wp2_with fail
      refine (HI1.out w HL1.out).mono ?_
      rintro e w' ⟨rfl, rfl⟩
      go_wp2_with fail
      refine (HI2.out w HL2.out).mono ?_
      rintro e w' ⟨rfl, rfl⟩
      go_wp2
      go_ret
      exact ⟨by rw [HE.out]; rfl, rfl⟩

theorem conv_dig (w : World) (d : Nat) (hd : d < 10) : (convert 61 9 (.slice (some ⟨w.heap.size, 0, none⟩) 1 1)).run Tryd.prog (w.alloc (.cells #[.int .u8 (48 + (d : Int))] 5)) = .ok (.string (bs [UInt8.ofNat (48 + d)])) (w.alloc (.cells #[.int .u8 (48 + (d : Int))] 5)) := by
  have hv : (48 + (d : Int)) = (((UInt8.ofNat (48 + d)).toNat : Nat) : Int) := by
    rw [UInt8.toNat_ofNat', Nat.mod_eq_of_lt (by omega)]; omega
  refine run_convert_bytes_back (P := Tryd.prog) _ 61 9 5 ⟨w.heap.size, 0, none⟩ 1 [UInt8.ofNat (48 + d)] Tryd.underlying61 Tryd.underlying5 Tryd.underlying9 (fun j hj => ?_)
  have hj0 : j = 0 := by simpa using hj
  subst hj0
  rw [hv]
  exact cell_of_row _ _ 0 _ _ _ (heap_alloc_new w _)
theorem digB (b : Nat) (hb : b < 10) : numB b = [UInt8.ofNat (48 + b)] := numB_low hb
set_option maxRecDepth 100000 in
set_option maxHeartbeats 4000000 in
theorem refNumber_any (n : Nat) (w : World) (hn : n ≤ 1000000) : Calls Tryd.prog 28 #[.int .i64 n] w fun e w' => e = .returned (.string (bs (numB n))) ∧ Below w.heap.size w w' := by
  go_enter Tryd.func28, Tryd.ntmps28
  go_wp2_with fail
  go_loopw [0, 3] (fun nv sv wr => ∃ (k : Nat) (t : Bs), k ≤ n ∧ nv = .int .i64 k ∧ sv = .string (bs t) ∧ Hid (numB n = numB k ++ t) ∧ Below w.heap.size w wr) (fun nv _ _ => (intOf nv).toNat)
  case atStart => exact ⟨n, [], Nat.le_refl _, rfl, rfl, by show _ = _; simp, Below.refl _ _⟩
  case round =>
    obtain ⟨k, t, hk, rfl, rfl, HE, hb⟩ := hrel
    have HB := Lib.hid hb
    clear hb
    have hl := numB_len 7 n (by omega)
    rw [HE.out, List.length_append] at hl
    have hts : (bs t).size ≤ 8 := by rw [bs_size]; omega
    clear hl
    by_cases h : k < 10
    · have h1 : ¬ (10 : Int) ≤ (k : Int) := by omega
      have hw : IntKind.u8.wrap (48 + (k : Int)) = 48 + (k : Int) := IntWalk.u8_in _ (by omega)
      have HD := Lib.hid (digB k h)
      have HTS : Hid (bs (numB n) = bs (numB k) ++ bs t) := by show _ = _; rw [HE.out, bs_append]
      generalize bs t = ts at *
      have hc := conv_dig wr k h
      have hsz : (bs [UInt8.ofNat (48 + k)]).size = 1 := rfl
      generalize [UInt8.ofNat (48 + k)] = D at *
      have hb := HB.out.size
      go_wp2
      go_ret
      exact ⟨by rw [HTS.out, HD.out]; rfl, HB.out.trans (((Below.refl _ wr).alloc (Nat.le_refl _) _).mono hb)⟩
    · have h1 : (10 : Int) ≤ (k : Int) := by omega
      obtain ⟨d, hd⟩ : ∃ d, d = k % 10 := ⟨_, rfl⟩
      have hr : (k : Int) % 10 = (d : Int) := by omega
      have hd10 : d < 10 := by omega
      have hw : IntKind.u8.wrap (48 + (d : Int)) = 48 + (d : Int) := IntWalk.u8_in _ (by omega)
      obtain ⟨q, hqq⟩ : ∃ q, q = k / 10 := ⟨_, rfl⟩
      have hq : (k : Int) / 10 = (q : Int) := by omega
      have HD : Hid (numB k = numB q ++ numB d) := by show _ = _; rw [hd, hqq]; exact numB_high h
      have HK : Hid (q ≤ n ∧ q < k) := by show _ ∧ _; omega
      have HDG := Lib.hid (digB d hd10)
      clear hd hqq
      have hc := conv_dig wr d hd10
      have hsz : (bs [UInt8.ofNat (48 + d)]).size = 1 := rfl
      generalize [UInt8.ofNat (48 + d)] = D at *
      have HST : Hid (numB n = numB q ++ (D ++ t)) := by show _ = _; rw [HE.out, HD.out, HDG.out, List.append_assoc]
      have HBA : Hid (bs D ++ bs t = bs (D ++ t)) := bs_append _ _
      have hb := HB.out.size
      go_wp2
      go_roundw
      case rel => exact ⟨q, D ++ t, HK.out.1, rfl, by rw [HBA.out], HST.out, HB.out.trans (((Below.refl _ wr).alloc (Nat.le_refl _) _).mono hb)⟩
      case measure => simp [intOf]; exact HK.out.2

end Go.Proofs.YtmcjpmogjmnfpaaDoor
