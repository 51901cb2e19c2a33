/- Walks of cut and of the document's At; the conditions stand in the theorems. -/
import Derived.Test.YtpchljiiappmnaaK29
import Derived.Test.YtpchljiiappmnaaK30
namespace Go.Proofs.Ytpchljiiappmnaa
open Go Go.RowKit

def cutS (s : S) : S := if 2000 < s.size then s.extract 0 2000 else s
theorem cutS_size (s : S) : (cutS s).size ≤ 2000 := by
  unfold cutS
  split
  · rw [← size_data, Lib.extract_data]; simp; omega
  · omega

set_option maxHeartbeats 1000000 in
theorem cut_any (s : S) (w : World) : Calls Try.prog 19 #[.string s] w fun e w' => e = .returned (.string (cutS s)) ∧ w = w' := by
  by_cases h : 2000 < s.size
  · have hi : (2000 : Int) < (s.size : Int) := by omega
    have h2 : 2000 ≤ s.size := by omega
    have HE : Hid (cutS s = s.extract 0 2000) := by show _ = _; unfold cutS; rw [if_pos h]
    clear h
    go_enter Try.func19, Try.ntmps19
    go_wp2
    go_ret
    exact ⟨by rw [HE.out]; rfl, rfl⟩
  · have hi : ¬ (2000 : Int) < (s.size : Int) := by omega
    have HE : Hid (cutS s = s) := by show _ = _; unfold cutS; rw [if_neg h]
    clear h
    go_enter Try.func19, Try.ntmps19
    go_wp2
    go_ret
    exact ⟨by rw [HE.out]; rfl, rfl⟩

set_option maxHeartbeats 2000000 in
theorem refAt_any (s : S) (o : Nat) (w : World) (h : o ≤ s.size) (hs : s.size ≤ 1000000) :
    Calls Try.prog 24 #[.string s, .int .i64 o] w fun e w' => e = .returned (.tuple #[.int .i64 (lineCol (s.data.toList.take o)).1, .int .i64 (lineCol (s.data.toList.take o)).2]) ∧ w = w' := by
  go_enter Try.func24, Try.ntmps24
  go_wp2
  go_loop [6, 7, 8] (fun li co i => ∃ a : Nat, a ≤ o ∧ i = .int .i64 a ∧ li = .int .i64 (lineCol (s.data.toList.take a)).1 ∧ co = .int .i64 (lineCol (s.data.toList.take a)).2) (fun _ _ i => o - (intOf i).toNat)
  case atStart => exact ⟨0, Nat.zero_le _, rfl, by simp [lineCol], by simp [lineCol]⟩
  case round =>
    obtain ⟨a, ha, rfl, rfl, rfl⟩ := hrel
    obtain ⟨-, -, b3, b4⟩ := lineCol_pos (s.data.toList.take a)
    rw [List.length_take] at b3 b4
    have b5 : (lineCol (s.data.toList.take a)).1 ≤ 1000001 := by omega
    have b6 : (lineCol (s.data.toList.take a)).2 ≤ 1000001 := by omega
    clear b3 b4
    by_cases hlt : a < o
    · have has : a < s.size := by omega
      have hsn : s.data.toList.take (a + 1) = s.data.toList.take a ++ [s[a]] := by
        rw [List.take_succ_eq_append_getElem (by rw [size_data]; exact has)]; rfl
      by_cases h10 : s[a] = 10
      · have e1 : (((s[a].toNat : Nat) : Int) == 10) = true := by rw [h10]; decide
        have HL : Hid (lineCol (s.data.toList.take (a + 1)) = ((lineCol (s.data.toList.take a)).1 + 1, 1)) := by show _ = _; rw [hsn, lineCol_snoc, if_pos h10]
        clear hsn h10
        generalize (lineCol (s.data.toList.take a)).1 = li at *
        generalize (lineCol (s.data.toList.take a)).2 = co at *
        go_wp2
        go_round
        case rel => exact ⟨a + 1, hlt, by go_num, by rw [HL.out]; go_num, by rw [HL.out]; rfl⟩
        case measure => simp [intOf]; omega
      · have e1 : (((s[a].toNat : Nat) : Int) == 10) = false := by
          rw [beq_eq_false_iff_ne]; intro e; exact h10 (UInt8.toNat_inj.1 (by simpa using (by omega : s[a].toNat = 10)))
        have HL : Hid (lineCol (s.data.toList.take (a + 1)) = ((lineCol (s.data.toList.take a)).1, (lineCol (s.data.toList.take a)).2 + 1)) := by show _ = _; rw [hsn, lineCol_snoc, if_neg h10]
        clear hsn h10
        generalize (lineCol (s.data.toList.take a)).1 = li at *
        generalize (lineCol (s.data.toList.take a)).2 = co at *
        go_wp2
        go_round
        case rel => exact ⟨a + 1, hlt, by go_num, by rw [HL.out], by rw [HL.out]; go_num⟩
        case measure => simp [intOf]; omega
    · obtain rfl : a = o := by omega
      go_wp2
      go_ret2
      exact ⟨rfl, rfl⟩

end Go.Proofs.Ytpchljiiappmnaa
