/- Walks of the document's Is and of span and Name, the program's and the document's; their conditions stand in the theorems. -/
import Derived.Test.YtpchljiiappmnaaK4
import Derived.LoopTactic
namespace Go.Proofs.Ytpchljiiappmnaa
open Go Go.RowKit

theorem drop_byte (s : S) (k : Nat) (h : k < s.size) : s.data.toList.drop k = s[k] :: s.data.toList.drop (k + 1) := by
  rw [List.drop_eq_getElem_cons (by simpa using h)]; rfl
theorem size_data (s : S) : s.data.toList.length = s.size := (Lib.size_eq s).symm

set_option maxHeartbeats 1000000 in
theorem is1_any (c : UInt8) (w : World) : Calls Try.prog 26 #[.int .u8 c.toNat, .int .i64 1] w fun e w' => e = .returned (.bool (cBlank c)) ∧ w = w' := by
  have h1 := Lib.hid (classV_is c)
  have h2 := (classV_is c).2.2.2.2.1
  have h3 := (classV_is c).2.2.2.2.2
  have hc := class_any c w
  have HC := Lib.hid hc
  clear hc
  generalize classV c = v at *
  go_enter Try.func26, Try.ntmps26
  go_wp2_with (go_at_call 58; refine HC.out.mono ?_; rintro e w' ⟨rfl, rfl⟩)
  go_ret
  refine ⟨ret_bool ?_, rfl⟩
  have h4 := h1.out.1
  cases hp : cBlank c <;> rw [hp] at h4 <;> simp at h4 ⊢ <;> omega

set_option maxHeartbeats 1000000 in
theorem is4_any (c : UInt8) (w : World) : Calls Try.prog 26 #[.int .u8 c.toNat, .int .i64 4] w fun e w' => e = .returned (.bool (cFirst c)) ∧ w = w' := by
  have h1 := Lib.hid (classV_is c)
  have h2 := (classV_is c).2.2.2.2.1
  have h3 := (classV_is c).2.2.2.2.2
  have hc := class_any c w
  have HC := Lib.hid hc
  clear hc
  generalize classV c = v at *
  go_enter Try.func26, Try.ntmps26
  go_wp2_with (go_at_call 58; refine HC.out.mono ?_; rintro e w' ⟨rfl, rfl⟩)
  go_ret
  refine ⟨ret_bool ?_, rfl⟩
  have h4 := h1.out.2.1
  cases hp : cFirst c <;> rw [hp] at h4 <;> simp at h4 ⊢ <;> omega

set_option maxHeartbeats 1000000 in
theorem is8_any (c : UInt8) (w : World) : Calls Try.prog 26 #[.int .u8 c.toNat, .int .i64 8] w fun e w' => e = .returned (.bool (cName c)) ∧ w = w' := by
  have h1 := Lib.hid (classV_is c)
  have h2 := (classV_is c).2.2.2.2.1
  have h3 := (classV_is c).2.2.2.2.2
  have hc := class_any c w
  have HC := Lib.hid hc
  clear hc
  generalize classV c = v at *
  go_enter Try.func26, Try.ntmps26
  go_wp2_with (go_at_call 58; refine HC.out.mono ?_; rintro e w' ⟨rfl, rfl⟩)
  go_ret
  refine ⟨ret_bool ?_, rfl⟩
  have h4 := h1.out.2.2.1
  cases hp : cName c <;> rw [hp] at h4 <;> simp at h4 ⊢ <;> omega

set_option maxHeartbeats 1000000 in
theorem is16_any (c : UInt8) (w : World) : Calls Try.prog 26 #[.int .u8 c.toNat, .int .i64 16] w fun e w' => e = .returned (.bool (cText c)) ∧ w = w' := by
  have h1 := Lib.hid (classV_is c)
  have h2 := (classV_is c).2.2.2.2.1
  have h3 := (classV_is c).2.2.2.2.2
  have hc := class_any c w
  have HC := Lib.hid hc
  clear hc
  generalize classV c = v at *
  go_enter Try.func26, Try.ntmps26
  go_wp2_with (go_at_call 58; refine HC.out.mono ?_; rintro e w' ⟨rfl, rfl⟩)
  go_ret
  refine ⟨ret_bool ?_, rfl⟩
  have h4 := h1.out.2.2.2.1
  cases hp : cText c <;> rw [hp] at h4 <;> simp at h4 ⊢ <;> omega

set_option maxHeartbeats 1000000 in
theorem spanName_any (s : S) (w : World) (hs : s.size ≤ 9223372036854775807) :
    Calls Try.prog 103 #[.string s, .func (.func 125) #[] #[]] w fun e w' => e = .returned (.int .i64 (span (cName) s.data.toList)) ∧ w = w' := by
  have hsp := span_le (cName) s.data.toList
  rw [size_data] at hsp
  go_enter Try.func103, Try.ntmps103
  go_wp2
  go_loop [5] (fun i => ∃ k : Nat, k ≤ s.size ∧ i = .int .i64 k ∧ Hid (span (cName) s.data.toList = k + span (cName) (s.data.toList.drop k))) (fun i => s.size - (intOf i).toNat)
  case atStart => exact ⟨0, Nat.zero_le _, rfl, by show _ = _; simp⟩
  case round =>
    obtain ⟨k, hk, rfl, H⟩ := hrel
    by_cases hlt : k < s.size
    · have HD := Lib.hid (drop_byte s k hlt)
      cases hp : cName s[k]
      all_goals
        have HP := Lib.hid hp
        clear hp
        go_wp2_with (go_at_call 125; refine (isName_any _ _).mono ?_; rintro e w' ⟨rfl, rfl⟩; rw [HP.out])
      · go_ret
        exact ⟨ret_int (by rw [H.out, HD.out]; simp [span, HP.out]), rfl⟩
      · go_round
        case rel => exact ⟨k + 1, by omega, by go_num, by show _ = _; rw [H.out, HD.out]; simp only [span, HP.out, if_true]; omega⟩
        case measure => simp [intOf]; omega
    · go_wp2
      go_ret
      exact ⟨ret_int (by rw [H.out, List.drop_of_length_le (by rw [size_data]; omega)]; simp [span]), rfl⟩

set_option maxHeartbeats 1000000 in
theorem spanLower_any (s : S) (w : World) (hs : s.size ≤ 9223372036854775807) :
    Calls Try.prog 103 #[.string s, .func (.func 131) #[] #[]] w fun e w' => e = .returned (.int .i64 (span (cLower) s.data.toList)) ∧ w = w' := by
  have hsp := span_le (cLower) s.data.toList
  rw [size_data] at hsp
  go_enter Try.func103, Try.ntmps103
  go_wp2
  go_loop [5] (fun i => ∃ k : Nat, k ≤ s.size ∧ i = .int .i64 k ∧ Hid (span (cLower) s.data.toList = k + span (cLower) (s.data.toList.drop k))) (fun i => s.size - (intOf i).toNat)
  case atStart => exact ⟨0, Nat.zero_le _, rfl, by show _ = _; simp⟩
  case round =>
    obtain ⟨k, hk, rfl, H⟩ := hrel
    by_cases hlt : k < s.size
    · have HD := Lib.hid (drop_byte s k hlt)
      cases hp : cLower s[k]
      all_goals
        have HP := Lib.hid hp
        clear hp
        go_wp2_with (go_at_call 131; refine (isLower_any _ _).mono ?_; rintro e w' ⟨rfl, rfl⟩; rw [HP.out])
      · go_ret
        exact ⟨ret_int (by rw [H.out, HD.out]; simp [span, HP.out]), rfl⟩
      · go_round
        case rel => exact ⟨k + 1, by omega, by go_num, by show _ = _; rw [H.out, HD.out]; simp only [span, HP.out, if_true]; omega⟩
        case measure => simp [intOf]; omega
    · go_wp2
      go_ret
      exact ⟨ret_int (by rw [H.out, List.drop_of_length_le (by rw [size_data]; omega)]; simp [span]), rfl⟩

end Go.Proofs.Ytpchljiiappmnaa
