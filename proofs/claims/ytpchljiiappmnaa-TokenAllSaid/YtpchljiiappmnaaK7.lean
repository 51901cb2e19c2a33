/- Walks of Name, the program's and the document's; their conditions stand in the theorems. -/
import Derived.Test.YtpchljiiappmnaaK6
namespace Go.Proofs.Ytpchljiiappmnaa
open Go Go.RowKit

theorem is_any (c : UInt8) (k : Int) (w : World) (hk : k = 1 ∨ k = 4 ∨ k = 8 ∨ k = 16) : Calls Try.prog 26 #[.int .u8 c.toNat, .int .i64 k] w fun e w' => e = .returned (.bool (inClass k c)) ∧ w = w' := by
  rcases hk with rfl | rfl | rfl | rfl
  · exact is1_any c w
  · exact is4_any c w
  · exact is8_any c w
  · exact is16_any c w

theorem first_name {c : UInt8} (h : cName c = false) : cFirst c = false := by
  cases h2 : cFirst c
  · rfl
  · simp [cName, h2] at h
theorem empty_data (s : S) : s.toList.isEmpty = decide (s.size = 0) := by
  have h : s.toList.length = s.size := by rw [ByteArray.toList_eq]; exact size_data s
  rw [← h]
  cases s.toList <;> simp

set_option maxHeartbeats 1000000 in
theorem name_any (s : S) (w : World) (hs : s.size ≤ 9223372036854775807) :
    Calls Try.prog 105 #[.string s] w fun e w' => e = .returned (.int .i64 (nameLen s.data.toList)) ∧ w = w' := by
  have hE0 := empty_data s
  by_cases h0 : s.size = 0
  · have hE : s.toList.isEmpty = true := by rw [hE0]; simpa using h0
    clear hE0
    have hd : s.data.toList = [] := List.eq_nil_of_length_eq_zero (by rw [size_data, h0])
    rw [hd]
    clear hd h0
    go_enter Try.func105, Try.ntmps105
    go_wp2
    go_ret
    exact ⟨rfl, rfl⟩
  · have hE : s.toList.isEmpty = false := by rw [hE0]; simpa using h0
    clear hE0
    have h1 : 0 < s.size := by omega
    have HD := Lib.hid (drop_byte s 0 h1)
    clear h0
    cases hp : cFirst s[0]
    all_goals
      have HP := Lib.hid hp
      clear hp
      go_enter Try.func105, Try.ntmps105
      go_wp2_with (first | (go_at_call 124; refine (isFirst_any _ _).mono ?_; rintro e w' ⟨rfl, rfl⟩; rw [HP.out]) | (go_at_call 103; refine (spanName_any s _ hs).mono ?_; rintro e w' ⟨rfl, rfl⟩))
      go_ret
      refine ⟨ret_int ?_, rfl⟩
      have h2 := HD.out
      rw [List.drop_zero] at h2
      rw [h2]
      simp [nameLen, HP.out]

set_option maxHeartbeats 1000000 in
theorem refName_any (s : S) (w : World) (hs : s.size ≤ 9223372036854775807) :
    Calls Try.prog 25 #[.string s] w fun e w' => e = .returned (.int .i64 (nameLen s.data.toList)) ∧ w = w' := by
  have hsp := nameLen_le s.data.toList
  rw [size_data] at hsp
  go_enter Try.func25, Try.ntmps25
  go_wp2
  go_loop [3, 4] (fun n i => ∃ k : Nat, k ≤ s.size ∧ n = .int .i64 k ∧ i = .int .i64 k ∧ Hid (k = 0 ∨ nameLen s.data.toList = k + span cName (s.data.toList.drop k))) (fun _ i => s.size - (intOf i).toNat)
  case atStart => exact ⟨0, Nat.zero_le _, rfl, rfl, .inl rfl⟩
  case round =>
    obtain ⟨k, hk, rfl, rfl, H⟩ := hrel
    by_cases hlt : k < s.size
    · have HD := Lib.hid (drop_byte s k hlt)
      cases k with
      | zero =>
        cases hp : cName s[0]
        · have HP : Hid (inClass 8 s[0] = false) := hp
          have HF := Lib.hid (first_name hp)
          clear hp
          go_wp2_with (go_at_call 26; refine (is_any _ _ _ (by decide)).mono ?_; rintro e w' ⟨rfl, rfl⟩; rw [HP.out])
          go_ret
          refine ⟨ret_int ?_, rfl⟩
          have h2 := HD.out
          rw [List.drop_zero] at h2
          rw [h2]
          simp [nameLen, HF.out]
        · have HP : Hid (inClass 8 s[0] = true) := hp
          have HQ : Hid (cName s[0] = true) := hp
          clear hp
          cases hf : cFirst s[0]
          all_goals
            have HF : Hid (inClass 4 s[0] = _) := hf
            have HG := Lib.hid hf
            clear hf
            go_wp2_with (go_at_call 26; refine (is_any _ _ _ (by decide)).mono ?_; rintro e w' ⟨rfl, rfl⟩; first | rw [HP.out] | rw [HF.out])
          · go_ret
            refine ⟨ret_int ?_, rfl⟩
            have h2 := HD.out
            rw [List.drop_zero] at h2
            rw [h2]
            simp [nameLen, HG.out]
          · go_round
            case rel =>
              refine ⟨1, by omega, rfl, rfl, .inr ?_⟩
              have h2 := HD.out
              rw [List.drop_zero] at h2
              conv => lhs; rw [h2]
              simp [nameLen, HG.out, span, HQ.out]; omega
            case measure => simp [intOf]; omega
      | succ k =>
        have hk0 : (((k + 1 : Nat) : Int) == 0) = false := by simp; omega
        cases hp : cName s[k + 1]
        all_goals
          have HP : Hid (inClass 8 s[k + 1] = _) := hp
          have HQ := Lib.hid hp
          clear hp
          go_wp2_with (go_at_call 26; refine (is_any _ _ _ (by decide)).mono ?_; rintro e w' ⟨rfl, rfl⟩; rw [HP.out])
        · go_ret
          refine ⟨ret_int ?_, rfl⟩
          rcases H.out with h | h
          · omega
          · rw [h, HD.out]; simp [span, HQ.out]
        · go_round
          case rel =>
            refine ⟨k + 1 + 1, by omega, by go_num, by go_num, .inr ?_⟩
            rcases H.out with h | h
            · omega
            · rw [h, HD.out]; simp [span, HQ.out]; omega
          case measure => simp [intOf]; omega
    · go_wp2
      go_ret
      refine ⟨ret_int ?_, rfl⟩
      rcases H.out with h | h
      · have : s.data.toList = [] := List.eq_nil_of_length_eq_zero (by rw [size_data]; omega)
        rw [this, h]; rfl
      · rw [h, List.drop_of_length_le (by rw [size_data]; omega)]; simp [span]

end Go.Proofs.Ytpchljiiappmnaa
