/- The walk of strings.TrimLeft by the byte 0; the conditions stand in the theorems. -/
import Derived.Test.YtecffghcpknmjaaGreatDoorV2
import Derived.Test.YtecffghcpknmjaaGreatDoorR4

namespace Go.Proofs.YtecffghcpknmjaaGreatDoor
open Go Go.RowKit

theorem head_byte (x : S) (h : 0 < x.size) : x.data.toList = x[0] :: (x.extract 1 x.size).data.toList := by
  rw [ext_trim, List.take_of_length_le (by rw [List.length_drop, size_data]; exact Nat.le_refl _)]
  have := drop_byte x 0 h
  simpa using this
set_option maxHeartbeats 4000000 in
theorem trimByte_any (s : S) (w : World) : Calls Tryz.prog 126 #[.string s, .int .u8 48] w fun e w' => ∃ x : S, e = .returned (.string x) ∧ x.data.toList = noNull s.data.toList ∧ w = w' := by
  go_enter Tryz.func126, Tryz.ntmps126
  go_wp2
  go_loop [0] (fun v => ∃ x : S, v = .string x ∧ x.size ≤ s.size ∧ Hid (noNull s.data.toList = noNull x.data.toList)) (fun v => sizeOfV v)
  case atStart => exact ⟨_, rfl, Nat.le_refl _, rfl⟩
  case round =>
    obtain ⟨x, rfl, hx, HX⟩ := hrel
    by_cases h0 : 0 < x.size
    · have HT := Lib.hid (head_byte x h0)
      have d1 : decide ((0 : Int) < (x.size : Int)) = true := decide_eq_true (by omega)
      by_cases hc : x[0].toNat = 48
      · have q1 : (((x[0].toNat : Nat) : Int) == 48) = true := by rw [beq_iff_eq]; omega
        have HN : Hid (noNull s.data.toList = noNull (x.extract 1 x.size).data.toList) := by
          show _ = _
          rw [HX.out, HT.out]
          unfold noNull
          rw [List.dropWhile_cons, if_pos (by simp [hc])]
        have hsz : (x.extract 1 x.size).size = x.size - 1 := by simp
        clear hc HX HT
        go_wp2
        go_round
        case rel => exact ⟨_, rfl, by omega, HN⟩
        case measure => simp [sizeOfV]; omega
      · have q1 : (((x[0].toNat : Nat) : Int) == 48) = false := by rw [beq_eq_false_iff_ne]; omega
        have HN : Hid (x.data.toList = noNull s.data.toList) := by
          show _ = _
          rw [HX.out, HT.out]
          unfold noNull
          rw [List.dropWhile_cons, if_neg (by simp [hc])]
        clear hc HX HT
        go_wp2
        go_ret
        exact ⟨x, rfl, HN.out, rfl⟩
    · have hd : x.data.toList = [] := List.eq_nil_of_length_eq_zero (by rw [size_data]; omega)
      have HN : Hid (x.data.toList = noNull s.data.toList) := by show _ = _; rw [HX.out, hd]; rfl
      have d1 : decide ((0 : Int) < (x.size : Int)) = false := decide_eq_false (by omega)
      clear hd HX
      go_wp2
      go_ret
      exact ⟨x, rfl, HN.out, rfl⟩
set_option maxRecDepth 100000 in
set_option maxHeartbeats 4000000 in
theorem trimLeft_any (s : S) (w : World) : Calls Tryz.prog 103 #[.string s, .string ⟨#[48]⟩] w fun e w' => ∃ x : S, e = .returned (.string x) ∧ x.data.toList = noNull s.data.toList ∧ w = w' := by
  by_cases h0 : s.size = 0
  · have he : (s.toList == []) = true := lst_yes (List.eq_nil_of_length_eq_zero (by rw [size_data]; exact h0))
    have hd : s.data.toList = [] := List.eq_nil_of_length_eq_zero (by rw [size_data]; exact h0)
    have he2 : s.toList.isEmpty = true := by rw [empty_data]; simpa using h0
    have HN : Hid (s.data.toList = noNull s.data.toList) := by show _ = _; rw [hd]; rfl
    clear hd h0
    go_enter Tryz.func103, Tryz.ntmps103
    go_wp2
    go_ret
    exact ⟨s, rfl, HN.out, rfl⟩
  · have he : (s.toList == []) = false := lst_no (fun e => h0 (by rw [← size_data, e]; rfl))
    have he2 : s.toList.isEmpty = false := by rw [empty_data]; simpa using h0
    have HT := Lib.hid (trimByte_any s w)
    clear h0
    go_enter Tryz.func103, Tryz.ntmps103
    go_wp2_with fail
    refine HT.out.mono ?_
    rintro e w' ⟨x, rfl, hx, rfl⟩
    go_wp2
    go_ret
    exact ⟨x, rfl, hx, rfl⟩

end Go.Proofs.YtecffghcpknmjaaGreatDoor
