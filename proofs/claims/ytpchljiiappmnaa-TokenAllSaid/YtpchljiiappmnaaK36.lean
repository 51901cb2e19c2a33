/- Walks of the document's Escape and of apos; the conditions stand in the theorems. -/
import Derived.Test.YtpchljiiappmnaaK18
import Derived.Test.YtpchljiiappmnaaK35
namespace Go.Proofs.Ytpchljiiappmnaa
open Go Go.RowKit

theorem ext_one (s : S) (k : Nat) (h : k < s.size) : s.extract k (k + 1) = bs [s[k]] := by
  have h1 : (s.extract k (k + 1)).data.toList = [s[k]] := by
    rw [Lib.extract_data, drop_byte s k h, Nat.add_sub_cancel_left]; rfl
  rw [← data_bs (s.extract k (k + 1)), h1]
theorem ext_cmp (s : S) (k : Nat) (h : k < s.size) (x : UInt8) : ((s.extract k (k + 1)).toList == [x]) = decide (s[k] = x) := by
  rw [str_lit, ext_one s k h, bs_data]; simp
theorem take_byte (s : S) (k : Nat) (h : k < s.size) : s.data.toList.take (k + 1) = s.data.toList.take k ++ [s[k]] := by
  rw [List.take_succ_eq_append_getElem (by rw [size_data]; exact h)]; rfl
theorem esc_snoc (attr : Bool) (l : Bs) (c : UInt8) : esc attr (l ++ [c]) = esc attr l ++ escC attr c := by
  unfold esc; rw [List.flatMap_append]; simp
theorem aposR_snoc (l : Bs) (c : UInt8) : aposR (l ++ [c]) = aposR l ++ aposC c := by
  unfold aposR; rw [List.flatMap_append]; simp

/-- One letter of Escape's. -/
theorem esc_step {attr : Bool} {s O : S} {k : Nat} (hlt : k < s.size) (h : O = bs (esc attr (s.data.toList.take k))) {X : Bs} (hx : escC attr s[k] = X) : O ++ bs X = bs (esc attr (s.data.toList.take (k + 1))) := by
  rw [take_byte s k hlt, esc_snoc, hx, h, bs_append]

theorem esc_size (attr : Bool) {s O : S} (k : Nat) (h : O = bs (esc attr (s.data.toList.take k))) : O.size ≤ 6 * s.size := by
  rw [h, bs_size]
  have := (esc_len attr (s.data.toList.take k)).2
  rw [List.length_take, size_data] at this
  omega

set_option maxRecDepth 100000 in
set_option maxHeartbeats 4000000 in
theorem refEscape_false (s : S) (w : World) (hs : s.size ≤ 1000000000) :
    Calls Try.prog 27 #[.string s, .bool false] w fun e w' => e = .returned (.string (bs (esc false s.data.toList))) ∧ w = w' := by
  go_enter Try.func27, Try.ntmps27
  go_wp2
  go_loop [5, 6] (fun o i => ∃ (k : Nat) (O : S), k ≤ s.size ∧ i = .int .i64 k ∧ o = .string O ∧ Hid (O = bs (esc false (s.data.toList.take k)))) (fun _ i => s.size - (intOf i).toNat)
  case atStart => exact ⟨0, _, Nat.zero_le _, rfl, rfl, rfl⟩
  case round =>
    obtain ⟨k, O, hk, rfl, rfl, HO⟩ := hrel
    have hO := esc_size false k HO.out
    by_cases hlt : k < s.size
    · have e38 := ext_cmp s k hlt 38
      have e60 := ext_cmp s k hlt 60
      have e62 := ext_cmp s k hlt 62
      have e13 := ext_cmp s k hlt 13
      have e34 := ext_cmp s k hlt 34
      have e9 := ext_cmp s k hlt 9
      have e10 := ext_cmp s k hlt 10
      have HE := Lib.hid (ext_one s k hlt)
      have hX : (s.extract k (k + 1)).size = 1 := by rw [HE.out, bs_size]; rfl
      go_wp2
      all_goals
        go_round
        case rel =>
          refine ⟨k + 1, _, by omega, by go_num, rfl, ?_⟩
          first
            | exact esc_step (X := [38, 97, 109, 112, 59]) hlt HO.out (by simp_all [escC])
            | exact esc_step (X := [38, 108, 116, 59]) hlt HO.out (by simp_all [escC])
            | exact esc_step (X := [38, 103, 116, 59]) hlt HO.out (by simp_all [escC])
            | exact esc_step (X := [38, 35, 49, 51, 59]) hlt HO.out (by simp_all [escC])
            | exact esc_step (X := [38, 113, 117, 111, 116, 59]) hlt HO.out (by simp_all [escC])
            | exact esc_step (X := [38, 35, 57, 59]) hlt HO.out (by simp_all [escC])
            | exact esc_step (X := [38, 35, 49, 48, 59]) hlt HO.out (by simp_all [escC])
            | (show O ++ s.extract k (k + 1) = _; rw [HE.out]; exact esc_step (X := [s[k]]) hlt HO.out (by simp_all [escC]))
        case measure => simp [intOf]; omega
    · obtain rfl : k = s.size := by omega
      go_wp2
      go_ret
      refine ⟨?_, rfl⟩
      rw [HO.out, List.take_of_length_le (by rw [size_data]; exact Nat.le_refl _)]; rfl

set_option maxRecDepth 100000 in
set_option maxHeartbeats 4000000 in
theorem refEscape_true (s : S) (w : World) (hs : s.size ≤ 1000000000) :
    Calls Try.prog 27 #[.string s, .bool true] w fun e w' => e = .returned (.string (bs (esc true s.data.toList))) ∧ w = w' := by
  go_enter Try.func27, Try.ntmps27
  go_wp2
  go_loop [5, 6] (fun o i => ∃ (k : Nat) (O : S), k ≤ s.size ∧ i = .int .i64 k ∧ o = .string O ∧ Hid (O = bs (esc true (s.data.toList.take k)))) (fun _ i => s.size - (intOf i).toNat)
  case atStart => exact ⟨0, _, Nat.zero_le _, rfl, rfl, rfl⟩
  case round =>
    obtain ⟨k, O, hk, rfl, rfl, HO⟩ := hrel
    have hO := esc_size true k HO.out
    by_cases hlt : k < s.size
    · have e38 := ext_cmp s k hlt 38
      have e60 := ext_cmp s k hlt 60
      have e62 := ext_cmp s k hlt 62
      have e13 := ext_cmp s k hlt 13
      have e34 := ext_cmp s k hlt 34
      have e9 := ext_cmp s k hlt 9
      have e10 := ext_cmp s k hlt 10
      have HE := Lib.hid (ext_one s k hlt)
      have hX : (s.extract k (k + 1)).size = 1 := by rw [HE.out, bs_size]; rfl
      go_wp2
      all_goals
        go_round
        case rel =>
          refine ⟨k + 1, _, by omega, by go_num, rfl, ?_⟩
          first
            | exact esc_step (X := [38, 97, 109, 112, 59]) hlt HO.out (by simp_all [escC])
            | exact esc_step (X := [38, 108, 116, 59]) hlt HO.out (by simp_all [escC])
            | exact esc_step (X := [38, 103, 116, 59]) hlt HO.out (by simp_all [escC])
            | exact esc_step (X := [38, 35, 49, 51, 59]) hlt HO.out (by simp_all [escC])
            | exact esc_step (X := [38, 113, 117, 111, 116, 59]) hlt HO.out (by simp_all [escC])
            | exact esc_step (X := [38, 35, 57, 59]) hlt HO.out (by simp_all [escC])
            | exact esc_step (X := [38, 35, 49, 48, 59]) hlt HO.out (by simp_all [escC])
            | (show O ++ s.extract k (k + 1) = _; rw [HE.out]; exact esc_step (X := [s[k]]) hlt HO.out (by simp_all [escC]))
        case measure => simp [intOf]; omega
    · obtain rfl : k = s.size := by omega
      go_wp2
      go_ret
      refine ⟨?_, rfl⟩
      rw [HO.out, List.take_of_length_le (by rw [size_data]; exact Nat.le_refl _)]; rfl

theorem refEscape_any (s : S) (attr : Bool) (w : World) (hs : s.size ≤ 1000000000) :
    Calls Try.prog 27 #[.string s, .bool attr] w fun e w' => e = .returned (.string (bs (esc attr s.data.toList))) ∧ w = w' := by
  cases attr
  · exact refEscape_false s w hs
  · exact refEscape_true s w hs

theorem apos_step {s O : S} {k : Nat} (hlt : k < s.size) (h : O = bs (aposR (s.data.toList.take k))) {X : Bs} (hx : aposC s[k] = X) : O ++ bs X = bs (aposR (s.data.toList.take (k + 1))) := by
  rw [take_byte s k hlt, aposR_snoc, hx, h, bs_append]
set_option maxRecDepth 100000 in
set_option maxHeartbeats 4000000 in
theorem apos_any (s : S) (w : World) (hs : s.size ≤ 6000000) :
    Calls Try.prog 28 #[.string s] w fun e w' => e = .returned (.string (bs (aposR s.data.toList))) ∧ w = w' := by
  go_enter Try.func28, Try.ntmps28
  go_wp2
  go_loop [3, 4] (fun o i => ∃ (k : Nat) (O : S), k ≤ s.size ∧ i = .int .i64 k ∧ o = .string O ∧ Hid (O = bs (aposR (s.data.toList.take k)))) (fun _ i => s.size - (intOf i).toNat)
  case atStart => exact ⟨0, _, Nat.zero_le _, rfl, rfl, rfl⟩
  case round =>
    obtain ⟨k, O, hk, rfl, rfl, HO⟩ := hrel
    have hO : O.size ≤ 6 * s.size := by
      rw [HO.out, bs_size]
      have := aposR_len (s.data.toList.take k)
      rw [List.length_take, size_data] at this
      omega
    by_cases hlt : k < s.size
    · have HE := Lib.hid (ext_one s k hlt)
      have hX : (s.extract k (k + 1)).size = 1 := by rw [HE.out, bs_size]; rfl
      by_cases h39 : s[k] = 39
      · have e39 : (((s[k].toNat : Nat) : Int) == 39) = true := by rw [h39]; decide
        have H39 := Lib.hid h39
        clear h39
        go_wp2
        go_round
        case rel => exact ⟨k + 1, _, by omega, by go_num, rfl, apos_step (X := [38, 97, 112, 111, 115, 59]) hlt HO.out (by unfold aposC; rw [if_pos H39.out])⟩
        case measure => simp [intOf]; omega
      · have e39 : (((s[k].toNat : Nat) : Int) == 39) = false := by
          rw [beq_eq_false_iff_ne]; intro e; exact h39 (UInt8.toNat_inj.1 (by simpa using (by omega : s[k].toNat = 39)))
        have H39 := Lib.hid h39
        clear h39
        go_wp2
        go_round
        case rel => exact ⟨k + 1, _, by omega, by go_num, rfl, by show O ++ s.extract k (k + 1) = _; rw [HE.out]; exact apos_step (X := [s[k]]) hlt HO.out (by unfold aposC; rw [if_neg H39.out])⟩
        case measure => simp [intOf]; omega
    · obtain rfl : k = s.size := by omega
      go_wp2
      go_ret
      refine ⟨?_, rfl⟩
      rw [HO.out, List.take_of_length_le (by rw [size_data]; exact Nat.le_refl _)]; rfl

end Go.Proofs.Ytpchljiiappmnaa
