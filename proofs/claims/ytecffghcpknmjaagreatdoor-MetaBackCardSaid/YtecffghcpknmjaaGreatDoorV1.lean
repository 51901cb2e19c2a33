/- The walks of version.isMark, word, isNumber, chars.Lower, strings.TrimLeft by one byte; the conditions stand in the theorems. -/
import Derived.Test.YtecffghcpknmjaaGreatDoorV0
import Derived.Test.YtecffghcpknmjaaGreatDoorL1
import Derived.Test.YtecffghcpknmjaaGreatDoorK4
import Derived.LoopTactic
namespace Go.Proofs.YtecffghcpknmjaaGreatDoor
open Go Go.RowKit

theorem isMark_any (c : UInt8) (w : World) : Calls Tryz.prog 125 #[.int .u8 c.toNat] w fun e w' => e = .returned (.bool (markV c)) ∧ w = w' := by
  go_enter Tryz.func125, Tryz.ntmps125
  go_wp2
  all_goals (go_ret; exact ⟨ret_bool (by rw [Bool.eq_iff_iff]; simp [markV]; omega), rfl⟩)
theorem lst_yes {s : S} {l : Bs} (h : s.data.toList = l) : (s.toList == l) = true := by rw [ByteArray.toList_eq, h]; simp
theorem lst_no {s : S} {l : Bs} (h : ¬ s.data.toList = l) : (s.toList == l) = false := by
  rw [ByteArray.toList_eq, beq_eq_false_iff_ne]; exact h
theorem bs_self (s : S) : bs s.data.toList = s := by
  obtain ⟨⟨x⟩⟩ := s
  rfl
set_option maxRecDepth 100000 in
set_option maxHeartbeats 4000000 in
theorem wordW_any (s : S) (n : Bool) (w : World) : Calls Tryz.prog 104 #[.string s, .bool n] w fun e w' => e = .returned (.string (bs (wordW s.data.toList n))) ∧ w = w' := by
  by_cases h0 : s.data.toList = wGa
  · have q0 : (s.toList == [103, 97]) = true := lst_yes h0
    have HV : Hid (bs (wordW s.data.toList n) = ⟨#[]⟩) := by show _ = _; rw [h0]; cases n <;> rfl
    rw [HV.out]
    clear HV h0
    go_enter Tryz.func104, Tryz.ntmps104
    go_wp2
    go_ret
    exact ⟨rfl, rfl⟩
  have q0 : (s.toList == [103, 97]) = false := lst_no h0
  by_cases h1 : s.data.toList = wFinal
  · have q1 : (s.toList == [102, 105, 110, 97, 108]) = true := lst_yes h1
    have HV : Hid (bs (wordW s.data.toList n) = ⟨#[]⟩) := by show _ = _; rw [h1]; cases n <;> rfl
    rw [HV.out]
    clear HV h1 h0
    go_enter Tryz.func104, Tryz.ntmps104
    go_wp2
    go_ret
    exact ⟨rfl, rfl⟩
  have q1 : (s.toList == [102, 105, 110, 97, 108]) = false := lst_no h1
  by_cases h2 : s.data.toList = wRelease
  · have q2 : (s.toList == [114, 101, 108, 101, 97, 115, 101]) = true := lst_yes h2
    have HV : Hid (bs (wordW s.data.toList n) = ⟨#[]⟩) := by show _ = _; rw [h2]; cases n <;> rfl
    rw [HV.out]
    clear HV h2 h0 h1
    go_enter Tryz.func104, Tryz.ntmps104
    go_wp2
    go_ret
    exact ⟨rfl, rfl⟩
  have q2 : (s.toList == [114, 101, 108, 101, 97, 115, 101]) = false := lst_no h2
  by_cases h3 : s.data.toList = wCr
  · have q3 : (s.toList == [99, 114]) = true := lst_yes h3
    have HV : Hid (bs (wordW s.data.toList n) = ⟨#[114, 99]⟩) := by show _ = _; rw [h3]; cases n <;> rfl
    rw [HV.out]
    clear HV h3 h0 h1 h2
    go_enter Tryz.func104, Tryz.ntmps104
    go_wp2
    go_ret
    exact ⟨rfl, rfl⟩
  have q3 : (s.toList == [99, 114]) = false := lst_no h3
  have HW : Hid (wordW s.data.toList n = if n = true ∧ s.data.toList = [97] then wAlpha else if n = true ∧ s.data.toList = [98] then wBeta else if n = true ∧ s.data.toList = [109] then wMilestone else s.data.toList) := by
    show _ = _
    unfold wordW
    rw [if_neg (fun e => by rcases e with e | e | e; exact h0 e; exact h1 e; exact h2 e), if_neg h3]
  clear h0 h1 h2 h3
  cases n with
  | false =>
    have HV : Hid (bs (wordW s.data.toList false) = s) := by show _ = _; rw [HW.out]; simp [bs_self]
    rw [HV.out]
    clear HV HW
    go_enter Tryz.func104, Tryz.ntmps104
    go_wp2
    go_ret
    exact ⟨rfl, rfl⟩
  | true =>
    by_cases g0 : s.data.toList = [97]
    · have p0 : (s.toList == [97]) = true := lst_yes g0
      have HV : Hid (bs (wordW s.data.toList true) = ⟨#[97, 108, 112, 104, 97]⟩) := by show _ = _; rw [g0]; rfl
      rw [HV.out]
      clear HV HW g0
      go_enter Tryz.func104, Tryz.ntmps104
      go_wp2
      go_ret
      exact ⟨rfl, rfl⟩
    have p0 : (s.toList == [97]) = false := lst_no g0
    by_cases g1 : s.data.toList = [98]
    · have p1 : (s.toList == [98]) = true := lst_yes g1
      have HV : Hid (bs (wordW s.data.toList true) = ⟨#[98, 101, 116, 97]⟩) := by show _ = _; rw [g1]; rfl
      rw [HV.out]
      clear HV HW g1 g0
      go_enter Tryz.func104, Tryz.ntmps104
      go_wp2
      go_ret
      exact ⟨rfl, rfl⟩
    have p1 : (s.toList == [98]) = false := lst_no g1
    by_cases g2 : s.data.toList = [109]
    · have p2 : (s.toList == [109]) = true := lst_yes g2
      have HV : Hid (bs (wordW s.data.toList true) = ⟨#[109, 105, 108, 101, 115, 116, 111, 110, 101]⟩) := by show _ = _; rw [g2]; rfl
      rw [HV.out]
      clear HV HW g2 g0 g1
      go_enter Tryz.func104, Tryz.ntmps104
      go_wp2
      go_ret
      exact ⟨rfl, rfl⟩
    have p2 : (s.toList == [109]) = false := lst_no g2
    have HV : Hid (bs (wordW s.data.toList true) = s) := by show _ = _; rw [HW.out, if_neg (fun e => g0 e.2), if_neg (fun e => g1 e.2), if_neg (fun e => g2 e.2), bs_self]
    rw [HV.out]
    clear HV HW g0 g1 g2
    go_enter Tryz.func104, Tryz.ntmps104
    go_wp2
    go_ret
    exact ⟨rfl, rfl⟩
set_option maxRecDepth 100000 in
set_option maxHeartbeats 4000000 in
theorem isNumber_any (s : S) (w : World) (hs : s.size ≤ 9223372036854775807) : Calls Tryz.prog 102 #[.string s] w fun e w' => e = .returned (.bool (isNum s.data.toList)) ∧ Below w.heap.size w w' := by
  have hcv := fun (w : World) => conv_bytes w s
  go_enter Tryz.func102, Tryz.ntmps102
  go_wp2_with fail
  clear hcv
  refine wp_world ?_
  intro W hW
  have hcells := fun j h => bytesW_cell w s j h
  have hbel := bytesW_below w s w.heap.size (Nat.le_refl _)
  have hsz := bytesW_size w s
  rw [← hW] at hcells hbel hsz
  have HC := Lib.hid hcells
  have HB0 := Lib.hid hbel
  have hlw : w.heap.size < W.heap.size := by omega
  clear hW hcells hbel hsz
  generalize bytesC w s = cap at *
  go_loopw [8] (fun i wr => ∃ k : Nat, k ≤ s.size ∧ i = .int .i64 k ∧ Below W.heap.size W wr ∧ Hid ((s.data.toList.take k).all cDigit = true)) (fun i _ => s.size - (intOf i).toNat)
  case atStart => exact ⟨0, Nat.zero_le _, rfl, Below.refl _ _, rfl⟩
  case round =>
    obtain ⟨k, hk, rfl, hb, HA⟩ := hrel
    have HBR := Lib.hid hb
    have hlr := hb.size
    have hlw2 : w.heap.size < wr.heap.size := by omega
    by_cases hlt : k < s.size
    · have c0 : wr.cell? ⟨w.heap.size, k, none⟩ = some (.int .u8 (s[k].toNat : Nat)) := (hb.cell (by exact hlw)).trans (HC.out k hlt)
      clear hb
      cases hb : cDigit s[k]
      · have HB : Hid (isNum s.data.toList = false) := by
          show _ = _
          rw [Bool.eq_false_iff]
          intro e
          have := List.all_eq_true.1 e s[k] (by rw [show s[k] = s.data.toList[k]'(by simpa using hlt) from rfl]; exact List.getElem_mem _)
          rw [hb] at this; cases this
        have HI := Lib.hid (fun w => hb ▸ isDigit_any s[k] w : ∀ w, Calls Tryz.prog 72 #[.int .u8 s[k].toNat] w fun e w' => e = .returned (.bool false) ∧ w = w')
        clear hb
        go_wp2_with fail
        refine (HI.out _).mono ?_
        rintro e w' ⟨rfl, rfl⟩
        go_wp2
        go_ret
        exact ⟨ret_bool HB.out.symm, HB0.out.trans (HBR.out.mono (Nat.le_of_lt hlw))⟩
      · have HB : Hid ((s.data.toList.take (k + 1)).all cDigit = true) := all_step hlt HA.out hb
        have HI := Lib.hid (fun w => hb ▸ isDigit_any s[k] w : ∀ w, Calls Tryz.prog 72 #[.int .u8 s[k].toNat] w fun e w' => e = .returned (.bool true) ∧ w = w')
        clear hb
        go_wp2_with fail
        refine (HI.out _).mono ?_
        rintro e w' ⟨rfl, rfl⟩
        go_wp2
        go_roundw
        case rel => exact ⟨k + 1, by omega, by go_num, HBR.out, HB⟩
        case measure => simp [intOf]; omega
    · obtain rfl : k = s.size := by omega
      have HE : Hid (isNum s.data.toList = true) := by
        have h := HA.out
        rw [List.take_of_length_le (by rw [size_data]; exact Nat.le_refl _)] at h
        exact h
      clear hb
      go_wp2
      go_ret
      exact ⟨ret_bool HE.out.symm, HB0.out.trans (HBR.out.mono (Nat.le_of_lt hlw))⟩

end Go.Proofs.YtecffghcpknmjaaGreatDoor
