/- Walks: which ids and versions may be, the program's and the document's; the conditions stand in the theorems. -/
import Derived.Test.YtphaeegbmfpcgaaGreatFA11
import Derived.Test.YtphaeegbmfpcgaaGreatShelf
import Derived.Laws.IdiomStrings
import Derived.Laws.BytesArg
import Derived.Test.YtphaeegbmfpcgaaGreatFA03
import Derived.Orders
import Derived.Laws.EntriesVeiled
namespace Go.Proofs.YtphaeegbmfpcgaaGreat
open Go Go.RowKit

theorem conv_str (w : World) (xs : List Int) (l : Bs) (h : xs.map (fun n => UInt8.ofNat n.toNat) = l) (C : Array Value) (hC : C = (xs.map (Value.int .u8)).toArray) (k : Nat) (hk : k = xs.length) :
    (convert 67 9 (.slice (some ⟨w.heap.size, 0, none⟩) k k)).run Tryz.prog (w.alloc (.cells C 5)) = .ok (.string (bs l)) (w.alloc (.cells C 5)) := by
 subst hk hC
 rw [run_convert_bytes_arg (P := Tryz.prog) (w.alloc (.cells (xs.map (Value.int .u8)).toArray 5)) 67 5 Tryz.underlying67 Tryz.underlying5 w.heap.size 0 xs.length xs.length xs rfl ?_ 9 Tryz.underlying9]
 · rw [← h]; rfl
 · intro i hi
   rw [World.cell?_alloc_mark]
   simp [List.getElem?_eq_getElem hi]
def mayB (P : UInt8 → Bool) (s : S) : Bool := s.data.toList.all P && decide (1 ≤ s.size) && decide (s.size ≤ 64)
theorem eqI (n : Nat) (k : Nat) (j : Int) (h : j = k) : ((n : Int) == j) = decide (n = k) := by
 rw [h, Bool.eq_iff_iff]; simp; omega
theorem neI (n : Nat) (k : Nat) (j : Int) (h : j = k) : ((n : Int) != j) = !decide (n = k) := by
 rw [bne, eqI n k j h]
theorem mayB_bad {P : UInt8 → Bool} {s : S} {k : Nat} (h : k < s.size) (hb : P s[k] = false) : mayB P s = false := by
 have : s.data.toList.all P = false := by
  rw [List.all_eq_false]
  exact ⟨s[k], List.getElem_mem (l := s.data.toList) (n := k) (by rw [size_data]; exact h), by rw [hb]; simp⟩
 unfold mayB; rw [this]; rfl
theorem mayB_end {P : UInt8 → Bool} {s : S} (h : (s.data.toList.take s.size).all P = true) : mayB P s = (decide (1 ≤ s.size) && decide (s.size ≤ 64)) := by
 rw [List.take_of_length_le (by rw [size_data]; exact Nat.le_refl _)] at h
 unfold mayB; rw [h]; rfl
theorem all_step {P : UInt8 → Bool} {s : S} {k : Nat} (h : k < s.size) (ha : (s.data.toList.take k).all P = true) (hb : P s[k] = true) : (s.data.toList.take (k + 1)).all P = true := by
 rw [take_byte s k h, List.all_append, ha]; simpa using hb
set_option maxHeartbeats 1000000 in
theorem isByte_any (c : UInt8) (w : World) : Calls Tryz.prog 26 #[.int .u8 c.toNat] w fun e w' => e = .returned (.bool (idByte c)) ∧ w = w' := by
 have e46 := eqI c.toNat 46 46 rfl
 have e45 := eqI c.toNat 45 45 rfl
 have e95 := eqI c.toNat 95 95 rfl
 have e58 := neI c.toNat 58 58 rfl
 cases hb : idByte c
 · have h := idByte_no hb
   clear hb
   go_enter Tryz.func26, Tryz.ntmps26
   go_wp2
   all_goals first | (exfalso; omega) | (exfalso; rename_i hx; simp at hx; omega) | (go_ret; exact ⟨ret_bool (by simp <;> omega), rfl⟩)
 · have h := idByte_iff.1 hb
   clear hb
   have n58 : ¬ c.toNat = 58 := by omega
   go_enter Tryz.func26, Tryz.ntmps26
   go_wp2
   all_goals first | (exfalso; omega) | (exfalso; rename_i hx; simp at hx; omega) | (go_ret; exact ⟨ret_bool (by simp <;> omega), rfl⟩)
set_option maxRecDepth 100000 in
set_option maxHeartbeats 4000000 in
theorem refIsId_any (s : S) (w : World) (hs : s.size ≤ 9223372036854775807) : Calls Tryz.prog 16 #[.string s] w fun e w' => e = .returned (.bool (isIdB s)) ∧ w = w' := by
 rw [show isIdB s = mayB idByte s from rfl]
 go_enter Tryz.func16, Tryz.ntmps16
 go_wp2
 go_loop [3, 4] (fun i _ => ∃ k : Nat, k ≤ s.size ∧ i = .int .i64 k ∧ Hid ((s.data.toList.take k).all idByte = true)) (fun i _ => s.size - (intOf i).toNat)
 case atStart => exact ⟨0, Nat.zero_le _, rfl, rfl⟩
 case round =>
  obtain ⟨k, hk, rfl, HA⟩ := hrel
  by_cases hlt : k < s.size
  · cases hb : idByte s[k]
    · have HB : Hid (mayB idByte s = false) := mayB_bad hlt hb
      have h := idByte_no hb
      clear hb
      have e46 : (((s[k].toNat : Nat) : Int) == 46) = false := by rw [eqI _ 46 46 rfl, decide_eq_false_iff_not]; omega
      have e45 : (((s[k].toNat : Nat) : Int) == 45) = false := by rw [eqI _ 45 45 rfl, decide_eq_false_iff_not]; omega
      have e95 : (((s[k].toNat : Nat) : Int) == 95) = false := by rw [eqI _ 95 95 rfl, decide_eq_false_iff_not]; omega
      skip
      go_wp2
      all_goals first | (exfalso; omega) | (exfalso; rename_i hx; simp at hx; omega) | (go_ret; exact ⟨ret_bool HB.out.symm, rfl⟩)
    · have HB : Hid ((s.data.toList.take (k + 1)).all idByte = true) := all_step hlt HA.out hb
      have h := idByte_iff.1 hb
      clear hb
      have e46 := eqI s[k].toNat 46 46 rfl
      have e45 := eqI s[k].toNat 45 45 rfl
      have e95 := eqI s[k].toNat 95 95 rfl
      have e43 := eqI s[k].toNat 43 43 rfl
      rcases h with h | h | h | h | h | h
      all_goals
       go_wp2
       all_goals first | (exfalso; omega) | (exfalso; rename_i hx; simp at hx; omega) | skip
       go_round
       case rel => exact ⟨k + 1, by omega, by go_num, HB⟩
       case measure => simp [intOf]; omega
  · obtain rfl : k = s.size := by omega
    have HE : Hid (mayB idByte s = (decide (1 ≤ s.size) && decide (s.size ≤ 64))) := mayB_end HA.out
    by_cases h1 : 1 ≤ s.size
    · have HE2 : Hid (mayB idByte s = decide (s.size ≤ 64)) := by show _ = _; rw [HE.out, decide_eq_true h1]; rfl
      clear HE
      by_cases h2 : s.size ≤ 64
      · have HE3 : Hid (mayB idByte s = true) := by show _ = _; rw [HE2.out, decide_eq_true h2]
        clear HE2
        go_wp2
        all_goals first | (exfalso; omega) | (exfalso; rename_i hx; simp at hx; omega) | (go_ret; exact ⟨ret_bool (by rw [HE3.out] <;> (try simp) <;> (try omega)), rfl⟩)
      · have HE3 : Hid (mayB idByte s = false) := by show _ = _; rw [HE2.out, decide_eq_false h2]
        clear HE2
        go_wp2
        all_goals first | (exfalso; omega) | (exfalso; rename_i hx; simp at hx; omega) | (go_ret; exact ⟨ret_bool (by rw [HE3.out] <;> (try simp) <;> (try omega)), rfl⟩)
    · have HE3 : Hid (mayB idByte s = false) := by show _ = _; rw [HE.out, decide_eq_false h1]; rfl
      clear HE
      go_wp2
      all_goals first | (exfalso; omega) | (exfalso; rename_i hx; simp at hx; omega) | (go_ret; exact ⟨ret_bool (by rw [HE3.out] <;> (try simp) <;> (try omega)), rfl⟩)
set_option maxRecDepth 100000 in
set_option maxHeartbeats 4000000 in
theorem refVer_any (s : S) (w : World) (hs : s.size ≤ 9223372036854775807) : Calls Tryz.prog 17 #[.string s] w fun e w' => e = .returned (.bool (verMay s)) ∧ w = w' := by
 rw [show verMay s = mayB verByte s from rfl]
 go_enter Tryz.func17, Tryz.ntmps17
 go_wp2
 go_loop [3, 4] (fun i _ => ∃ k : Nat, k ≤ s.size ∧ i = .int .i64 k ∧ Hid ((s.data.toList.take k).all verByte = true)) (fun i _ => s.size - (intOf i).toNat)
 case atStart => exact ⟨0, Nat.zero_le _, rfl, rfl⟩
 case round =>
  obtain ⟨k, hk, rfl, HA⟩ := hrel
  by_cases hlt : k < s.size
  · cases hb : verByte s[k]
    · have HB : Hid (mayB verByte s = false) := mayB_bad hlt hb
      have h := verByte_no hb
      clear hb
      have e46 : (((s[k].toNat : Nat) : Int) == 46) = false := by rw [eqI _ 46 46 rfl, decide_eq_false_iff_not]; omega
      have e45 : (((s[k].toNat : Nat) : Int) == 45) = false := by rw [eqI _ 45 45 rfl, decide_eq_false_iff_not]; omega
      have e95 : (((s[k].toNat : Nat) : Int) == 95) = false := by rw [eqI _ 95 95 rfl, decide_eq_false_iff_not]; omega
      have e43 : (((s[k].toNat : Nat) : Int) == 43) = false := by rw [eqI _ 43 43 rfl, decide_eq_false_iff_not]; omega
      go_wp2
      all_goals first | (exfalso; omega) | (exfalso; rename_i hx; simp at hx; omega) | (go_ret; exact ⟨ret_bool HB.out.symm, rfl⟩)
    · have HB : Hid ((s.data.toList.take (k + 1)).all verByte = true) := all_step hlt HA.out hb
      have h := verByte_iff.1 hb
      clear hb
      have e46 := eqI s[k].toNat 46 46 rfl
      have e45 := eqI s[k].toNat 45 45 rfl
      have e95 := eqI s[k].toNat 95 95 rfl
      have e43 := eqI s[k].toNat 43 43 rfl
      rcases h with h | h | h | h | h | h | h
      all_goals
       go_wp2
       all_goals first | (exfalso; omega) | (exfalso; rename_i hx; simp at hx; omega) | skip
       go_round
       case rel => exact ⟨k + 1, by omega, by go_num, HB⟩
       case measure => simp [intOf]; omega
  · obtain rfl : k = s.size := by omega
    have HE : Hid (mayB verByte s = (decide (1 ≤ s.size) && decide (s.size ≤ 64))) := mayB_end HA.out
    by_cases h1 : 1 ≤ s.size
    · have HE2 : Hid (mayB verByte s = decide (s.size ≤ 64)) := by show _ = _; rw [HE.out, decide_eq_true h1]; rfl
      clear HE
      by_cases h2 : s.size ≤ 64
      · have HE3 : Hid (mayB verByte s = true) := by show _ = _; rw [HE2.out, decide_eq_true h2]
        clear HE2
        go_wp2
        all_goals first | (exfalso; omega) | (exfalso; rename_i hx; simp at hx; omega) | (go_ret; exact ⟨ret_bool (by rw [HE3.out] <;> (try simp) <;> (try omega)), rfl⟩)
      · have HE3 : Hid (mayB verByte s = false) := by show _ = _; rw [HE2.out, decide_eq_false h2]
        clear HE2
        go_wp2
        all_goals first | (exfalso; omega) | (exfalso; rename_i hx; simp at hx; omega) | (go_ret; exact ⟨ret_bool (by rw [HE3.out] <;> (try simp) <;> (try omega)), rfl⟩)
    · have HE3 : Hid (mayB verByte s = false) := by show _ = _; rw [HE.out, decide_eq_false h1]; rfl
      clear HE
      go_wp2
      all_goals first | (exfalso; omega) | (exfalso; rename_i hx; simp at hx; omega) | (go_ret; exact ⟨ret_bool (by rw [HE3.out] <;> (try simp) <;> (try omega)), rfl⟩)
set_option maxRecDepth 100000 in
set_option maxHeartbeats 4000000 in
theorem isId_any (s : S) (w : World) (hs : s.size ≤ 9223372036854775807) : Calls Tryz.prog 18 #[.string s] w fun e w' => e = .returned (.bool (isIdB s)) ∧ Below w.heap.size w w' := by
 rw [show isIdB s = mayB idByte s from rfl]
 have hcv := fun (w : World) => conv_bytes w s
 go_enter Tryz.func18, Tryz.ntmps18
 go_wp2_with fail
 clear hcv
 refine wp_world ?_
 intro W hW
 have hcells := fun j h => bytesW_cell w s j h
 have hbel := bytesW_below w s w.heap.size (Nat.le_refl _)
 have hsz := bytesW_size w s
 rw [← hW] at hcells hbel hsz
 have HC := Lib.hid hcells
 have HB0 := Lib.hid hbel
 have hlw : w.heap.size < W.heap.size := by omega
 clear hW hcells hbel hsz
 generalize bytesC w s = cap at *
 go_loopw [4, 8] (fun _ i wr => ∃ k : Nat, k ≤ s.size ∧ i = .int .i64 k ∧ Below W.heap.size W wr ∧ Hid ((s.data.toList.take k).all idByte = true)) (fun _ i _ => s.size - (intOf i).toNat)
 case atStart => exact ⟨0, Nat.zero_le _, rfl, Below.refl _ _, rfl⟩
 case round =>
  obtain ⟨k, hk, rfl, hb, HA⟩ := hrel
  have HBR := Lib.hid hb
  have hlr := hb.size
  have hlw2 : w.heap.size < wr.heap.size := by omega
  by_cases hlt : k < s.size
  · have c0 : wr.cell? ⟨w.heap.size, k, none⟩ = some (.int .u8 (s[k].toNat : Nat)) := (hb.cell (by exact hlw)).trans (HC.out k hlt)
    clear hb
    cases hb : idByte s[k]
    · have HB : Hid (mayB idByte s = false) := mayB_bad hlt hb
      have HI := Lib.hid (fun w => hb ▸ isByte_any s[k] w : ∀ w, Calls Tryz.prog 26 #[.int .u8 s[k].toNat] w fun e w' => e = .returned (.bool false) ∧ w = w')
      clear hb
      go_wp2_with fail
      refine (HI.out _).mono ?_
      rintro e w' ⟨rfl, rfl⟩
      go_wp2
      go_ret
      exact ⟨ret_bool HB.out.symm, HB0.out.trans (HBR.out.mono (Nat.le_of_lt hlw))⟩
    · have HB : Hid ((s.data.toList.take (k + 1)).all idByte = true) := all_step hlt HA.out hb
      have HI := Lib.hid (fun w => hb ▸ isByte_any s[k] w : ∀ w, Calls Tryz.prog 26 #[.int .u8 s[k].toNat] w fun e w' => e = .returned (.bool true) ∧ w = w')
      clear hb
      go_wp2_with fail
      refine (HI.out _).mono ?_
      rintro e w' ⟨rfl, rfl⟩
      go_wp2
      go_roundw
      case rel => exact ⟨k + 1, by omega, by go_num, HBR.out, HB⟩
      case measure => simp [intOf]; omega
  · obtain rfl : k = s.size := by omega
    clear hb
    have HE : Hid (mayB idByte s = (decide (1 ≤ s.size) && decide (s.size ≤ 64))) := mayB_end HA.out
    by_cases h1 : 1 ≤ s.size
    · have HE2 : Hid (mayB idByte s = decide (s.size ≤ 64)) := by show _ = _; rw [HE.out, decide_eq_true h1]; rfl
      clear HE
      by_cases h2 : s.size ≤ 64
      · have HE3 : Hid (mayB idByte s = true) := by show _ = _; rw [HE2.out, decide_eq_true h2]
        clear HE2
        go_wp2
        all_goals first | (exfalso; omega) | (exfalso; rename_i hx; simp at hx; omega) | (go_ret; exact ⟨ret_bool (by rw [HE3.out] <;> (try simp) <;> (try omega)), HB0.out.trans (HBR.out.mono (Nat.le_of_lt hlw))⟩)
      · have HE3 : Hid (mayB idByte s = false) := by show _ = _; rw [HE2.out, decide_eq_false h2]
        clear HE2
        go_wp2
        all_goals first | (exfalso; omega) | (exfalso; rename_i hx; simp at hx; omega) | (go_ret; exact ⟨ret_bool (by rw [HE3.out] <;> (try simp) <;> (try omega)), HB0.out.trans (HBR.out.mono (Nat.le_of_lt hlw))⟩)
    · have HE3 : Hid (mayB idByte s = false) := by show _ = _; rw [HE.out, decide_eq_false h1]; rfl
      clear HE
      go_wp2
      all_goals first | (exfalso; omega) | (exfalso; rename_i hx; simp at hx; omega) | (go_ret; exact ⟨ret_bool (by rw [HE3.out] <;> (try simp) <;> (try omega)), HB0.out.trans (HBR.out.mono (Nat.le_of_lt hlw))⟩)
theorem isDigitV_any (c : UInt8) (b : Bool) (hb : (decide (48 ≤ c.toNat) && decide (c.toNat ≤ 57)) = b) (w : World) : Calls Tryz.prog 27 #[.int .u8 c.toNat] w fun e w' => e = .returned (.bool b) ∧ w = w' := by
 subst hb
 by_cases h1 : 48 ≤ c.toNat
 all_goals
  go_enter Tryz.func27, Tryz.ntmps27
  go_wp2
  all_goals first | (exfalso; omega) | (go_ret; exact ⟨ret_bool (by simp [h1] <;> omega), rfl⟩)
theorem index_marks (c : UInt8) : decide (0 ≤ Lib.indexByte [46, 45, 95, 43] c) = (c.toNat == 46 || c.toNat == 45 || c.toNat == 95 || c.toNat == 43) := by
 have h : ∀ n : Fin 256, decide (0 ≤ Lib.indexByte [46, 45, 95, 43] (UInt8.ofNat n)) = ((UInt8.ofNat n).toNat == 46 || (UInt8.ofNat n).toNat == 45 || (UInt8.ofNat n).toNat == 95 || (UInt8.ofNat n).toNat == 43) := by decide +kernel
 have := h ⟨c.toNat, c.toNat_lt⟩
 simpa only [UInt8.ofNat_toNat] using this
theorem marks_any (c : UInt8) (b : Bool) (hb : (c.toNat == 46 || c.toNat == 45 || c.toNat == 95 || c.toNat == 43) = b) (w : World) : Calls Tryz.prog 28 #[.string ⟨#[46, 45, 95, 43]⟩, .string (bs [c])] w fun e w' => e = .returned (.bool b) ∧ w = w' :=
 (Tryz.strings_Contains_one ⟨#[46, 45, 95, 43]⟩ c w).mono fun _ _ ⟨h1, h2⟩ => ⟨by rw [h1, ← hb]; exact congrArg (fun x => Ending.returned (.bool x)) (index_marks c), h2.symm⟩
set_option maxRecDepth 100000 in
set_option maxHeartbeats 4000000 in
theorem ver_any (s : S) (w : World) (hs : s.size ≤ 9223372036854775807) : Calls Tryz.prog 19 #[.string s] w fun e w' => e = .returned (.bool (verMay s)) ∧ Below w.heap.size w w' := by
 rw [show verMay s = mayB verByte s from rfl]
 have hcv := fun (w : World) => conv_bytes w s
 go_enter Tryz.func19, Tryz.ntmps19
 go_wp2_with fail
 clear hcv
 refine wp_world ?_
 intro W hW
 have hcells := fun j h => bytesW_cell w s j h
 have hbel := bytesW_below w s w.heap.size (Nat.le_refl _)
 have hsz := bytesW_size w s
 rw [← hW] at hcells hbel hsz
 have HC := Lib.hid hcells
 have HB0 := Lib.hid hbel
 have hlw : w.heap.size < W.heap.size := by omega
 clear hW hcells hbel hsz
 generalize bytesC w s = cap at *
 go_loopw [4, 5, 9] (fun _ _ i wr => ∃ k : Nat, k ≤ s.size ∧ i = .int .i64 k ∧ Below W.heap.size W wr ∧ Hid ((s.data.toList.take k).all verByte = true)) (fun _ _ i _ => s.size - (intOf i).toNat)
 case atStart => exact ⟨0, Nat.zero_le _, rfl, Below.refl _ _, rfl⟩
 case round =>
  obtain ⟨k, hk, rfl, hb, HA⟩ := hrel
  have HBR := Lib.hid hb
  have hlr := hb.size
  have hlw2 : w.heap.size < wr.heap.size := by omega
  by_cases hlt : k < s.size
  · have c0 : wr.cell? ⟨w.heap.size, k, none⟩ = some (.int .u8 (s[k].toNat : Nat)) := (hb.cell (by exact hlw)).trans (HC.out k hlt)
    clear hb
    have hcs : (convert 67 9 (.slice (some ⟨wr.heap.size, 0, none⟩) 1 1)).run Tryz.prog (wr.alloc (.cells #[.int .u8 (s[k].toNat : Nat)] 5)) = .ok (.string (bs [s[k]])) (wr.alloc (.cells #[.int .u8 (s[k].toNat : Nat)] 5)) :=
     conv_str wr [(s[k].toNat : Int)] [s[k]] (by simp) _ rfl 1 rfl
    cases hb : verByte s[k]
    · have HB : Hid (mayB verByte s = false) := mayB_bad hlt hb
      have h := verByte_no hb
      have HM := Lib.hid (fun w => marks_any s[k] false (by rw [Bool.eq_false_iff]; intro h; simp at h; omega) w)
      have HD := Lib.hid (fun w => isDigitV_any s[k] false (by rw [Bool.eq_false_iff]; intro h; simp at h; omega) w)
      clear hb
      go_wp2_with (first | (go_at_call 27; refine (HD.out _).mono ?_; rintro e w' ⟨rfl, rfl⟩) | (go_at_call 28; refine (HM.out _).mono ?_; rintro e w' ⟨rfl, rfl⟩))
      all_goals first | (exfalso; omega) | (exfalso; rename_i hx; simp at hx; omega) | (go_ret; exact ⟨ret_bool HB.out.symm, HB0.out.trans ((HBR.out.alloc hlr _).mono (Nat.le_of_lt hlw))⟩)
    · have HB : Hid ((s.data.toList.take (k + 1)).all verByte = true) := all_step hlt HA.out hb
      have h := verByte_iff.1 hb
      clear hb
      by_cases hm : (97 ≤ s[k].toNat ∧ s[k].toNat ≤ 122) ∨ (65 ≤ s[k].toNat ∧ s[k].toNat ≤ 90)
      · clear h hcs
        rcases hm with h | h
        all_goals
         go_wp2
         all_goals first | (exfalso; omega) | (exfalso; rename_i hx; simp at hx; omega) | skip
         go_roundw
         case rel => exact ⟨k + 1, by omega, by go_num, HBR.out, HB⟩
         case measure => simp [intOf]; omega
      · by_cases hd : 48 ≤ s[k].toNat ∧ s[k].toNat ≤ 57
        · have HD := Lib.hid (fun w => isDigitV_any s[k] true (by simp; omega) w)
          clear h hcs hm
          go_wp2_with (go_at_call 27; refine (HD.out _).mono ?_; rintro e w' ⟨rfl, rfl⟩)
          all_goals first | (exfalso; omega) | (exfalso; rename_i hx; simp at hx; omega) | skip
          go_roundw
          case rel => exact ⟨k + 1, by omega, by go_num, HBR.out, HB⟩
          case measure => simp [intOf]; omega
        · have HM := Lib.hid (fun w => marks_any s[k] true (by simp; omega) w)
          have HD := Lib.hid (fun w => isDigitV_any s[k] false (by rw [Bool.eq_false_iff]; intro h; simp at h; omega) w)
          go_wp2_with (first | (go_at_call 27; refine (HD.out _).mono ?_; rintro e w' ⟨rfl, rfl⟩) | (go_at_call 28; refine (HM.out _).mono ?_; rintro e w' ⟨rfl, rfl⟩))
          all_goals first | (exfalso; omega) | (exfalso; rename_i hx; simp at hx; omega) | skip
          all_goals
           go_roundw
           case rel => exact ⟨k + 1, by omega, by go_num, HBR.out.alloc hlr _, HB⟩
           case measure => simp [intOf]; omega
  · obtain rfl : k = s.size := by omega
    clear hb
    have HE : Hid (mayB verByte s = (decide (1 ≤ s.size) && decide (s.size ≤ 64))) := mayB_end HA.out
    by_cases h1 : 1 ≤ s.size
    · have HE2 : Hid (mayB verByte s = decide (s.size ≤ 64)) := by show _ = _; rw [HE.out, decide_eq_true h1]; rfl
      clear HE
      by_cases h2 : s.size ≤ 64
      · have HE3 : Hid (mayB verByte s = true) := by show _ = _; rw [HE2.out, decide_eq_true h2]
        clear HE2
        go_wp2
        all_goals first | (exfalso; omega) | (exfalso; rename_i hx; simp at hx; omega) | (go_ret; exact ⟨ret_bool (by rw [HE3.out] <;> (try simp) <;> (try omega)), HB0.out.trans (HBR.out.mono (Nat.le_of_lt hlw))⟩)
      · have HE3 : Hid (mayB verByte s = false) := by show _ = _; rw [HE2.out, decide_eq_false h2]
        clear HE2
        go_wp2
        all_goals first | (exfalso; omega) | (exfalso; rename_i hx; simp at hx; omega) | (go_ret; exact ⟨ret_bool (by rw [HE3.out] <;> (try simp) <;> (try omega)), HB0.out.trans (HBR.out.mono (Nat.le_of_lt hlw))⟩)
    · have HE3 : Hid (mayB verByte s = false) := by show _ = _; rw [HE.out, decide_eq_false h1]; rfl
      clear HE
      go_wp2
      all_goals first | (exfalso; omega) | (exfalso; rename_i hx; simp at hx; omega) | (go_ret; exact ⟨ret_bool (by rw [HE3.out] <;> (try simp) <;> (try omega)), HB0.out.trans (HBR.out.mono (Nat.le_of_lt hlw))⟩)

end Go.Proofs.YtphaeegbmfpcgaaGreat

/- Walks: which Gavs, Keys and pins may be, the program's and the document's; the conditions stand in the theorems. -/

namespace Go.Proofs.YtphaeegbmfpcgaaGreat
open Go Go.RowKit

theorem refIsId_b (s : S) (w : World) (hs : s.size ≤ 9223372036854775807) : Calls Tryz.prog 16 #[.string s] w fun e w' => e = .returned (.bool (isIdB s)) ∧ Below w.heap.size w w' :=
 (refIsId_any s w hs).mono fun _ _ ⟨h1, h2⟩ => ⟨h1, h2 ▸ Below.refl _ _⟩
theorem refVer_b (s : S) (w : World) (hs : s.size ≤ 9223372036854775807) : Calls Tryz.prog 17 #[.string s] w fun e w' => e = .returned (.bool (verMay s)) ∧ Below w.heap.size w w' :=
 (refVer_any s w hs).mono fun _ _ ⟨h1, h2⟩ => ⟨h1, h2 ▸ Below.refl _ _⟩
def gavSm (g : Gav) : Prop := g.group.size ≤ 9223372036854775807 ∧ g.artifact.size ≤ 9223372036854775807 ∧ g.version.size ≤ 9223372036854775807
set_option maxHeartbeats 2000000 in
theorem mayGav_any (g : Gav) (w : World) (h : gavSm g) :
    Calls Tryz.prog 10 #[.agg #[.string g.group, .string g.artifact, .string g.version]] w fun e w' => e = .returned (.bool (gavMay g)) ∧ Below w.heap.size w w' := by
 have HH := Lib.hid h
 clear h
 go_enter Tryz.func10, Tryz.ntmps10
 go_wp2_with fail
 refine Calls.world ?_
 intro W hW
 have x0 : Box W w.heap.size [.string g.group, .string g.artifact, .string g.version] := by rw [hW]; exact Box.new w _ _ _ rfl
 have hB0 : Below w.heap.size w W := by rw [hW]; exact (Below.refl _ _).alloc (Nat.le_refl _) _
 have X := Lib.hid x0
 have HB := Lib.hid hB0
 clear hW x0 hB0
 refine (isId_any g.group _ HH.out.1).mono ?_
 rintro e w0 ⟨rfl, hb⟩
 have X' := Lib.hid (X.out.below hb X.out.lt)
 have HB' := Lib.hid (HB.out.trans (hb.mono HB.out.size))
 clear hb X HB
 have X := X'
 have HB := HB'
 clear X' HB'
 cases hq : isIdB g.group
 · have HQ0 := Lib.hid hq
   clear hq
   obtain ⟨c0, c1, c2⟩ := bxc3 X.out
   have l0 := X.out.lt
   go_wp2
   go_ret
   exact ⟨ret_bool (by have z := True.intro; unfold gavMay; rw [HQ0.out] <;> (first | done | (simp; done) | (simp; omega) | omega)), HB.out⟩
 have HQ0 := Lib.hid hq
 clear hq
 obtain ⟨c0, c1, c2⟩ := bxc3 X.out
 have l0 := X.out.lt
 go_wp2_with fail
 refine (isId_any g.artifact _ HH.out.2.1).mono ?_
 rintro e w1 ⟨rfl, hb⟩
 have X' := Lib.hid (X.out.below hb X.out.lt)
 have HB' := Lib.hid (HB.out.trans (hb.mono HB.out.size))
 clear hb X HB
 clear c0 c1 c2 l0
 have X := X'
 have HB := HB'
 clear X' HB'
 cases hq : isIdB g.artifact
 · have HQ1 := Lib.hid hq
   clear hq
   obtain ⟨c0, c1, c2⟩ := bxc3 X.out
   have l0 := X.out.lt
   go_wp2
   go_ret
   exact ⟨ret_bool (by have z := True.intro; unfold gavMay; rw [HQ0.out, HQ1.out] <;> (first | done | (simp; done) | (simp; omega) | omega)), HB.out⟩
 have HQ1 := Lib.hid hq
 clear hq
 obtain ⟨c0, c1, c2⟩ := bxc3 X.out
 have l0 := X.out.lt
 go_wp2_with fail
 refine (ver_any g.version _ HH.out.2.2).mono ?_
 rintro e w2 ⟨rfl, hb⟩
 have X' := Lib.hid (X.out.below hb X.out.lt)
 have HB' := Lib.hid (HB.out.trans (hb.mono HB.out.size))
 clear hb X HB
 clear c0 c1 c2 l0
 have X := X'
 have HB := HB'
 clear X' HB'
 cases hq : verMay g.version
 · have HQ2 := Lib.hid hq
   clear hq
   obtain ⟨c0, c1, c2⟩ := bxc3 X.out
   have l0 := X.out.lt
   go_wp2
   go_ret
   exact ⟨ret_bool (by have z := True.intro; unfold gavMay; rw [HQ0.out, HQ1.out, HQ2.out] <;> (first | done | (simp; done) | (simp; omega) | omega)), HB.out⟩
 have HQ2 := Lib.hid hq
 clear hq
 obtain ⟨c0, c1, c2⟩ := bxc3 X.out
 have l0 := X.out.lt
 go_wp2
 go_ret
 exact ⟨ret_bool (by have z := True.intro; unfold gavMay; rw [HQ0.out, HQ1.out, HQ2.out] <;> (first | done | (simp; done) | (simp; omega) | omega)), HB.out⟩
set_option maxHeartbeats 2000000 in
theorem refMayGav_any (g : Gav) (w : World) (h : gavSm g) :
    Calls Tryz.prog 8 #[.agg #[.string g.group, .string g.artifact, .string g.version]] w fun e w' => e = .returned (.bool (gavMay g)) ∧ Below w.heap.size w w' := by
 have HH := Lib.hid h
 clear h
 go_enter Tryz.func8, Tryz.ntmps8
 go_wp2_with fail
 refine Calls.world ?_
 intro W hW
 have x0 : Box W w.heap.size [.string g.group, .string g.artifact, .string g.version] := by rw [hW]; exact Box.new w _ _ _ rfl
 have hB0 : Below w.heap.size w W := by rw [hW]; exact (Below.refl _ _).alloc (Nat.le_refl _) _
 have X := Lib.hid x0
 have HB := Lib.hid hB0
 clear hW x0 hB0
 refine (refIsId_b g.group _ HH.out.1).mono ?_
 rintro e w0 ⟨rfl, hb⟩
 have X' := Lib.hid (X.out.below hb X.out.lt)
 have HB' := Lib.hid (HB.out.trans (hb.mono HB.out.size))
 clear hb X HB
 have X := X'
 have HB := HB'
 clear X' HB'
 cases hq : isIdB g.group
 · have HQ0 := Lib.hid hq
   clear hq
   obtain ⟨c0, c1, c2⟩ := bxc3 X.out
   have l0 := X.out.lt
   go_wp2
   go_ret
   exact ⟨ret_bool (by have z := True.intro; unfold gavMay; rw [HQ0.out] <;> (first | done | (simp; done) | (simp; omega) | omega)), HB.out⟩
 have HQ0 := Lib.hid hq
 clear hq
 obtain ⟨c0, c1, c2⟩ := bxc3 X.out
 have l0 := X.out.lt
 go_wp2_with fail
 refine (refIsId_b g.artifact _ HH.out.2.1).mono ?_
 rintro e w1 ⟨rfl, hb⟩
 have X' := Lib.hid (X.out.below hb X.out.lt)
 have HB' := Lib.hid (HB.out.trans (hb.mono HB.out.size))
 clear hb X HB
 clear c0 c1 c2 l0
 have X := X'
 have HB := HB'
 clear X' HB'
 cases hq : isIdB g.artifact
 · have HQ1 := Lib.hid hq
   clear hq
   obtain ⟨c0, c1, c2⟩ := bxc3 X.out
   have l0 := X.out.lt
   go_wp2
   go_ret
   exact ⟨ret_bool (by have z := True.intro; unfold gavMay; rw [HQ0.out, HQ1.out] <;> (first | done | (simp; done) | (simp; omega) | omega)), HB.out⟩
 have HQ1 := Lib.hid hq
 clear hq
 obtain ⟨c0, c1, c2⟩ := bxc3 X.out
 have l0 := X.out.lt
 go_wp2_with fail
 refine (refVer_b g.version _ HH.out.2.2).mono ?_
 rintro e w2 ⟨rfl, hb⟩
 have X' := Lib.hid (X.out.below hb X.out.lt)
 have HB' := Lib.hid (HB.out.trans (hb.mono HB.out.size))
 clear hb X HB
 clear c0 c1 c2 l0
 have X := X'
 have HB := HB'
 clear X' HB'
 cases hq : verMay g.version
 · have HQ2 := Lib.hid hq
   clear hq
   obtain ⟨c0, c1, c2⟩ := bxc3 X.out
   have l0 := X.out.lt
   go_wp2
   go_ret
   exact ⟨ret_bool (by have z := True.intro; unfold gavMay; rw [HQ0.out, HQ1.out, HQ2.out] <;> (first | done | (simp; done) | (simp; omega) | omega)), HB.out⟩
 have HQ2 := Lib.hid hq
 clear hq
 obtain ⟨c0, c1, c2⟩ := bxc3 X.out
 have l0 := X.out.lt
 go_wp2
 go_ret
 exact ⟨ret_bool (by have z := True.intro; unfold gavMay; rw [HQ0.out, HQ1.out, HQ2.out] <;> (first | done | (simp; done) | (simp; omega) | omega)), HB.out⟩

end Go.Proofs.YtphaeegbmfpcgaaGreat

/- A region that draws its order, by an invariant on what has come up; no program in sight. -/
namespace Go.Proofs.YtphaeegbmfpcgaaGreat
open Go Go.RowKit

theorem wpAny_inv {P : Program} {md : Region.Mode} {ops : Array Oper} {Q : Exit → Act → World → Prop} {I : Nat → Array Bool → Act → World → Prop}
    (h0 : ∀ listed a w, I 0 listed a w → Region.ready md ops listed = [] ∧ Q .normal a w)
    (hr : ∀ n listed a w, I (n + 1) listed a w → Region.ready md ops listed ≠ [])
    (hs : ∀ n listed a w, I (n + 1) listed a w → ∀ i ∈ Region.ready md ops listed, wpOp P ops Q i (fun a' w' => I n (listed.setIfInBounds i true) a' w') a w) :
    ∀ n listed a w, I n listed a w → wpAny P md ops Q n listed a w
 | 0, listed, a, w, h => h0 listed a w h
 | n + 1, listed, a, w, h => ⟨fun e => absurd e (hr n listed a w h), fun i hi => wpOp_mono (fun a' w' h' => wpAny_inv h0 hr hs n _ a' w' h') (hs n listed a w h i hi)⟩
theorem wp_region_inv {P : Program} {ops : Array Oper} {Q : Exit → Act → World → Prop} {id : Nat} {a : Act} {w : World} (I : Nat → Array Bool → Act → World → Prop) (hm : P.follows .mixedOrders = true) (k : Nat) (hk : ops.size = k)
    (hi : I k (Array.replicate k false) a w.drew)
    (h0 : ∀ listed a w, I 0 listed a w → Region.ready .any ops listed = [] ∧ Q .normal a w)
    (hr : ∀ n listed a w, I (n + 1) listed a w → Region.ready .any ops listed ≠ [])
    (hs : ∀ n listed a w, I (n + 1) listed a w → ∀ i ∈ Region.ready .any ops listed, wpOp P ops Q i (fun a' w' => I n (listed.setIfInBounds i true) a' w') a w) :
    (Code.region id ops true).wp P Q a w :=
 wp_region_any hm (by subst hk; exact wpAny_inv h0 hr hs _ _ _ _ hi)

end Go.Proofs.YtphaeegbmfpcgaaGreat

/- Walks: the words of scopes, the program's and the document's; the scope of a word; the texts of keys; the conditions stand in the theorems. -/
namespace Go.Proofs.YtphaeegbmfpcgaaGreat
open Go Go.RowKit

def wordB (n : Int) : Bs :=
 if n = 1 then [99, 111, 109, 112, 105, 108, 101] else if n = 2 then [114, 117, 110, 116, 105, 109, 101] else if n = 3 then [112, 114, 111, 118, 105, 100, 101, 100] else if n = 4 then [115, 121, 115, 116, 101, 109]
 else if n = 5 then [116, 101, 115, 116] else if n = 6 then [105, 109, 112, 111, 114, 116] else []
theorem word_any (n : Int) (w : World) : Calls Tryz.prog 132 #[.int .i64 n] w fun e w' => e = .returned (.string (bs (wordB n))) ∧ w = w' := by
 go_enter Tryz.func132, Tryz.ntmps132
 by_cases h1 : n = 1
 · subst h1
   go_wp2
   go_ret
   exact ⟨rfl, rfl⟩
 by_cases h2 : n = 2
 · subst h2
   go_wp2
   go_ret
   exact ⟨rfl, rfl⟩
 by_cases h3 : n = 3
 · subst h3
   go_wp2
   go_ret
   exact ⟨rfl, rfl⟩
 by_cases h4 : n = 4
 · subst h4
   go_wp2
   go_ret
   exact ⟨rfl, rfl⟩
 by_cases h5 : n = 5
 · subst h5
   go_wp2
   go_ret
   exact ⟨rfl, rfl⟩
 by_cases h6 : n = 6
 · subst h6
   go_wp2
   go_ret
   exact ⟨rfl, rfl⟩
 have HW : Hid (wordB n = []) := by show _ = _; unfold wordB; rw [if_neg h1, if_neg h2, if_neg h3, if_neg h4, if_neg h5, if_neg h6]
 go_wp2
 go_ret
 exact ⟨by rw [HW.out]; rfl, rfl⟩
/-- The scope of a word, 6 the import's; 0: it is none. -/
def scopeW (d : Bs) : Int := if scopeN d ≠ 0 then scopeN d else if d = [105, 109, 112, 111, 114, 116] then 6 else 0
theorem bs_eqb (a b : Bs) : ((bs a).toList == (bs b).toList) = decide (a = b) := bs_beq a b
set_option maxRecDepth 100000 in
set_option maxHeartbeats 4000000 in
theorem scope_any (d : Bs) (w : World) : Calls Tryz.prog 106 #[.string (bs d)] w fun e w' => e = .returned (.tuple #[.int .i64 (scopeW d), .bool (decide (scopeW d ≠ 0))]) ∧ w = w' := by
 go_enter Tryz.func106, Tryz.ntmps106
 go_wp2_with fail
 go_loop [5] (fun iv => ∃ i : Nat, i ≤ 7 ∧ iv = .int .i64 i ∧ ∀ j : Nat, 1 ≤ j → j < i → wordB j ≠ d) (fun iv => 7 - (intOf iv).toNat)
 case atStart => exact ⟨0, by omega, rfl, fun j h1 h2 => by omega⟩
 case round =>
  obtain ⟨i, hi, rfl, hno⟩ := hrel
  have HNO := Lib.hid hno
  clear hno
  rcases (by omega : i = 0 ∨ i = 1 ∨ i = 2 ∨ i = 3 ∨ i = 4 ∨ i = 5 ∨ i = 6 ∨ i = 7) with rfl | rfl | rfl | rfl | rfl | rfl | rfl | rfl
  · go_wp2
    go_round
    case rel => exact ⟨1, by omega, rfl, fun j h1 h2 => by omega⟩
    case measure => simp [intOf]
  · have HC := Lib.hid (word_any 1 w)
    go_wp2_with fail
    refine HC.out.mono ?_
    rintro e w' ⟨rfl, rfl⟩
    by_cases hd : wordB 1 = d
    · have HS : Hid (scopeW d = 1) := by show _ = _; rw [← hd]; rfl
      have he := bs_eqb (wordB 1) d
      rw [decide_eq_true hd] at he
      clear hd
      go_wp2
      go_ret2
      exact ⟨by rw [HS.out]; rfl, rfl⟩
    · have HD := Lib.hid hd
      have he := bs_eqb (wordB 1) d
      rw [decide_eq_false hd] at he
      clear hd
      go_wp2
      go_round
      case rel => exact ⟨2, by omega, rfl, fun j h1 h2 => by
       by_cases hj : j = 1
       · subst hj; exact HD.out
       · exact HNO.out j h1 (by omega)⟩
      case measure => simp [intOf]
  · have HC := Lib.hid (word_any 2 w)
    go_wp2_with fail
    refine HC.out.mono ?_
    rintro e w' ⟨rfl, rfl⟩
    by_cases hd : wordB 2 = d
    · have HS : Hid (scopeW d = 2) := by show _ = _; rw [← hd]; rfl
      have he := bs_eqb (wordB 2) d
      rw [decide_eq_true hd] at he
      clear hd
      go_wp2
      go_ret2
      exact ⟨by rw [HS.out]; rfl, rfl⟩
    · have HD := Lib.hid hd
      have he := bs_eqb (wordB 2) d
      rw [decide_eq_false hd] at he
      clear hd
      go_wp2
      go_round
      case rel => exact ⟨3, by omega, rfl, fun j h1 h2 => by
       by_cases hj : j = 2
       · subst hj; exact HD.out
       · exact HNO.out j h1 (by omega)⟩
      case measure => simp [intOf]
  · have HC := Lib.hid (word_any 3 w)
    go_wp2_with fail
    refine HC.out.mono ?_
    rintro e w' ⟨rfl, rfl⟩
    by_cases hd : wordB 3 = d
    · have HS : Hid (scopeW d = 3) := by show _ = _; rw [← hd]; rfl
      have he := bs_eqb (wordB 3) d
      rw [decide_eq_true hd] at he
      clear hd
      go_wp2
      go_ret2
      exact ⟨by rw [HS.out]; rfl, rfl⟩
    · have HD := Lib.hid hd
      have he := bs_eqb (wordB 3) d
      rw [decide_eq_false hd] at he
      clear hd
      go_wp2
      go_round
      case rel => exact ⟨4, by omega, rfl, fun j h1 h2 => by
       by_cases hj : j = 3
       · subst hj; exact HD.out
       · exact HNO.out j h1 (by omega)⟩
      case measure => simp [intOf]
  · have HC := Lib.hid (word_any 4 w)
    go_wp2_with fail
    refine HC.out.mono ?_
    rintro e w' ⟨rfl, rfl⟩
    by_cases hd : wordB 4 = d
    · have HS : Hid (scopeW d = 4) := by show _ = _; rw [← hd]; rfl
      have he := bs_eqb (wordB 4) d
      rw [decide_eq_true hd] at he
      clear hd
      go_wp2
      go_ret2
      exact ⟨by rw [HS.out]; rfl, rfl⟩
    · have HD := Lib.hid hd
      have he := bs_eqb (wordB 4) d
      rw [decide_eq_false hd] at he
      clear hd
      go_wp2
      go_round
      case rel => exact ⟨5, by omega, rfl, fun j h1 h2 => by
       by_cases hj : j = 4
       · subst hj; exact HD.out
       · exact HNO.out j h1 (by omega)⟩
      case measure => simp [intOf]
  · have HC := Lib.hid (word_any 5 w)
    go_wp2_with fail
    refine HC.out.mono ?_
    rintro e w' ⟨rfl, rfl⟩
    by_cases hd : wordB 5 = d
    · have HS : Hid (scopeW d = 5) := by show _ = _; rw [← hd]; rfl
      have he := bs_eqb (wordB 5) d
      rw [decide_eq_true hd] at he
      clear hd
      go_wp2
      go_ret2
      exact ⟨by rw [HS.out]; rfl, rfl⟩
    · have HD := Lib.hid hd
      have he := bs_eqb (wordB 5) d
      rw [decide_eq_false hd] at he
      clear hd
      go_wp2
      go_round
      case rel => exact ⟨6, by omega, rfl, fun j h1 h2 => by
       by_cases hj : j = 5
       · subst hj; exact HD.out
       · exact HNO.out j h1 (by omega)⟩
      case measure => simp [intOf]
  · have HC := Lib.hid (word_any 6 w)
    go_wp2_with fail
    refine HC.out.mono ?_
    rintro e w' ⟨rfl, rfl⟩
    by_cases hd : wordB 6 = d
    · have HS : Hid (scopeW d = 6) := by show _ = _; rw [← hd]; rfl
      have he := bs_eqb (wordB 6) d
      rw [decide_eq_true hd] at he
      clear hd
      go_wp2
      go_ret2
      exact ⟨by rw [HS.out]; rfl, rfl⟩
    · have HD := Lib.hid hd
      have he := bs_eqb (wordB 6) d
      rw [decide_eq_false hd] at he
      clear hd
      go_wp2
      go_round
      case rel => exact ⟨7, by omega, rfl, fun j h1 h2 => by
       by_cases hj : j = 6
       · subst hj; exact HD.out
       · exact HNO.out j h1 (by omega)⟩
      case measure => simp [intOf]
  · have HS : Hid (scopeW d = 0) := by
     show _ = _
     have h1 := HNO.out 1 (by omega) (by omega)
     have h2 := HNO.out 2 (by omega) (by omega)
     have h3 := HNO.out 3 (by omega) (by omega)
     have h4 := HNO.out 4 (by omega) (by omega)
     have h5 := HNO.out 5 (by omega) (by omega)
     have h6 := HNO.out 6 (by omega) (by omega)
     have hn : scopeN d = 0 := by
      unfold scopeN
      rw [if_neg (fun e => h1 e.symm), if_neg (fun e => h2 e.symm), if_neg (fun e => h3 e.symm), if_neg (fun e => h4 e.symm), if_neg (fun e => h5 e.symm)]
     unfold scopeW
     rw [hn, if_neg (by simp), if_neg (fun e => h6 e.symm)]
    go_wp2
    go_ret2
    exact ⟨by rw [HS.out]; rfl, rfl⟩

end Go.Proofs.YtphaeegbmfpcgaaGreat

/- What a project's tree says whatever is wrong, and its first error and where, as plain functions on trees; no program in sight. -/

namespace Go.Proofs.YtphaeegbmfpcgaaGreat
open Go Go.RowKit

abbrev Er := Int × Bs
def numP (n : Nat) : Bs := if n < 10 then [UInt8.ofNat (48 + n)] else numP (n / 10) ++ [UInt8.ofNat (48 + n % 10)]
/-- A path's next step; a place in a list; the second one. -/
def sl (w m : Bs) : Bs := w ++ 47 :: m
def atI (w : Bs) (i : Nat) : Bs := w ++ 91 :: (numP i ++ [93])
def two (w : Bs) : Bs := w ++ [91, 50, 93]
def textBad (t : Tr) (e : Bool) : Bool := !(kidsF [] t.kids).isEmpty || decide (1024 < (trimB (textF t.kids)).length) || ((trimB (textF t.kids)).isEmpty && !e)
def freeB : Bs → Bool := fun _ => true
def bGroup : Bs := [103, 114, 111, 117, 112, 73, 100]
def bArtifact : Bs := [97, 114, 116, 105, 102, 97, 99, 116, 73, 100]
def bVersion : Bs := [118, 101, 114, 115, 105, 111, 110]
def bType : Bs := [116, 121, 112, 101]
def bClassifier : Bs := [99, 108, 97, 115, 115, 105, 102, 105, 101, 114]
def bScope : Bs := [115, 99, 111, 112, 101]
def bOptional : Bs := [111, 112, 116, 105, 111, 110, 97, 108]
def bExclusions : Bs := [101, 120, 99, 108, 117, 115, 105, 111, 110, 115]
def bExclusion : Bs := [101, 120, 99, 108, 117, 115, 105, 111, 110]
def bDependencies : Bs := [100, 101, 112, 101, 110, 100, 101, 110, 99, 105, 101, 115]
def bDependency : Bs := [100, 101, 112, 101, 110, 100, 101, 110, 99, 121]
def bProperties : Bs := [112, 114, 111, 112, 101, 114, 116, 105, 101, 115]
def bManagement : Bs := [100, 101, 112, 101, 110, 100, 101, 110, 99, 121, 77, 97, 110, 97, 103, 101, 109, 101, 110, 116]
def bParent : Bs := [112, 97, 114, 101, 110, 116]
def bPackaging : Bs := [112, 97, 99, 107, 97, 103, 105, 110, 103]
def bProject : Bs := [112, 114, 111, 106, 101, 99, 116]
def bTrue : Bs := [116, 114, 117, 101]
def bFalse : Bs := [102, 97, 108, 115, 101]
def isTruthB (s : Bs) : Bool := decide (s = bTrue) || decide (s = bFalse)
/-! What the fields' texts must be. -/
def isIdQ (s : Bs) : Bool := isIdB (bs s)
def verQ (s : Bs) : Bool := verMay (bs s)
def isPartQ (s : Bs) : Bool := decide (s = [42]) || isIdQ s
def isScopeQ (managed : Bool) (s : Bs) : Bool := decide (scopeW s ≠ 0) && (managed || decide (scopeW s ≠ 6))
def optQ (s : Bs) : Int := if s = bTrue then 1 else if s = bFalse then 2 else 0
/-! Of each part: what it says, and its first error. -/
def manyE (t : Tr) (w m : Bs) : Option Er := if 1 < (kidsF m t.kids).length then some (20, two (sl w m)) else none
def textV (t : Tr) : Bs := trimB (textF t.kids)
def textE (t : Tr) (w : Bs) (e : Bool) : Option Er := if textBad t e then some (20, w) else none
def oneV (t : Tr) (m : Bs) : Option Tr := (kidsF m t.kids).head?
def wordV (t : Tr) (m : Bs) : Bs := match oneV t m with
 | none => []
 | some k => textV k
def wordE (t : Tr) (w m : Bs) (must : Bool) (r : Bs → Bool) : Option Er := (manyE t w m).or (match oneV t m with
 | none => if must then some (20, sl w m) else none
 | some k => (textE k (sl w m) false).or (if r (textV k) then none else some (20, sl w m)))
def eachE (f : Tr → Bs → Option Er) (w : Bs) : List Tr → Nat → Option Er
 | [], _ => none
 | t :: r, i => (f t (atI w (i + 1))).or (eachE f w r (i + 1))
def listE (f : Tr → Bs → Option Er) (t : Tr) (w m : Bs) : Option Er := (if 1024 < (kidsF m t.kids).length then some (2, w) else none).or (eachE f (sl w m) (kidsF m t.kids) 0)
def exclV (t : Tr) : Id := ⟨bs (wordV t bGroup), bs (wordV t bArtifact)⟩
def exclE (t : Tr) (w : Bs) : Option Er := (wordE t w bGroup true isPartQ).or (wordE t w bArtifact true isPartQ)
def exclsV (t : Tr) : List Id := match oneV t bExclusions with
 | none => []
 | some f => (kidsF bExclusion f.kids).map exclV
def exclsE (t : Tr) (w : Bs) : Option Er := (manyE t w bExclusions).or (match oneV t bExclusions with
 | none => none
 | some f => listE exclE f (sl w bExclusions) bExclusion)
def depV (t : Tr) : Dep := ⟨bs (wordV t bGroup), bs (wordV t bArtifact), bs (wordV t bVersion), bs (wordV t bType), bs (wordV t bClassifier), scopeW (wordV t bScope), optQ (wordV t bOptional), exclsV t⟩
def depE (managed : Bool) (t : Tr) (w : Bs) : Option Er := (wordE t w bGroup true freeB).or ((wordE t w bArtifact true freeB).or ((wordE t w bVersion false freeB).or ((wordE t w bType false freeB).or ((wordE t w bClassifier false freeB).or
 ((wordE t w bScope false (isScopeQ managed)).or ((wordE t w bOptional false isTruthB).or (exclsE t w)))))))
def depsV (t : Tr) : List Dep := match oneV t bDependencies with
 | none => []
 | some f => (kidsF bDependency f.kids).map depV
def depsE (managed : Bool) (t : Tr) (w : Bs) : Option Er := (manyE t w bDependencies).or (match oneV t bDependencies with
 | none => none
 | some f => listE (depE managed) f (sl w bDependencies) bDependency)
def prpV (t : Tr) : Prp := ⟨bs t.name, bs (textV t)⟩
def propsEgo (w : Bs) : List Tr → List Tr → Option Er
 | [], _ => none
 | t :: r, d => (if d.any (fun x => decide (x.name = t.name)) then some (20, two (sl w t.name)) else none).or ((textE t (sl w t.name) true).or (propsEgo w r (d ++ [t])))
def propsV (t : Tr) : List Prp := match oneV t bProperties with
 | none => []
 | some f => (kidsF [] f.kids).map prpV
def propsE (t : Tr) (w : Bs) : Option Er := (manyE t w bProperties).or (match oneV t bProperties with
 | none => none
 | some f => (if 1024 < (kidsF [] f.kids).length then some (2, sl w bProperties) else none).or (propsEgo (sl w bProperties) (kidsF [] f.kids) []))
def parentV (t : Tr) : Bool × Gav := match oneV t bParent with
 | none => (false, ⟨⟨#[]⟩, ⟨#[]⟩, ⟨#[]⟩⟩)
 | some f => (true, ⟨bs (wordV f bGroup), bs (wordV f bArtifact), bs (wordV f bVersion)⟩)
def parentE (t : Tr) (w : Bs) : Option Er := (manyE t w bParent).or (match oneV t bParent with
 | none => none
 | some f => (wordE f (sl w bParent) bGroup true isIdQ).or ((wordE f (sl w bParent) bArtifact true isIdQ).or (wordE f (sl w bParent) bVersion true verQ)))
def managedV (t : Tr) : List Dep := match oneV t bManagement with
 | none => []
 | some f => depsV f
def managedE (t : Tr) (w : Bs) : Option Er := (manyE t w bManagement).or (match oneV t bManagement with
 | none => none
 | some f => depsE true f (sl w bManagement))
def readV (t : Tr) : Pom := ⟨(parentV t).1, (parentV t).2, bs (wordV t bGroup), bs (wordV t bArtifact), bs (wordV t bVersion), bs (wordV t bPackaging), propsV t, managedV t, depsV t⟩
def readE (t : Tr) : Option Er := (if t.name = bProject then none else some (20, t.name)).or ((parentE t bProject).or ((wordE t bProject bGroup false freeB).or ((wordE t bProject bArtifact true freeB).or ((wordE t bProject bVersion false freeB).or
 ((wordE t bProject bPackaging false freeB).or ((propsE t bProject).or ((managedE t bProject).or (depsE false t bProject))))))))

end Go.Proofs.YtphaeegbmfpcgaaGreat
