/- Walks: which ids and versions may be, the program's and the document's; the conditions stand in the theorems. -/
import Derived.Test.YtphaeegbmfpcgaaGreatDoorFB11
import Derived.Test.YtphaeegbmfpcgaaGreatDoorShelf
import Derived.Laws.IdiomStrings
import Derived.Laws.BytesArg
import Derived.Test.YtphaeegbmfpcgaaGreatDoorFB03
import Derived.Orders
import Derived.Laws.EntriesVeiled
import Derived.Test.YtphaeegbmfpcgaaGreatDoorFB08
namespace Go.Proofs.YtphaeegbmfpcgaaGreatDoor
open Go Go.RowKit

theorem conv_str (w : World) (xs : List Int) (l : Bs) (h : xs.map (fun n => UInt8.ofNat n.toNat) = l) (C : Array Value) (hC : C = (xs.map (Value.int .u8)).toArray) (k : Nat) (hk : k = xs.length) :
    (convert 173 9 (.slice (some ⟨w.heap.size, 0, none⟩) k k)).run Tryz.prog (w.alloc (.cells C 5)) = .ok (.string (bs l)) (w.alloc (.cells C 5)) := by
 subst hk hC
 rw [run_convert_bytes_arg (P := Tryz.prog) (w.alloc (.cells (xs.map (Value.int .u8)).toArray 5)) 173 5 Tryz.underlying173 Tryz.underlying5 w.heap.size 0 xs.length xs.length xs rfl ?_ 9 Tryz.underlying9]
 · rw [← h]; rfl
 · intro i hi
   rw [World.cell?_alloc_mark]
   simp [List.getElem?_eq_getElem hi]
def mayB (P : UInt8 → Bool) (s : S) : Bool := s.data.toList.all P && decide (1 ≤ s.size) && decide (s.size ≤ 64)
theorem eqI (n : Nat) (k : Nat) (j : Int) (h : j = k) : ((n : Int) == j) = decide (n = k) := by
 rw [h, Bool.eq_iff_iff]; simp; omega
theorem neI (n : Nat) (k : Nat) (j : Int) (h : j = k) : ((n : Int) != j) = !decide (n = k) := by
 rw [bne, eqI n k j h]
theorem mayB_bad {P : UInt8 → Bool} {s : S} {k : Nat} (h : k < s.size) (hb : P s[k] = false) : mayB P s = false := by
 have : s.data.toList.all P = false := by
  rw [List.all_eq_false]
  exact ⟨s[k], List.getElem_mem (l := s.data.toList) (n := k) (by rw [size_data]; exact h), by rw [hb]; simp⟩
 unfold mayB; rw [this]; rfl
theorem mayB_end {P : UInt8 → Bool} {s : S} (h : (s.data.toList.take s.size).all P = true) : mayB P s = (decide (1 ≤ s.size) && decide (s.size ≤ 64)) := by
 rw [List.take_of_length_le (by rw [size_data]; exact Nat.le_refl _)] at h
 unfold mayB; rw [h]; rfl
theorem all_step {P : UInt8 → Bool} {s : S} {k : Nat} (h : k < s.size) (ha : (s.data.toList.take k).all P = true) (hb : P s[k] = true) : (s.data.toList.take (k + 1)).all P = true := by
 rw [take_byte s k h, List.all_append, ha]; simpa using hb
set_option maxHeartbeats 1000000 in
theorem isByte_any (c : UInt8) (w : World) : Calls Tryz.prog 92 #[.int .u8 c.toNat] w fun e w' => e = .returned (.bool (idByte c)) ∧ w = w' := by
 have e46 := eqI c.toNat 46 46 rfl
 have e45 := eqI c.toNat 45 45 rfl
 have e95 := eqI c.toNat 95 95 rfl
 have e58 := neI c.toNat 58 58 rfl
 cases hb : idByte c
 · have h := idByte_no hb
   clear hb
   go_enter Tryz.func92, Tryz.ntmps92
   go_wp2
   all_goals first | (exfalso; omega) | (exfalso; rename_i hx; simp at hx; omega) | (go_ret; exact ⟨ret_bool (by simp <;> omega), rfl⟩)
 · have h := idByte_iff.1 hb
   clear hb
   have n58 : ¬ c.toNat = 58 := by omega
   go_enter Tryz.func92, Tryz.ntmps92
   go_wp2
   all_goals first | (exfalso; omega) | (exfalso; rename_i hx; simp at hx; omega) | (go_ret; exact ⟨ret_bool (by simp <;> omega), rfl⟩)
set_option maxRecDepth 100000 in
set_option maxHeartbeats 4000000 in
theorem refIsId_any (s : S) (w : World) (hs : s.size ≤ 9223372036854775807) : Calls Tryz.prog 57 #[.string s] w fun e w' => e = .returned (.bool (isIdB s)) ∧ w = w' := by
 rw [show isIdB s = mayB idByte s from rfl]
 go_enter Tryz.func57, Tryz.ntmps57
 go_wp2
 go_loop [3, 4] (fun i _ => ∃ k : Nat, k ≤ s.size ∧ i = .int .i64 k ∧ Hid ((s.data.toList.take k).all idByte = true)) (fun i _ => s.size - (intOf i).toNat)
 case atStart => exact ⟨0, Nat.zero_le _, rfl, rfl⟩
 case round =>
  obtain ⟨k, hk, rfl, HA⟩ := hrel
  by_cases hlt : k < s.size
  · cases hb : idByte s[k]
    · have HB : Hid (mayB idByte s = false) := mayB_bad hlt hb
      have h := idByte_no hb
      clear hb
      have e46 : (((s[k].toNat : Nat) : Int) == 46) = false := by rw [eqI _ 46 46 rfl, decide_eq_false_iff_not]; omega
      have e45 : (((s[k].toNat : Nat) : Int) == 45) = false := by rw [eqI _ 45 45 rfl, decide_eq_false_iff_not]; omega
      have e95 : (((s[k].toNat : Nat) : Int) == 95) = false := by rw [eqI _ 95 95 rfl, decide_eq_false_iff_not]; omega
      skip
      go_wp2
      all_goals first | (exfalso; omega) | (exfalso; rename_i hx; simp at hx; omega) | (go_ret; exact ⟨ret_bool HB.out.symm, rfl⟩)
    · have HB : Hid ((s.data.toList.take (k + 1)).all idByte = true) := all_step hlt HA.out hb
      have h := idByte_iff.1 hb
      clear hb
      have e46 := eqI s[k].toNat 46 46 rfl
      have e45 := eqI s[k].toNat 45 45 rfl
      have e95 := eqI s[k].toNat 95 95 rfl
      have e43 := eqI s[k].toNat 43 43 rfl
      rcases h with h | h | h | h | h | h
      all_goals
       go_wp2
       all_goals first | (exfalso; omega) | (exfalso; rename_i hx; simp at hx; omega) | skip
       go_round
       case rel => exact ⟨k + 1, by omega, by go_num, HB⟩
       case measure => simp [intOf]; omega
  · obtain rfl : k = s.size := by omega
    have HE : Hid (mayB idByte s = (decide (1 ≤ s.size) && decide (s.size ≤ 64))) := mayB_end HA.out
    by_cases h1 : 1 ≤ s.size
    · have HE2 : Hid (mayB idByte s = decide (s.size ≤ 64)) := by show _ = _; rw [HE.out, decide_eq_true h1]; rfl
      clear HE
      by_cases h2 : s.size ≤ 64
      · have HE3 : Hid (mayB idByte s = true) := by show _ = _; rw [HE2.out, decide_eq_true h2]
        clear HE2
        go_wp2
        all_goals first | (exfalso; omega) | (exfalso; rename_i hx; simp at hx; omega) | (go_ret; exact ⟨ret_bool (by rw [HE3.out] <;> (try simp) <;> (try omega)), rfl⟩)
      · have HE3 : Hid (mayB idByte s = false) := by show _ = _; rw [HE2.out, decide_eq_false h2]
        clear HE2
        go_wp2
        all_goals first | (exfalso; omega) | (exfalso; rename_i hx; simp at hx; omega) | (go_ret; exact ⟨ret_bool (by rw [HE3.out] <;> (try simp) <;> (try omega)), rfl⟩)
    · have HE3 : Hid (mayB idByte s = false) := by show _ = _; rw [HE.out, decide_eq_false h1]; rfl
      clear HE
      go_wp2
      all_goals first | (exfalso; omega) | (exfalso; rename_i hx; simp at hx; omega) | (go_ret; exact ⟨ret_bool (by rw [HE3.out] <;> (try simp) <;> (try omega)), rfl⟩)
set_option maxRecDepth 100000 in
set_option maxHeartbeats 4000000 in
theorem isId_any (s : S) (w : World) (hs : s.size ≤ 9223372036854775807) : Calls Tryz.prog 53 #[.string s] w fun e w' => e = .returned (.bool (isIdB s)) ∧ Below w.heap.size w w' := by
 rw [show isIdB s = mayB idByte s from rfl]
 have hcv := fun (w : World) => conv_bytes w s
 go_enter Tryz.func53, Tryz.ntmps53
 go_wp2_with fail
 clear hcv
 refine wp_world ?_
 intro W hW
 have hcells := fun j h => bytesW_cell w s j h
 have hbel := bytesW_below w s w.heap.size (Nat.le_refl _)
 have hsz := bytesW_size w s
 rw [← hW] at hcells hbel hsz
 have HC := Lib.hid hcells
 have HB0 := Lib.hid hbel
 have hlw : w.heap.size < W.heap.size := by omega
 clear hW hcells hbel hsz
 generalize bytesC w s = cap at *
 go_loopw [4, 8] (fun _ i wr => ∃ k : Nat, k ≤ s.size ∧ i = .int .i64 k ∧ Below W.heap.size W wr ∧ Hid ((s.data.toList.take k).all idByte = true)) (fun _ i _ => s.size - (intOf i).toNat)
 case atStart => exact ⟨0, Nat.zero_le _, rfl, Below.refl _ _, rfl⟩
 case round =>
  obtain ⟨k, hk, rfl, hb, HA⟩ := hrel
  have HBR := Lib.hid hb
  have hlr := hb.size
  have hlw2 : w.heap.size < wr.heap.size := by omega
  by_cases hlt : k < s.size
  · have c0 : wr.cell? ⟨w.heap.size, k, none⟩ = some (.int .u8 (s[k].toNat : Nat)) := (hb.cell (by exact hlw)).trans (HC.out k hlt)
    clear hb
    cases hb : idByte s[k]
    · have HB : Hid (mayB idByte s = false) := mayB_bad hlt hb
      have HI := Lib.hid (fun w => hb ▸ isByte_any s[k] w : ∀ w, Calls Tryz.prog 92 #[.int .u8 s[k].toNat] w fun e w' => e = .returned (.bool false) ∧ w = w')
      clear hb
      go_wp2_with fail
      refine (HI.out _).mono ?_
      rintro e w' ⟨rfl, rfl⟩
      go_wp2
      go_ret
      exact ⟨ret_bool HB.out.symm, HB0.out.trans (HBR.out.mono (Nat.le_of_lt hlw))⟩
    · have HB : Hid ((s.data.toList.take (k + 1)).all idByte = true) := all_step hlt HA.out hb
      have HI := Lib.hid (fun w => hb ▸ isByte_any s[k] w : ∀ w, Calls Tryz.prog 92 #[.int .u8 s[k].toNat] w fun e w' => e = .returned (.bool true) ∧ w = w')
      clear hb
      go_wp2_with fail
      refine (HI.out _).mono ?_
      rintro e w' ⟨rfl, rfl⟩
      go_wp2
      go_roundw
      case rel => exact ⟨k + 1, by omega, by go_num, HBR.out, HB⟩
      case measure => simp [intOf]; omega
  · obtain rfl : k = s.size := by omega
    clear hb
    have HE : Hid (mayB idByte s = (decide (1 ≤ s.size) && decide (s.size ≤ 64))) := mayB_end HA.out
    by_cases h1 : 1 ≤ s.size
    · have HE2 : Hid (mayB idByte s = decide (s.size ≤ 64)) := by show _ = _; rw [HE.out, decide_eq_true h1]; rfl
      clear HE
      by_cases h2 : s.size ≤ 64
      · have HE3 : Hid (mayB idByte s = true) := by show _ = _; rw [HE2.out, decide_eq_true h2]
        clear HE2
        go_wp2
        all_goals first | (exfalso; omega) | (exfalso; rename_i hx; simp at hx; omega) | (go_ret; exact ⟨ret_bool (by rw [HE3.out] <;> (try simp) <;> (try omega)), HB0.out.trans (HBR.out.mono (Nat.le_of_lt hlw))⟩)
      · have HE3 : Hid (mayB idByte s = false) := by show _ = _; rw [HE2.out, decide_eq_false h2]
        clear HE2
        go_wp2
        all_goals first | (exfalso; omega) | (exfalso; rename_i hx; simp at hx; omega) | (go_ret; exact ⟨ret_bool (by rw [HE3.out] <;> (try simp) <;> (try omega)), HB0.out.trans (HBR.out.mono (Nat.le_of_lt hlw))⟩)
    · have HE3 : Hid (mayB idByte s = false) := by show _ = _; rw [HE.out, decide_eq_false h1]; rfl
      clear HE
      go_wp2
      all_goals first | (exfalso; omega) | (exfalso; rename_i hx; simp at hx; omega) | (go_ret; exact ⟨ret_bool (by rw [HE3.out] <;> (try simp) <;> (try omega)), HB0.out.trans (HBR.out.mono (Nat.le_of_lt hlw))⟩)
theorem isDigitV_any (c : UInt8) (b : Bool) (hb : (decide (48 ≤ c.toNat) && decide (c.toNat ≤ 57)) = b) (w : World) : Calls Tryz.prog 93 #[.int .u8 c.toNat] w fun e w' => e = .returned (.bool b) ∧ w = w' := by
 subst hb
 by_cases h1 : 48 ≤ c.toNat
 all_goals
  go_enter Tryz.func93, Tryz.ntmps93
  go_wp2
  all_goals first | (exfalso; omega) | (go_ret; exact ⟨ret_bool (by simp [h1] <;> omega), rfl⟩)
theorem index_marks (c : UInt8) : decide (0 ≤ Lib.indexByte [46, 45, 95, 43] c) = (c.toNat == 46 || c.toNat == 45 || c.toNat == 95 || c.toNat == 43) := by
 have h : ∀ n : Fin 256, decide (0 ≤ Lib.indexByte [46, 45, 95, 43] (UInt8.ofNat n)) = ((UInt8.ofNat n).toNat == 46 || (UInt8.ofNat n).toNat == 45 || (UInt8.ofNat n).toNat == 95 || (UInt8.ofNat n).toNat == 43) := by decide +kernel
 have := h ⟨c.toNat, c.toNat_lt⟩
 simpa only [UInt8.ofNat_toNat] using this
theorem marks_any (c : UInt8) (b : Bool) (hb : (c.toNat == 46 || c.toNat == 45 || c.toNat == 95 || c.toNat == 43) = b) (w : World) : Calls Tryz.prog 94 #[.string ⟨#[46, 45, 95, 43]⟩, .string (bs [c])] w fun e w' => e = .returned (.bool b) ∧ w = w' :=
 (Tryz.strings_Contains_one ⟨#[46, 45, 95, 43]⟩ c w).mono fun _ _ ⟨h1, h2⟩ => ⟨by rw [h1, ← hb]; exact congrArg (fun x => Ending.returned (.bool x)) (index_marks c), h2.symm⟩
set_option maxRecDepth 100000 in
set_option maxHeartbeats 4000000 in
theorem ver_any (s : S) (w : World) (hs : s.size ≤ 9223372036854775807) : Calls Tryz.prog 54 #[.string s] w fun e w' => e = .returned (.bool (verMay s)) ∧ Below w.heap.size w w' := by
 rw [show verMay s = mayB verByte s from rfl]
 have hcv := fun (w : World) => conv_bytes w s
 go_enter Tryz.func54, Tryz.ntmps54
 go_wp2_with fail
 clear hcv
 refine wp_world ?_
 intro W hW
 have hcells := fun j h => bytesW_cell w s j h
 have hbel := bytesW_below w s w.heap.size (Nat.le_refl _)
 have hsz := bytesW_size w s
 rw [← hW] at hcells hbel hsz
 have HC := Lib.hid hcells
 have HB0 := Lib.hid hbel
 have hlw : w.heap.size < W.heap.size := by omega
 clear hW hcells hbel hsz
 generalize bytesC w s = cap at *
 go_loopw [4, 5, 9] (fun _ _ i wr => ∃ k : Nat, k ≤ s.size ∧ i = .int .i64 k ∧ Below W.heap.size W wr ∧ Hid ((s.data.toList.take k).all verByte = true)) (fun _ _ i _ => s.size - (intOf i).toNat)
 case atStart => exact ⟨0, Nat.zero_le _, rfl, Below.refl _ _, rfl⟩
 case round =>
  obtain ⟨k, hk, rfl, hb, HA⟩ := hrel
  have HBR := Lib.hid hb
  have hlr := hb.size
  have hlw2 : w.heap.size < wr.heap.size := by omega
  by_cases hlt : k < s.size
  · have c0 : wr.cell? ⟨w.heap.size, k, none⟩ = some (.int .u8 (s[k].toNat : Nat)) := (hb.cell (by exact hlw)).trans (HC.out k hlt)
    clear hb
    have hcs : (convert 173 9 (.slice (some ⟨wr.heap.size, 0, none⟩) 1 1)).run Tryz.prog (wr.alloc (.cells #[.int .u8 (s[k].toNat : Nat)] 5)) = .ok (.string (bs [s[k]])) (wr.alloc (.cells #[.int .u8 (s[k].toNat : Nat)] 5)) :=
     conv_str wr [(s[k].toNat : Int)] [s[k]] (by simp) _ rfl 1 rfl
    cases hb : verByte s[k]
    · have HB : Hid (mayB verByte s = false) := mayB_bad hlt hb
      have h := verByte_no hb
      have HM := Lib.hid (fun w => marks_any s[k] false (by rw [Bool.eq_false_iff]; intro h; simp at h; omega) w)
      have HD := Lib.hid (fun w => isDigitV_any s[k] false (by rw [Bool.eq_false_iff]; intro h; simp at h; omega) w)
      clear hb
      go_wp2_with (first | (go_at_call 93; refine (HD.out _).mono ?_; rintro e w' ⟨rfl, rfl⟩) | (go_at_call 94; refine (HM.out _).mono ?_; rintro e w' ⟨rfl, rfl⟩))
      all_goals first | (exfalso; omega) | (exfalso; rename_i hx; simp at hx; omega) | (go_ret; exact ⟨ret_bool HB.out.symm, HB0.out.trans ((HBR.out.alloc hlr _).mono (Nat.le_of_lt hlw))⟩)
    · have HB : Hid ((s.data.toList.take (k + 1)).all verByte = true) := all_step hlt HA.out hb
      have h := verByte_iff.1 hb
      clear hb
      by_cases hm : (97 ≤ s[k].toNat ∧ s[k].toNat ≤ 122) ∨ (65 ≤ s[k].toNat ∧ s[k].toNat ≤ 90)
      · clear h hcs
        rcases hm with h | h
        all_goals
         go_wp2
         all_goals first | (exfalso; omega) | (exfalso; rename_i hx; simp at hx; omega) | skip
         go_roundw
         case rel => exact ⟨k + 1, by omega, by go_num, HBR.out, HB⟩
         case measure => simp [intOf]; omega
      · by_cases hd : 48 ≤ s[k].toNat ∧ s[k].toNat ≤ 57
        · have HD := Lib.hid (fun w => isDigitV_any s[k] true (by simp; omega) w)
          clear h hcs hm
          go_wp2_with (go_at_call 93; refine (HD.out _).mono ?_; rintro e w' ⟨rfl, rfl⟩)
          all_goals first | (exfalso; omega) | (exfalso; rename_i hx; simp at hx; omega) | skip
          go_roundw
          case rel => exact ⟨k + 1, by omega, by go_num, HBR.out, HB⟩
          case measure => simp [intOf]; omega
        · have HM := Lib.hid (fun w => marks_any s[k] true (by simp; omega) w)
          have HD := Lib.hid (fun w => isDigitV_any s[k] false (by rw [Bool.eq_false_iff]; intro h; simp at h; omega) w)
          go_wp2_with (first | (go_at_call 93; refine (HD.out _).mono ?_; rintro e w' ⟨rfl, rfl⟩) | (go_at_call 94; refine (HM.out _).mono ?_; rintro e w' ⟨rfl, rfl⟩))
          all_goals first | (exfalso; omega) | (exfalso; rename_i hx; simp at hx; omega) | skip
          all_goals
           go_roundw
           case rel => exact ⟨k + 1, by omega, by go_num, HBR.out.alloc hlr _, HB⟩
           case measure => simp [intOf]; omega
  · obtain rfl : k = s.size := by omega
    clear hb
    have HE : Hid (mayB verByte s = (decide (1 ≤ s.size) && decide (s.size ≤ 64))) := mayB_end HA.out
    by_cases h1 : 1 ≤ s.size
    · have HE2 : Hid (mayB verByte s = decide (s.size ≤ 64)) := by show _ = _; rw [HE.out, decide_eq_true h1]; rfl
      clear HE
      by_cases h2 : s.size ≤ 64
      · have HE3 : Hid (mayB verByte s = true) := by show _ = _; rw [HE2.out, decide_eq_true h2]
        clear HE2
        go_wp2
        all_goals first | (exfalso; omega) | (exfalso; rename_i hx; simp at hx; omega) | (go_ret; exact ⟨ret_bool (by rw [HE3.out] <;> (try simp) <;> (try omega)), HB0.out.trans (HBR.out.mono (Nat.le_of_lt hlw))⟩)
      · have HE3 : Hid (mayB verByte s = false) := by show _ = _; rw [HE2.out, decide_eq_false h2]
        clear HE2
        go_wp2
        all_goals first | (exfalso; omega) | (exfalso; rename_i hx; simp at hx; omega) | (go_ret; exact ⟨ret_bool (by rw [HE3.out] <;> (try simp) <;> (try omega)), HB0.out.trans (HBR.out.mono (Nat.le_of_lt hlw))⟩)
    · have HE3 : Hid (mayB verByte s = false) := by show _ = _; rw [HE.out, decide_eq_false h1]; rfl
      clear HE
      go_wp2
      all_goals first | (exfalso; omega) | (exfalso; rename_i hx; simp at hx; omega) | (go_ret; exact ⟨ret_bool (by rw [HE3.out] <;> (try simp) <;> (try omega)), HB0.out.trans (HBR.out.mono (Nat.le_of_lt hlw))⟩)

end Go.Proofs.YtphaeegbmfpcgaaGreatDoor

/- Walks: which Gavs, Keys and pins may be, the program's and the document's; the conditions stand in the theorems. -/

namespace Go.Proofs.YtphaeegbmfpcgaaGreatDoor
open Go Go.RowKit

def gavSm (g : Gav) : Prop := g.group.size ≤ 9223372036854775807 ∧ g.artifact.size ≤ 9223372036854775807 ∧ g.version.size ≤ 9223372036854775807
set_option maxHeartbeats 2000000 in
theorem mayGav_any (g : Gav) (w : World) (h : gavSm g) :
    Calls Tryz.prog 34 #[.agg #[.string g.group, .string g.artifact, .string g.version]] w fun e w' => e = .returned (.bool (gavMay g)) ∧ Below w.heap.size w w' := by
 have HH := Lib.hid h
 clear h
 go_enter Tryz.func34, Tryz.ntmps34
 go_wp2_with fail
 refine Calls.world ?_
 intro W hW
 have x0 : Box W w.heap.size [.string g.group, .string g.artifact, .string g.version] := by rw [hW]; exact Box.new w _ _ _ rfl
 have hB0 : Below w.heap.size w W := by rw [hW]; exact (Below.refl _ _).alloc (Nat.le_refl _) _
 have X := Lib.hid x0
 have HB := Lib.hid hB0
 clear hW x0 hB0
 refine (isId_any g.group _ HH.out.1).mono ?_
 rintro e w0 ⟨rfl, hb⟩
 have X' := Lib.hid (X.out.below hb X.out.lt)
 have HB' := Lib.hid (HB.out.trans (hb.mono HB.out.size))
 clear hb X HB
 have X := X'
 have HB := HB'
 clear X' HB'
 cases hq : isIdB g.group
 · have HQ0 := Lib.hid hq
   clear hq
   obtain ⟨c0, c1, c2⟩ := bxc3 X.out
   have l0 := X.out.lt
   go_wp2
   go_ret
   exact ⟨ret_bool (by have z := True.intro; unfold gavMay; rw [HQ0.out] <;> (first | done | (simp; done) | (simp; omega) | omega)), HB.out⟩
 have HQ0 := Lib.hid hq
 clear hq
 obtain ⟨c0, c1, c2⟩ := bxc3 X.out
 have l0 := X.out.lt
 go_wp2_with fail
 refine (isId_any g.artifact _ HH.out.2.1).mono ?_
 rintro e w1 ⟨rfl, hb⟩
 have X' := Lib.hid (X.out.below hb X.out.lt)
 have HB' := Lib.hid (HB.out.trans (hb.mono HB.out.size))
 clear hb X HB
 clear c0 c1 c2 l0
 have X := X'
 have HB := HB'
 clear X' HB'
 cases hq : isIdB g.artifact
 · have HQ1 := Lib.hid hq
   clear hq
   obtain ⟨c0, c1, c2⟩ := bxc3 X.out
   have l0 := X.out.lt
   go_wp2
   go_ret
   exact ⟨ret_bool (by have z := True.intro; unfold gavMay; rw [HQ0.out, HQ1.out] <;> (first | done | (simp; done) | (simp; omega) | omega)), HB.out⟩
 have HQ1 := Lib.hid hq
 clear hq
 obtain ⟨c0, c1, c2⟩ := bxc3 X.out
 have l0 := X.out.lt
 go_wp2_with fail
 refine (ver_any g.version _ HH.out.2.2).mono ?_
 rintro e w2 ⟨rfl, hb⟩
 have X' := Lib.hid (X.out.below hb X.out.lt)
 have HB' := Lib.hid (HB.out.trans (hb.mono HB.out.size))
 clear hb X HB
 clear c0 c1 c2 l0
 have X := X'
 have HB := HB'
 clear X' HB'
 cases hq : verMay g.version
 · have HQ2 := Lib.hid hq
   clear hq
   obtain ⟨c0, c1, c2⟩ := bxc3 X.out
   have l0 := X.out.lt
   go_wp2
   go_ret
   exact ⟨ret_bool (by have z := True.intro; unfold gavMay; rw [HQ0.out, HQ1.out, HQ2.out] <;> (first | done | (simp; done) | (simp; omega) | omega)), HB.out⟩
 have HQ2 := Lib.hid hq
 clear hq
 obtain ⟨c0, c1, c2⟩ := bxc3 X.out
 have l0 := X.out.lt
 go_wp2
 go_ret
 exact ⟨ret_bool (by have z := True.intro; unfold gavMay; rw [HQ0.out, HQ1.out, HQ2.out] <;> (first | done | (simp; done) | (simp; omega) | omega)), HB.out⟩

end Go.Proofs.YtphaeegbmfpcgaaGreatDoor

/- A region that draws its order, by an invariant on what has come up; no program in sight. -/
namespace Go.Proofs.YtphaeegbmfpcgaaGreatDoor
open Go Go.RowKit

theorem wpAny_inv {P : Program} {md : Region.Mode} {ops : Array Oper} {Q : Exit → Act → World → Prop} {I : Nat → Array Bool → Act → World → Prop}
    (h0 : ∀ listed a w, I 0 listed a w → Region.ready md ops listed = [] ∧ Q .normal a w)
    (hr : ∀ n listed a w, I (n + 1) listed a w → Region.ready md ops listed ≠ [])
    (hs : ∀ n listed a w, I (n + 1) listed a w → ∀ i ∈ Region.ready md ops listed, wpOp P ops Q i (fun a' w' => I n (listed.setIfInBounds i true) a' w') a w) :
    ∀ n listed a w, I n listed a w → wpAny P md ops Q n listed a w
 | 0, listed, a, w, h => h0 listed a w h
 | n + 1, listed, a, w, h => ⟨fun e => absurd e (hr n listed a w h), fun i hi => wpOp_mono (fun a' w' h' => wpAny_inv h0 hr hs n _ a' w' h') (hs n listed a w h i hi)⟩
theorem wp_region_inv {P : Program} {ops : Array Oper} {Q : Exit → Act → World → Prop} {id : Nat} {a : Act} {w : World} (I : Nat → Array Bool → Act → World → Prop) (hm : P.follows .mixedOrders = true) (k : Nat) (hk : ops.size = k)
    (hi : I k (Array.replicate k false) a w.drew)
    (h0 : ∀ listed a w, I 0 listed a w → Region.ready .any ops listed = [] ∧ Q .normal a w)
    (hr : ∀ n listed a w, I (n + 1) listed a w → Region.ready .any ops listed ≠ [])
    (hs : ∀ n listed a w, I (n + 1) listed a w → ∀ i ∈ Region.ready .any ops listed, wpOp P ops Q i (fun a' w' => I n (listed.setIfInBounds i true) a' w') a w) :
    (Code.region id ops true).wp P Q a w :=
 wp_region_any hm (by subst hk; exact wpAny_inv h0 hr hs _ _ _ _ hi)

end Go.Proofs.YtphaeegbmfpcgaaGreatDoor

/- Walks: the words of scopes, the program's and the document's; the scope of a word; the texts of keys; the conditions stand in the theorems. -/
namespace Go.Proofs.YtphaeegbmfpcgaaGreatDoor
open Go Go.RowKit

def wordB (n : Int) : Bs :=
 if n = 1 then [99, 111, 109, 112, 105, 108, 101] else if n = 2 then [114, 117, 110, 116, 105, 109, 101] else if n = 3 then [112, 114, 111, 118, 105, 100, 101, 100] else if n = 4 then [115, 121, 115, 116, 101, 109]
 else if n = 5 then [116, 101, 115, 116] else if n = 6 then [105, 109, 112, 111, 114, 116] else []
theorem word_any (n : Int) (w : World) : Calls Tryz.prog 200 #[.int .i64 n] w fun e w' => e = .returned (.string (bs (wordB n))) ∧ w = w' := by
 go_enter Tryz.func200, Tryz.ntmps200
 by_cases h1 : n = 1
 · subst h1
   go_wp2
   go_ret
   exact ⟨rfl, rfl⟩
 by_cases h2 : n = 2
 · subst h2
   go_wp2
   go_ret
   exact ⟨rfl, rfl⟩
 by_cases h3 : n = 3
 · subst h3
   go_wp2
   go_ret
   exact ⟨rfl, rfl⟩
 by_cases h4 : n = 4
 · subst h4
   go_wp2
   go_ret
   exact ⟨rfl, rfl⟩
 by_cases h5 : n = 5
 · subst h5
   go_wp2
   go_ret
   exact ⟨rfl, rfl⟩
 by_cases h6 : n = 6
 · subst h6
   go_wp2
   go_ret
   exact ⟨rfl, rfl⟩
 have HW : Hid (wordB n = []) := by show _ = _; unfold wordB; rw [if_neg h1, if_neg h2, if_neg h3, if_neg h4, if_neg h5, if_neg h6]
 go_wp2
 go_ret
 exact ⟨by rw [HW.out]; rfl, rfl⟩
/-- The scope of a word, 6 the import's; 0: it is none. -/
def scopeW (d : Bs) : Int := if scopeN d ≠ 0 then scopeN d else if d = [105, 109, 112, 111, 114, 116] then 6 else 0
theorem bs_eqb (a b : Bs) : ((bs a).toList == (bs b).toList) = decide (a = b) := bs_beq a b
set_option maxRecDepth 100000 in
set_option maxHeartbeats 4000000 in
theorem scope_any (d : Bs) (w : World) : Calls Tryz.prog 170 #[.string (bs d)] w fun e w' => e = .returned (.tuple #[.int .i64 (scopeW d), .bool (decide (scopeW d ≠ 0))]) ∧ w = w' := by
 go_enter Tryz.func170, Tryz.ntmps170
 go_wp2_with fail
 go_loop [5] (fun iv => ∃ i : Nat, i ≤ 7 ∧ iv = .int .i64 i ∧ ∀ j : Nat, 1 ≤ j → j < i → wordB j ≠ d) (fun iv => 7 - (intOf iv).toNat)
 case atStart => exact ⟨0, by omega, rfl, fun j h1 h2 => by omega⟩
 case round =>
  obtain ⟨i, hi, rfl, hno⟩ := hrel
  have HNO := Lib.hid hno
  clear hno
  rcases (by omega : i = 0 ∨ i = 1 ∨ i = 2 ∨ i = 3 ∨ i = 4 ∨ i = 5 ∨ i = 6 ∨ i = 7) with rfl | rfl | rfl | rfl | rfl | rfl | rfl | rfl
  · go_wp2
    go_round
    case rel => exact ⟨1, by omega, rfl, fun j h1 h2 => by omega⟩
    case measure => simp [intOf]
  · have HC := Lib.hid (word_any 1 w)
    go_wp2_with fail
    refine HC.out.mono ?_
    rintro e w' ⟨rfl, rfl⟩
    by_cases hd : wordB 1 = d
    · have HS : Hid (scopeW d = 1) := by show _ = _; rw [← hd]; rfl
      have he := bs_eqb (wordB 1) d
      rw [decide_eq_true hd] at he
      clear hd
      go_wp2
      go_ret2
      exact ⟨by rw [HS.out]; rfl, rfl⟩
    · have HD := Lib.hid hd
      have he := bs_eqb (wordB 1) d
      rw [decide_eq_false hd] at he
      clear hd
      go_wp2
      go_round
      case rel => exact ⟨2, by omega, rfl, fun j h1 h2 => by
       by_cases hj : j = 1
       · subst hj; exact HD.out
       · exact HNO.out j h1 (by omega)⟩
      case measure => simp [intOf]
  · have HC := Lib.hid (word_any 2 w)
    go_wp2_with fail
    refine HC.out.mono ?_
    rintro e w' ⟨rfl, rfl⟩
    by_cases hd : wordB 2 = d
    · have HS : Hid (scopeW d = 2) := by show _ = _; rw [← hd]; rfl
      have he := bs_eqb (wordB 2) d
      rw [decide_eq_true hd] at he
      clear hd
      go_wp2
      go_ret2
      exact ⟨by rw [HS.out]; rfl, rfl⟩
    · have HD := Lib.hid hd
      have he := bs_eqb (wordB 2) d
      rw [decide_eq_false hd] at he
      clear hd
      go_wp2
      go_round
      case rel => exact ⟨3, by omega, rfl, fun j h1 h2 => by
       by_cases hj : j = 2
       · subst hj; exact HD.out
       · exact HNO.out j h1 (by omega)⟩
      case measure => simp [intOf]
  · have HC := Lib.hid (word_any 3 w)
    go_wp2_with fail
    refine HC.out.mono ?_
    rintro e w' ⟨rfl, rfl⟩
    by_cases hd : wordB 3 = d
    · have HS : Hid (scopeW d = 3) := by show _ = _; rw [← hd]; rfl
      have he := bs_eqb (wordB 3) d
      rw [decide_eq_true hd] at he
      clear hd
      go_wp2
      go_ret2
      exact ⟨by rw [HS.out]; rfl, rfl⟩
    · have HD := Lib.hid hd
      have he := bs_eqb (wordB 3) d
      rw [decide_eq_false hd] at he
      clear hd
      go_wp2
      go_round
      case rel => exact ⟨4, by omega, rfl, fun j h1 h2 => by
       by_cases hj : j = 3
       · subst hj; exact HD.out
       · exact HNO.out j h1 (by omega)⟩
      case measure => simp [intOf]
  · have HC := Lib.hid (word_any 4 w)
    go_wp2_with fail
    refine HC.out.mono ?_
    rintro e w' ⟨rfl, rfl⟩
    by_cases hd : wordB 4 = d
    · have HS : Hid (scopeW d = 4) := by show _ = _; rw [← hd]; rfl
      have he := bs_eqb (wordB 4) d
      rw [decide_eq_true hd] at he
      clear hd
      go_wp2
      go_ret2
      exact ⟨by rw [HS.out]; rfl, rfl⟩
    · have HD := Lib.hid hd
      have he := bs_eqb (wordB 4) d
      rw [decide_eq_false hd] at he
      clear hd
      go_wp2
      go_round
      case rel => exact ⟨5, by omega, rfl, fun j h1 h2 => by
       by_cases hj : j = 4
       · subst hj; exact HD.out
       · exact HNO.out j h1 (by omega)⟩
      case measure => simp [intOf]
  · have HC := Lib.hid (word_any 5 w)
    go_wp2_with fail
    refine HC.out.mono ?_
    rintro e w' ⟨rfl, rfl⟩
    by_cases hd : wordB 5 = d
    · have HS : Hid (scopeW d = 5) := by show _ = _; rw [← hd]; rfl
      have he := bs_eqb (wordB 5) d
      rw [decide_eq_true hd] at he
      clear hd
      go_wp2
      go_ret2
      exact ⟨by rw [HS.out]; rfl, rfl⟩
    · have HD := Lib.hid hd
      have he := bs_eqb (wordB 5) d
      rw [decide_eq_false hd] at he
      clear hd
      go_wp2
      go_round
      case rel => exact ⟨6, by omega, rfl, fun j h1 h2 => by
       by_cases hj : j = 5
       · subst hj; exact HD.out
       · exact HNO.out j h1 (by omega)⟩
      case measure => simp [intOf]
  · have HC := Lib.hid (word_any 6 w)
    go_wp2_with fail
    refine HC.out.mono ?_
    rintro e w' ⟨rfl, rfl⟩
    by_cases hd : wordB 6 = d
    · have HS : Hid (scopeW d = 6) := by show _ = _; rw [← hd]; rfl
      have he := bs_eqb (wordB 6) d
      rw [decide_eq_true hd] at he
      clear hd
      go_wp2
      go_ret2
      exact ⟨by rw [HS.out]; rfl, rfl⟩
    · have HD := Lib.hid hd
      have he := bs_eqb (wordB 6) d
      rw [decide_eq_false hd] at he
      clear hd
      go_wp2
      go_round
      case rel => exact ⟨7, by omega, rfl, fun j h1 h2 => by
       by_cases hj : j = 6
       · subst hj; exact HD.out
       · exact HNO.out j h1 (by omega)⟩
      case measure => simp [intOf]
  · have HS : Hid (scopeW d = 0) := by
     show _ = _
     have h1 := HNO.out 1 (by omega) (by omega)
     have h2 := HNO.out 2 (by omega) (by omega)
     have h3 := HNO.out 3 (by omega) (by omega)
     have h4 := HNO.out 4 (by omega) (by omega)
     have h5 := HNO.out 5 (by omega) (by omega)
     have h6 := HNO.out 6 (by omega) (by omega)
     have hn : scopeN d = 0 := by
      unfold scopeN
      rw [if_neg (fun e => h1 e.symm), if_neg (fun e => h2 e.symm), if_neg (fun e => h3 e.symm), if_neg (fun e => h4 e.symm), if_neg (fun e => h5 e.symm)]
     unfold scopeW
     rw [hn, if_neg (by simp), if_neg (fun e => h6 e.symm)]
    go_wp2
    go_ret2
    exact ⟨by rw [HS.out]; rfl, rfl⟩

end Go.Proofs.YtphaeegbmfpcgaaGreatDoor

/- What a project's tree says whatever is wrong, and its first error and where, as plain functions on trees; no program in sight. -/

namespace Go.Proofs.YtphaeegbmfpcgaaGreatDoor
open Go Go.RowKit

abbrev Er := Int × Bs
def numP (n : Nat) : Bs := if n < 10 then [UInt8.ofNat (48 + n)] else numP (n / 10) ++ [UInt8.ofNat (48 + n % 10)]
/-- A path's next step; a place in a list; the second one. -/
def sl (w m : Bs) : Bs := w ++ 47 :: m
def atI (w : Bs) (i : Nat) : Bs := w ++ 91 :: (numP i ++ [93])
def two (w : Bs) : Bs := w ++ [91, 50, 93]
def textBad (t : Tr) (e : Bool) : Bool := !(kidsF [] t.kids).isEmpty || decide (1024 < (trimB (textF t.kids)).length) || ((trimB (textF t.kids)).isEmpty && !e)
def freeB : Bs → Bool := fun _ => true
def bGroup : Bs := [103, 114, 111, 117, 112, 73, 100]
def bArtifact : Bs := [97, 114, 116, 105, 102, 97, 99, 116, 73, 100]
def bVersion : Bs := [118, 101, 114, 115, 105, 111, 110]
def bType : Bs := [116, 121, 112, 101]
def bClassifier : Bs := [99, 108, 97, 115, 115, 105, 102, 105, 101, 114]
def bScope : Bs := [115, 99, 111, 112, 101]
def bOptional : Bs := [111, 112, 116, 105, 111, 110, 97, 108]
def bExclusions : Bs := [101, 120, 99, 108, 117, 115, 105, 111, 110, 115]
def bExclusion : Bs := [101, 120, 99, 108, 117, 115, 105, 111, 110]
def bDependencies : Bs := [100, 101, 112, 101, 110, 100, 101, 110, 99, 105, 101, 115]
def bDependency : Bs := [100, 101, 112, 101, 110, 100, 101, 110, 99, 121]
def bProperties : Bs := [112, 114, 111, 112, 101, 114, 116, 105, 101, 115]
def bManagement : Bs := [100, 101, 112, 101, 110, 100, 101, 110, 99, 121, 77, 97, 110, 97, 103, 101, 109, 101, 110, 116]
def bParent : Bs := [112, 97, 114, 101, 110, 116]
def bPackaging : Bs := [112, 97, 99, 107, 97, 103, 105, 110, 103]
def bProject : Bs := [112, 114, 111, 106, 101, 99, 116]
def bTrue : Bs := [116, 114, 117, 101]
def bFalse : Bs := [102, 97, 108, 115, 101]
def isTruthB (s : Bs) : Bool := decide (s = bTrue) || decide (s = bFalse)
/-! What the fields' texts must be. -/
def isIdQ (s : Bs) : Bool := isIdB (bs s)
def verQ (s : Bs) : Bool := verMay (bs s)
def isPartQ (s : Bs) : Bool := decide (s = [42]) || isIdQ s
def isScopeQ (managed : Bool) (s : Bs) : Bool := decide (scopeW s ≠ 0) && (managed || decide (scopeW s ≠ 6))
def optQ (s : Bs) : Int := if s = bTrue then 1 else if s = bFalse then 2 else 0
/-! Of each part: what it says, and its first error. -/
def manyE (t : Tr) (w m : Bs) : Option Er := if 1 < (kidsF m t.kids).length then some (20, two (sl w m)) else none
def textV (t : Tr) : Bs := trimB (textF t.kids)
def textE (t : Tr) (w : Bs) (e : Bool) : Option Er := if textBad t e then some (20, w) else none
def oneV (t : Tr) (m : Bs) : Option Tr := (kidsF m t.kids).head?
def wordV (t : Tr) (m : Bs) : Bs := match oneV t m with
 | none => []
 | some k => textV k
def wordE (t : Tr) (w m : Bs) (must : Bool) (r : Bs → Bool) : Option Er := (manyE t w m).or (match oneV t m with
 | none => if must then some (20, sl w m) else none
 | some k => (textE k (sl w m) false).or (if r (textV k) then none else some (20, sl w m)))
def eachE (f : Tr → Bs → Option Er) (w : Bs) : List Tr → Nat → Option Er
 | [], _ => none
 | t :: r, i => (f t (atI w (i + 1))).or (eachE f w r (i + 1))
def listE (f : Tr → Bs → Option Er) (t : Tr) (w m : Bs) : Option Er := (if 1024 < (kidsF m t.kids).length then some (2, w) else none).or (eachE f (sl w m) (kidsF m t.kids) 0)
def exclV (t : Tr) : Id := ⟨bs (wordV t bGroup), bs (wordV t bArtifact)⟩
def exclE (t : Tr) (w : Bs) : Option Er := (wordE t w bGroup true isPartQ).or (wordE t w bArtifact true isPartQ)
def exclsV (t : Tr) : List Id := match oneV t bExclusions with
 | none => []
 | some f => (kidsF bExclusion f.kids).map exclV
def exclsE (t : Tr) (w : Bs) : Option Er := (manyE t w bExclusions).or (match oneV t bExclusions with
 | none => none
 | some f => listE exclE f (sl w bExclusions) bExclusion)
def depV (t : Tr) : Dep := ⟨bs (wordV t bGroup), bs (wordV t bArtifact), bs (wordV t bVersion), bs (wordV t bType), bs (wordV t bClassifier), scopeW (wordV t bScope), optQ (wordV t bOptional), exclsV t⟩
def depE (managed : Bool) (t : Tr) (w : Bs) : Option Er := (wordE t w bGroup true freeB).or ((wordE t w bArtifact true freeB).or ((wordE t w bVersion false freeB).or ((wordE t w bType false freeB).or ((wordE t w bClassifier false freeB).or
 ((wordE t w bScope false (isScopeQ managed)).or ((wordE t w bOptional false isTruthB).or (exclsE t w)))))))
def depsV (t : Tr) : List Dep := match oneV t bDependencies with
 | none => []
 | some f => (kidsF bDependency f.kids).map depV
def depsE (managed : Bool) (t : Tr) (w : Bs) : Option Er := (manyE t w bDependencies).or (match oneV t bDependencies with
 | none => none
 | some f => listE (depE managed) f (sl w bDependencies) bDependency)
def prpV (t : Tr) : Prp := ⟨bs t.name, bs (textV t)⟩
def propsEgo (w : Bs) : List Tr → List Tr → Option Er
 | [], _ => none
 | t :: r, d => (if d.any (fun x => decide (x.name = t.name)) then some (20, two (sl w t.name)) else none).or ((textE t (sl w t.name) true).or (propsEgo w r (d ++ [t])))
def propsV (t : Tr) : List Prp := match oneV t bProperties with
 | none => []
 | some f => (kidsF [] f.kids).map prpV
def propsE (t : Tr) (w : Bs) : Option Er := (manyE t w bProperties).or (match oneV t bProperties with
 | none => none
 | some f => (if 1024 < (kidsF [] f.kids).length then some (2, sl w bProperties) else none).or (propsEgo (sl w bProperties) (kidsF [] f.kids) []))
def parentV (t : Tr) : Bool × Gav := match oneV t bParent with
 | none => (false, ⟨⟨#[]⟩, ⟨#[]⟩, ⟨#[]⟩⟩)
 | some f => (true, ⟨bs (wordV f bGroup), bs (wordV f bArtifact), bs (wordV f bVersion)⟩)
def parentE (t : Tr) (w : Bs) : Option Er := (manyE t w bParent).or (match oneV t bParent with
 | none => none
 | some f => (wordE f (sl w bParent) bGroup true isIdQ).or ((wordE f (sl w bParent) bArtifact true isIdQ).or (wordE f (sl w bParent) bVersion true verQ)))
def managedV (t : Tr) : List Dep := match oneV t bManagement with
 | none => []
 | some f => depsV f
def managedE (t : Tr) (w : Bs) : Option Er := (manyE t w bManagement).or (match oneV t bManagement with
 | none => none
 | some f => depsE true f (sl w bManagement))
def readV (t : Tr) : Pom := ⟨(parentV t).1, (parentV t).2, bs (wordV t bGroup), bs (wordV t bArtifact), bs (wordV t bVersion), bs (wordV t bPackaging), propsV t, managedV t, depsV t⟩
def readE (t : Tr) : Option Er := (if t.name = bProject then none else some (20, t.name)).or ((parentE t bProject).or ((wordE t bProject bGroup false freeB).or ((wordE t bProject bArtifact true freeB).or ((wordE t bProject bVersion false freeB).or
 ((wordE t bProject bPackaging false freeB).or ((propsE t bProject).or ((managedE t bProject).or (depsE false t bProject))))))))

end Go.Proofs.YtphaeegbmfpcgaaGreatDoor

/- Walks of pom's reader: fail, field, text; the conditions stand in the theorems. -/

namespace Go.Proofs.YtphaeegbmfpcgaaGreatDoor
open Go Go.RowKit

/-- What goes wrong, as a panic. -/
def faultQ (x : Er) : Value := .iface 161 (.agg #[.int .i64 x.1, .string (bs x.2)])
def panE (x : Er) : Ending := .panicked [{ v := faultQ x, recovered := false }]
/-- The post of a function of the reader: what it gives back where nothing is wrong, or the first error as a panic. -/
def Ret (o : Option Er) (P : Ending → World → Prop) (w : World) (e : Ending) (w' : World) : Prop :=
 Below w.heap.size w w' ∧ (∀ x, o = some x → e = panE x) ∧ (o = none → P e w')
theorem Ret.bad {o : Option Er} {P : Ending → World → Prop} {w w' : World} {e : Ending} {x : Er} (h : o = some x) (hb : Below w.heap.size w w') (he : e = panE x) : Ret o P w e w' :=
 ⟨hb, fun y hy => by rw [h] at hy; cases hy; exact he, fun ha => by rw [h] at ha; cases ha⟩
theorem Ret.good {o : Option Er} {P : Ending → World → Prop} {w w' : World} {e : Ending} (h : o = none) (hb : Below w.heap.size w w') (he : P e w') : Ret o P w e w' :=
 ⟨hb, fun y hy => (by rw [h] at hy; cases hy), fun _ => he⟩
def elemV (t : Tr) (av kv : Value) (wh : Bs) : Value := .agg #[.string (bs t.name), av, kv, .string (bs t.text), .string (bs wh)]
def FieldX (X : Nat → Prop) (wh m : Bs) : Option Tr → Ending → World → Prop
 | none, e, _ => e = .returned (.tuple #[.agg #[.string ⟨#[]⟩, .slice none 0 0, .slice none 0 0, .string ⟨#[]⟩, .string (bs (sl wh m))], .bool false])
 | some k, e, w' => ∃ av kv, e = .returned (.tuple #[elemV k av kv (sl wh m), .bool true]) ∧ NodeX X w' k av kv
def FieldP (wh m : Bs) (o : Option Tr) (e : Ending) (w' : World) : Prop := FieldX (fun _ => False) wh m o e w'
theorem collQ {X : Nat → Prop} {B : Nat} {w wr w' : World} {v : Value} {L : List TrV} (h : CollX X B w wr v L) (hb : Below wr.heap.size wr w') : SliceOf 4 trC w' v L ∧ ∀ y ∈ L, NodeX (fun j => X j ∨ B ≤ j) w' y.1 y.2.1 y.2.2 :=
 ⟨(h.own.below hb).slice trC_len, fun y hy => (h.nodes y hy).later hb⟩
/-- An element of a list of nodes. -/
theorem nodesQ {X : Nat → Prop} {w : World} {a : Option Addr} {n c : Nat} {L : List TrV} (h : SliceOf 4 trC w (.slice a n c) L) (hn : ∀ y ∈ L, NodeX X w y.1 y.2.1 y.2.2) (k : Nat) (hk : k < L.length) : ∃ g o a1 a2 a3 a4, a = some ⟨g, o, none⟩ ∧ g < w.heap.size ∧ w.cell? ⟨g, o + k * 4, none⟩ = some (.string (bs L[k].1.name)) ∧ w.cell? ⟨g, o + k * 4 + 1, none⟩ = some (.slice a1 L[k].1.attrs.length a2) ∧ w.cell? ⟨g, o + k * 4 + 2, none⟩ = some (.slice a3 L[k].1.kids.length a4) ∧ w.cell? ⟨g, o + k * 4 + 3, none⟩ = some (.string (bs L[k].1.text)) ∧ NodeX X w L[k].1 (.slice a1 L[k].1.attrs.length a2) (.slice a3 L[k].1.kids.length a4) := by
 obtain ⟨ao, cap, e, -, -, -, h5⟩ := h
 simp only [Value.slice.injEq] at e
 obtain ⟨rfl, -, -⟩ := e
 obtain ⟨g, o, e1, e2, e3⟩ := h5 k L[k] (List.getElem?_eq_getElem hk)
 have hy := hn L[k] (List.getElem_mem hk)
 obtain ⟨x1, x2, x3, x4, f1, f2, -, -⟩ := hy.shape
 rw [f1, f2] at hy
 exact ⟨g, o, x1, x2, x3, x4, e1, e2, by simpa using e3 0 _ rfl, by rw [← f1]; exact e3 1 _ rfl, by rw [← f2]; exact e3 2 _ rfl, e3 3 _ rfl, hy⟩
theorem NodeX.freshX {X : Nat → Prop} {w : World} {t : Tr} {av kv : Value} (h : NodeX X w t av kv) : NodeX (fun j => X j ∨ w.heap.size ≤ j) w t av kv := h.keep (KeptX.refl _ _) (fun k h1 h2 => h2.elim id (fun h => absurd h1 (by omega)))
theorem NodeX.fresh {X : Nat → Prop} {w : World} {t : Tr} {av kv : Value} (h : NodeX X w t av kv) : NodeX (fun j => w.heap.size ≤ j) w t av kv := h.keep (KeptX.refl _ _) (fun k h1 h2 => by omega)
theorem failQ_any (e : Int) (s : S) (w : World) :
    Calls Tryz.prog 84 #[.int .i64 e, .string s] w fun x w' => x = .panicked [{ v := .iface 161 (.agg #[.int .i64 e, .string s]), recovered := false }] ∧ w = w' := by
 go_enter Tryz.func84, Tryz.ntmps84
 go_wp2
 exact ⟨rfl, rfl, rfl⟩
theorem two_bs (w m : Bs) (X M : S) (h : X ++ ⟨#[47]⟩ ++ M = bs (sl w m)) : X ++ ⟨#[47]⟩ ++ M ++ ⟨#[91, 50, 93]⟩ = bs (two (sl w m)) := by
 rw [h]; show bs (sl w m) ++ bs [91, 50, 93] = _; rw [bs_append]; rfl
set_option maxRecDepth 100000 in
set_option maxHeartbeats 8000000 in
theorem field_x (Z : Nat → Prop) (t : Tr) (wh m : Bs) (w : World) (av kv : Value) (ht : NodeX Z w t av kv) (hkl : t.kids.length ≤ 100000) (hl : wh.length + m.length ≤ 1000000000000) :
    Calls Tryz.prog 85 #[elemV t av kv wh, .string (bs m)] w (Ret (manyE t wh m) (FieldX Z wh m (oneV t m)) w) := by
 obtain ⟨ao, ac, ko, kc, rfl, rfl, hal, -⟩ := ht.shape
 have HF1 : Hid (∀ x y l, kidsF m t.kids = x :: y :: l → manyE t wh m = some (20, two (sl wh m))) := fun x y l h => by unfold manyE; rw [h]; simp
 have HF2 : Hid (∀ x, kidsF m t.kids = [x] → manyE t wh m = none ∧ oneV t m = some x) := fun x h => by unfold manyE oneV; rw [h]; simp
 have HF3 : Hid (kidsF m t.kids = [] → manyE t wh m = none ∧ oneV t m = none) := fun h => by unfold manyE oneV; rw [h]; simp
 obtain ⟨r, hr⟩ : ∃ r, r = manyE t wh m := ⟨_, rfl⟩
 obtain ⟨o, ho⟩ : ∃ o, o = oneV t m := ⟨_, rfl⟩
 rw [← hr, ← ho]
 rw [← hr] at HF1
 rw [← hr, ← ho] at HF2 HF3
 clear hr ho
 obtain ⟨X, hX⟩ : ∃ X : S, X = bs wh := ⟨_, rfl⟩
 obtain ⟨M, hM⟩ : ∃ M : S, M = bs m := ⟨_, rfl⟩
 have HC : Hid (∀ W, Below w.heap.size w W → Calls Tryz.prog 129 #[.agg #[.string (bs t.name), .slice ao t.attrs.length ac, .slice ko t.kids.length kc, .string (bs t.text)], .string M] W fun e w' => ∃ v L, e = .returned v ∧ L.map (·.1) = kidsF m t.kids ∧ CollX (fun j => Z j ∨ w.heap.size ≤ j) W.heap.size W w' v L) := fun W h => by rw [hM]; exact kids_x t m W _ _ (ht.freshX.later h) hkl
 have HW : Hid (X ++ ⟨#[47]⟩ ++ M = bs (sl wh m)) := by show _ = _; rw [hX, hM]; show bs wh ++ bs [47] ++ bs m = _; rw [bs_append, bs_append, List.append_assoc]; rfl
 have hzX : X.size = wh.length := by rw [hX, bs_size]
 have hzM : M.size = m.length := by rw [hM, bs_size]
 have hs1 : ¬ 9223372036854775807 < X.size + 1 := by omega
 have hs2 : ¬ 9223372036854775807 < X.size + 1 + M.size := by omega
 have hs3 : ¬ 9223372036854775807 < X.size + 1 + M.size + 3 := by omega
 unfold elemV
 rw [← hX, ← hM]
 clear ht hX hM hzX hzM
 go_enter Tryz.func85, Tryz.ntmps85
 go_upto_region 1 with fail
 refine wp_world ?_
 intro W hW
 have x1 : Box W w.heap.size [.string (bs t.name), .slice ao t.attrs.length ac, .slice ko t.kids.length kc, .string (bs t.text), .string X] := by rw [hW]; exact (Box.new w [.string (bs t.name), .slice ao t.attrs.length ac, .slice ko t.kids.length kc, .string (bs t.text), .string X] _ _ rfl).alloc _
 have x2 : Box W (w.heap.size + 1) [.string ⟨#[]⟩, .slice none 0 0, .slice none 0 0, .string ⟨#[]⟩, .string ⟨#[]⟩] := by rw [hW]; exact Box.new (w.alloc _) [.string ⟨#[]⟩, .slice none 0 0, .slice none 0 0, .string ⟨#[]⟩, .string ⟨#[]⟩] _ _ (by simp)
 have hb : Below w.heap.size w W := by rw [hW]; exact ((Below.refl _ w).alloc (Nat.le_refl _) _).alloc (by simp) _
 clear hW
 have HX1 := Lib.hid x1
 have HX2 := Lib.hid x2
 have HB := Lib.hid hb
 clear x1 x2 hb
 obtain ⟨a0, a1, a2, a3, a4⟩ := bxc5 HX1.out
 have al := HX1.out.lt
 go_wp2_with fail
 refine (HC.out _ HB.out).mono ?_
 rintro e w1 ⟨v, L, rfl, hL, hco⟩
 obtain ⟨la, lc, rfl⟩ := hco.own.shape
 have hb1 := hco.below
 have HB1 := Lib.hid (HB.out.trans (hb1.mono HB.out.size))
 have HY1 := Lib.hid (HX1.out.below hb1 HX1.out.lt)
 have HY2 := Lib.hid (HX2.out.below hb1 HX2.out.lt)
 have HCO := Lib.hid (collQ hco (Below.refl _ _))
 clear a0 a1 a2 a3 a4 al hb1 hco
 obtain ⟨a0, a1, a2, a3, a4⟩ := bxc5 HY1.out
 have al := HY1.out.lt
 obtain ⟨r0, r1, r2, r3, r4⟩ := bxc5 HY2.out
 have rf0 := HY2.out.free 0
 have rf1 := HY2.out.free 1
 have rf2 := HY2.out.free 2
 have rf3 := HY2.out.free 3
 have rf4 := HY2.out.free 4
 have rl := HY2.out.lt
 have hbs : Below w.heap.size w w1 := HB1.out
 have HSB : Hid (∀ v0 v1 v2 v3 v4, Below w.heap.size w (((((w1.setCell ⟨w.heap.size + 1, 0, none⟩ v0).setCell ⟨w.heap.size + 1, 1, none⟩ v1).setCell ⟨w.heap.size + 1, 2, none⟩ v2).setCell ⟨w.heap.size + 1, 3, none⟩ v3).setCell ⟨w.heap.size + 1, 4, none⟩ v4)) :=
  fun v0 v1 v2 v3 v4 => ((((hbs.setCell (by simp) _).setCell (by simp) _).setCell (by simp) _).setCell (by simp) _).setCell (by simp) _
 clear hbs
 match L, hL, HCO with
 | [], hL, HCO =>
  have HF := Lib.hid (HF3.out hL.symm)
  clear hL HCO HF1 HF2 HF3 HC
  have HW2 : Hid ((bs (sl wh m) : S) = X ++ ⟨#[47]⟩ ++ M) := HW.out.symm
  go_wp2
  refine bodyPost_ret (v := .tuple #[.agg #[.string ⟨#[]⟩, .slice none 0 0, .slice none 0 0, .string ⟨#[]⟩, .string (X ++ ⟨#[47]⟩ ++ M)], .bool false]) (by simp [results, Tryz.results85, go_sem, r0, r1, r2, r3, r4]) rfl ?_
  refine Ret.good HF.out.1 (HSB.out _ _ _ _ _) ?_
  rw [HF.out.2]
  show _ = _
  rw [HW2.out]
 | [y], hL, HCO =>
  have HF := Lib.hid (HF2.out y.1 hL.symm)
  obtain ⟨g, o1, p1, p2, p3, p4, rfl, hg, c0, c1, c2, c3, hn⟩ := nodesQ HCO.out.1 HCO.out.2 0 (by simp)
  simp only [List.getElem_cons_zero, Nat.zero_mul, Nat.add_zero] at c0 c1 c2 c3 hn
  obtain ⟨k, ya, yk⟩ := y
  simp only at *
  have HN := Lib.hid hn
  clear hL HCO HF1 HF2 HF3 HC hn
  have HW2 : Hid ((bs (sl wh m) : S) = X ++ ⟨#[47]⟩ ++ M) := HW.out.symm
  have HNB : Hid (∀ v0 v1 v2 v3 v4, NodeX Z (((((w1.setCell ⟨w.heap.size + 1, 0, none⟩ v0).setCell ⟨w.heap.size + 1, 1, none⟩ v1).setCell ⟨w.heap.size + 1, 2, none⟩ v2).setCell ⟨w.heap.size + 1, 3, none⟩ v3).setCell ⟨w.heap.size + 1, 4, none⟩ v4) k (.slice p1 k.attrs.length p2) (.slice p3 k.kids.length p4)) := fun v0 v1 v2 v3 v4 =>
   HN.out.keep (((((keptX_set _ _ _ _ (by left; right; omega)).trans (keptX_set _ _ _ _ (by left; right; omega))).trans (keptX_set _ _ _ _ (by left; right; omega))).trans (keptX_set _ _ _ _ (by left; right; omega))).trans (keptX_set _ _ _ _ (by left; right; omega))) (fun _ _ h => .inl (.inl h))
  clear HN
  go_wp2
  refine bodyPost_ret (v := .tuple #[.agg #[.string (bs k.name), .slice p1 k.attrs.length p2, .slice p3 k.kids.length p4, .string (bs k.text), .string (X ++ ⟨#[47]⟩ ++ M)], .bool true]) (by simp [results, Tryz.results85, go_sem, r0, r1, r2, r3, r4]) rfl ?_
  refine Ret.good HF.out.1 (HSB.out _ _ _ _ _) ?_
  rw [HF.out.2]
  refine ⟨_, _, ?_, HNB.out _ _ _ _ _⟩
  unfold elemV
  rw [HW2.out]
 | y :: z :: L, hL, HCO =>
  have HF := Lib.hid (HF1.out _ _ _ hL.symm)
  have HW2 : Hid ((bs (two (sl wh m)) : S) = X ++ ⟨#[47]⟩ ++ M ++ ⟨#[91, 50, 93]⟩) := (two_bs _ _ _ _ HW.out).symm
  obtain ⟨n, hn⟩ : ∃ n : Nat, n = (y :: z :: L).length := ⟨_, rfl⟩
  have hn0 : ((n : Int) == 0) = false := by rw [beq_eq_false_iff_ne]; simp at hn; omega
  have hn1 : ((n : Int) == 1) = false := by rw [beq_eq_false_iff_ne]; simp at hn; omega
  rw [← hn]
  clear hL HCO HF1 HF2 HF3 HC hn
  go_wp2_with fail
  refine (failQ_any _ _ _).mono ?_
  rintro e w2 ⟨rfl, rfl⟩
  go_wp2
  refine ⟨rfl, Ret.bad HF.out HB1.out ?_⟩
  unfold panE faultQ
  rw [HW2.out]
theorem field_any (t : Tr) (wh m : Bs) (w : World) (av kv : Value) (ht : NodeOf w t av kv) (hkl : t.kids.length ≤ 100000) (hl : wh.length + m.length ≤ 1000000000000) :
    Calls Tryz.prog 85 #[elemV t av kv wh, .string (bs m)] w (Ret (manyE t wh m) (FieldP wh m (oneV t m)) w) :=
 field_x (fun _ => False) t wh m w av kv ht hkl hl
theorem kidsX_empty {m : Bs} {l : List Tr} {L : List TrV} (h : L.map (·.1) = kidsF m l) : ((kidsF m l).isEmpty = false → 0 < L.length) ∧ ((kidsF m l).isEmpty = true → L.length = 0) := by
 rw [← h]
 cases L <;> simp
set_option maxRecDepth 100000 in
set_option maxHeartbeats 8000000 in
theorem textQ_any (t : Tr) (wh : Bs) (b : Bool) (w : World) (av kv : Value) (ht : NodeOf w t av kv) (hkl : t.kids.length ≤ 100000) (hx : (textF t.kids).length ≤ 1000000000) :
    Calls Tryz.prog 130 #[elemV t av kv wh, .bool b] w (Ret (textE t wh b) (fun e _ => e = .returned (.string (bs (textV t)))) w) := by
 obtain ⟨ao, ac, ko, kc, rfl, rfl, hal, -⟩ := ht.shape
 obtain ⟨N, hN⟩ : ∃ N : Bs, N = textV t := ⟨_, rfl⟩
 obtain ⟨q, hq⟩ : ∃ q : Bool, q = (kidsF [] t.kids).isEmpty := ⟨_, rfl⟩
 have HE : Hid (textE t wh b = if !q || decide (1024 < N.length) || (N.isEmpty && !b) then some (20, wh) else none) := by show _ = _; rw [hq, hN]; rfl
 have HT : Hid (∀ W, Below w.heap.size w W → Calls Tryz.prog 167 #[.agg #[.string (bs t.name), .slice ao t.attrs.length ac, .slice ko t.kids.length kc, .string (bs t.text)]] W fun e w' => e = .returned (.string (bs N)) ∧ Below W.heap.size W w') := fun W h => by rw [hN]; exact text_any t W _ _ (ht.later h) hx
 have HC : Hid (∀ W, Below w.heap.size w W → Calls Tryz.prog 129 #[.agg #[.string (bs t.name), .slice ao t.attrs.length ac, .slice ko t.kids.length kc, .string (bs t.text)], .string ⟨#[]⟩] W fun e w' => ∃ a n c, e = .returned (.slice a n c) ∧ (q = false → 0 < n) ∧ (q = true → n = 0) ∧ Below W.heap.size W w') := fun W h =>
  (kids_any t [] W _ _ (ht.later h) hkl).mono fun _ _ ⟨v, L, h1, h2, h3⟩ => by
   obtain ⟨la, lc, rfl⟩ := h3.own.shape
   exact ⟨la, L.length, lc, h1, fun e => by rw [hq] at e; exact (kidsX_empty h2).1 e, fun e => by rw [hq] at e; exact (kidsX_empty h2).2 e, h3.below⟩
 rw [← hN]
 obtain ⟨r, hr⟩ : ∃ r, r = textE t wh b := ⟨_, rfl⟩
 rw [← hr] at HE ⊢
 clear hr ht hN hq
 have hbz : (bs N : S).size = N.length := bs_size _
 obtain ⟨X, hX⟩ : ∃ X : S, X = bs wh := ⟨_, rfl⟩
 unfold elemV
 rw [← hX]
 have HXW : Hid ((bs wh : S) = X) := hX.symm
 clear hX
 have hne : (bs N : S).toList.isEmpty = N.isEmpty := by rw [empty_data, bs_size]; cases N <;> simp
 have HNE := Lib.hid hne
 obtain ⟨Y, hY⟩ : ∃ Y : S, Y = bs N := ⟨_, rfl⟩
 rw [← hY] at HT hbz HNE ⊢
 clear hne hY hx
 go_enter Tryz.func130, Tryz.ntmps130
 go_upto_region 1 with fail
 refine wp_world ?_
 intro W hW
 have x1 : Box W w.heap.size [.string (bs t.name), .slice ao t.attrs.length ac, .slice ko t.kids.length kc, .string (bs t.text), .string X] := by rw [hW]; exact Box.new w [.string (bs t.name), .slice ao t.attrs.length ac, .slice ko t.kids.length kc, .string (bs t.text), .string X] _ _ rfl
 have hb : Below w.heap.size w W := by rw [hW]; exact (Below.refl _ w).alloc (Nat.le_refl _) _
 clear hW
 have HX1 := Lib.hid x1
 have HB := Lib.hid hb
 clear x1 hb
 obtain ⟨a0, a1, a2, a3, a4⟩ := bxc5 HX1.out
 have al := HX1.out.lt
 go_wp2_with fail
 refine (HT.out _ HB.out).mono ?_
 rintro e w1 ⟨rfl, hb1⟩
 have HB1 := Lib.hid (HB.out.trans (hb1.mono HB.out.size))
 have HY1 := Lib.hid (HX1.out.below hb1 HX1.out.lt)
 clear a0 a1 a2 a3 a4 al hb1
 obtain ⟨a0, a1, a2, a3, a4⟩ := bxc5 HY1.out
 have al := HY1.out.lt
 clear HT
 obtain ⟨lg, hlg⟩ : ∃ lg, lg = decide (1024 < N.length) := ⟨_, rfl⟩
 obtain ⟨em, hem⟩ : ∃ em, em = N.isEmpty := ⟨_, rfl⟩
 have hL : decide ((1024 : Int) < ((Y.size : Nat) : Int)) = lg := by rw [hlg, hbz]; exact decide_eq_decide.2 (by omega)
 have hM : Y.toList.isEmpty = em := by rw [hem]; exact HNE.out
 rw [← hlg, ← hem] at HE
 clear hlg hem HNE hbz
 cases q with
 | false =>
  have HR : Hid (r = some (20, wh)) := HE.out
  clear HE hL hM
  go_wp2_with fail
  refine (HC.out _ HB1.out).mono ?_
  rintro e w2 ⟨la, n, lc, rfl, hn1, hn2, hb2⟩
  have hn := hn1 (by trivial)
  have hnI : (0 : Int) < (n : Int) := by omega
  have HB2 := Lib.hid (HB1.out.trans (hb2.mono HB1.out.size))
  have HY2 := Lib.hid (HY1.out.below hb2 HY1.out.lt)
  clear a0 a1 a2 a3 a4 al hb2 HC hn1 hn2
  obtain ⟨a0, a1, a2, a3, a4⟩ := bxc5 HY2.out
  have al := HY2.out.lt
  go_wp2_with fail
  refine (failQ_any _ _ _).mono ?_
  rintro e w3 ⟨rfl, rfl⟩
  go_wp2
  refine ⟨rfl, Ret.bad HR.out HB2.out ?_⟩
  unfold panE faultQ
  rw [HXW.out]
 | true =>
  cases lg with
  | true =>
   have HR : Hid (r = some (20, wh)) := HE.out
   clear HE hM
   go_wp2_with fail
   refine (HC.out _ HB1.out).mono ?_
   rintro e w2 ⟨la, n, lc, rfl, hn1, hn2, hb2⟩
   obtain rfl := hn2 (by trivial)
   have HB2 := Lib.hid (HB1.out.trans (hb2.mono HB1.out.size))
   have HY2 := Lib.hid (HY1.out.below hb2 HY1.out.lt)
   clear a0 a1 a2 a3 a4 al hb2 HC hn1 hn2
   obtain ⟨a0, a1, a2, a3, a4⟩ := bxc5 HY2.out
   have al := HY2.out.lt
   go_wp2_with fail
   refine (failQ_any _ _ _).mono ?_
   rintro e w3 ⟨rfl, rfl⟩
   go_wp2
   refine ⟨rfl, Ret.bad HR.out HB2.out ?_⟩
   unfold panE faultQ
   rw [HXW.out]
  | false =>
   cases em with
   | false =>
    have HR : Hid (r = none) := HE.out
    clear HE
    go_wp2_with fail
    refine (HC.out _ HB1.out).mono ?_
    rintro e w2 ⟨la, n, lc, rfl, hn1, hn2, hb2⟩
    obtain rfl := hn2 (by trivial)
    have HB2 := Lib.hid (HB1.out.trans (hb2.mono HB1.out.size))
    have HY2 := Lib.hid (HY1.out.below hb2 HY1.out.lt)
    clear a0 a1 a2 a3 a4 al hb2 HC hn1 hn2
    obtain ⟨a0, a1, a2, a3, a4⟩ := bxc5 HY2.out
    have al := HY2.out.lt
    go_wp2
    go_ret
    exact Ret.good HR.out HB2.out rfl
   | true =>
    cases b with
    | false =>
     have HR : Hid (r = some (20, wh)) := HE.out
     clear HE
     go_wp2_with fail
     refine (HC.out _ HB1.out).mono ?_
     rintro e w2 ⟨la, n, lc, rfl, hn1, hn2, hb2⟩
     obtain rfl := hn2 (by trivial)
     have HB2 := Lib.hid (HB1.out.trans (hb2.mono HB1.out.size))
     have HY2 := Lib.hid (HY1.out.below hb2 HY1.out.lt)
     clear a0 a1 a2 a3 a4 al hb2 HC hn1 hn2
     obtain ⟨a0, a1, a2, a3, a4⟩ := bxc5 HY2.out
     have al := HY2.out.lt
     go_wp2_with fail
     refine (failQ_any _ _ _).mono ?_
     rintro e w3 ⟨rfl, rfl⟩
     go_wp2
     refine ⟨rfl, Ret.bad HR.out HB2.out ?_⟩
     unfold panE faultQ
     rw [HXW.out]
    | true =>
     have HR : Hid (r = none) := HE.out
     clear HE
     go_wp2_with fail
     refine (HC.out _ HB1.out).mono ?_
     rintro e w2 ⟨la, n, lc, rfl, hn1, hn2, hb2⟩
     obtain rfl := hn2 (by trivial)
     have HB2 := Lib.hid (HB1.out.trans (hb2.mono HB1.out.size))
     have HY2 := Lib.hid (HY1.out.below hb2 HY1.out.lt)
     clear a0 a1 a2 a3 a4 al hb2 HC hn1 hn2
     obtain ⟨a0, a1, a2, a3, a4⟩ := bxc5 HY2.out
     have al := HY2.out.lt
     go_wp2
     go_ret
     exact Ret.good HR.out HB2.out rfl

end Go.Proofs.YtphaeegbmfpcgaaGreatDoor
