/- Walks: which ids and versions may be, the program's and the document's; the conditions stand in the theorems. -/
import Derived.Test.YtecffghcpknmjaaGreatDoorL0
import Derived.Test.YtecffghcpknmjaaGreatDoorShelf
import Derived.Laws.IdiomStrings
import Derived.Laws.BytesArg
namespace Go.Proofs.YtecffghcpknmjaaGreatDoor
open Go Go.RowKit

/-- The world behind a text's conversion to bytes, and the capacity. -/
def bytesC (w : World) (s : S) : Nat := grownCap w s.size 0 5
def bytesW (w : World) (s : S) : World := w.drew.alloc (.cells (bytesRow s (bytesC w s)) 5 ((bytesRow s (bytesC w s)).size, (bytesRow s (bytesC w s)).size + 1))
theorem conv_bytes (w : World) (s : S) : (convert 9 72 (.string s)).run Tryz.prog w = .ok (.slice (some ⟨w.heap.size, 0, none⟩) s.size (bytesC w s)) (bytesW w s) :=
  run_bytes_of_string w 9 72 5 s Tryz.underlying9 Tryz.underlying72 Tryz.underlying5
theorem bytesW_below (w : World) (s : S) (B : Nat) (hB : B ≤ w.heap.size) : Below B w (bytesW w s) := (belowN (Below.refl _ _) 1).alloc hB _
theorem bytesW_size (w : World) (s : S) : (bytesW w s).heap.size = w.heap.size + 1 := by show (w.heap.push _).size = _; simp
theorem bytesW_cell (w : World) (s : S) (j : Nat) (h : j < s.size) : (bytesW w s).cell? ⟨w.heap.size, j, none⟩ = some (.int .u8 (s[j].toNat : Nat)) := by
  have hh : (bytesW w s).heap[w.heap.size]? = some (.cells (bytesRow s (bytesC w s)) 5 ((bytesRow s (bytesC w s)).size, (bytesRow s (bytesC w s)).size + 1)) := by
    show (w.heap.push _)[w.heap.size]? = _
    simp
  have hs : j < s.data.size := h
  simp only [World.cell?, hh]
  unfold bytesRow
  rw [Array.getElem?_append_left (by simpa using hs), Array.getElem?_map, Array.getElem?_eq_getElem hs]
  rfl
theorem conv_str (w : World) (xs : List Int) (l : Bs) (h : xs.map (fun n => UInt8.ofNat n.toNat) = l) (C : Array Value) (hC : C = (xs.map (Value.int .u8)).toArray) (k : Nat) (hk : k = xs.length) :
    (convert 72 9 (.slice (some ⟨w.heap.size, 0, none⟩) k k)).run Tryz.prog (w.alloc (.cells C 5)) = .ok (.string (bs l)) (w.alloc (.cells C 5)) := by
  subst hk hC
  rw [run_convert_bytes_arg (P := Tryz.prog) (w.alloc (.cells (xs.map (Value.int .u8)).toArray 5)) 72 5 Tryz.underlying72 Tryz.underlying5 w.heap.size 0 xs.length xs.length xs rfl ?_ 9 Tryz.underlying9]
  · rw [← h]; rfl
  · intro i hi
    rw [World.cell?_alloc_mark]
    simp [List.getElem?_eq_getElem hi]
def mayB (P : UInt8 → Bool) (s : S) : Bool := s.data.toList.all P && decide (1 ≤ s.size) && decide (s.size ≤ 64)
theorem eqI (n : Nat) (k : Nat) (j : Int) (h : j = k) : ((n : Int) == j) = decide (n = k) := by
  rw [h, Bool.eq_iff_iff]; simp; omega
theorem neI (n : Nat) (k : Nat) (j : Int) (h : j = k) : ((n : Int) != j) = !decide (n = k) := by
  rw [bne, eqI n k j h]
theorem mayB_bad {P : UInt8 → Bool} {s : S} {k : Nat} (h : k < s.size) (hb : P s[k] = false) : mayB P s = false := by
  have : s.data.toList.all P = false := by
    rw [List.all_eq_false]
    exact ⟨s[k], List.getElem_mem (l := s.data.toList) (n := k) (by rw [size_data]; exact h), by rw [hb]; simp⟩
  unfold mayB; rw [this]; rfl
theorem mayB_end {P : UInt8 → Bool} {s : S} (h : (s.data.toList.take s.size).all P = true) : mayB P s = (decide (1 ≤ s.size) && decide (s.size ≤ 64)) := by
  rw [List.take_of_length_le (by rw [size_data]; exact Nat.le_refl _)] at h
  unfold mayB; rw [h]; rfl
theorem all_step {P : UInt8 → Bool} {s : S} {k : Nat} (h : k < s.size) (ha : (s.data.toList.take k).all P = true) (hb : P s[k] = true) : (s.data.toList.take (k + 1)).all P = true := by
  rw [take_byte s k h, List.all_append, ha]; simpa using hb
set_option maxHeartbeats 1000000 in
theorem isByte_any (c : UInt8) (w : World) : Calls Tryz.prog 69 #[.int .u8 c.toNat] w fun e w' => e = .returned (.bool (idByte c)) ∧ w = w' := by
  have e46 := eqI c.toNat 46 46 rfl
  have e45 := eqI c.toNat 45 45 rfl
  have e95 := eqI c.toNat 95 95 rfl
  have e58 := neI c.toNat 58 58 rfl
  cases hb : idByte c
  · have h := idByte_no hb
    clear hb
    go_enter Tryz.func69, Tryz.ntmps69
    go_wp2
    all_goals first | (exfalso; omega) | (exfalso; rename_i hx; simp at hx; omega) | (go_ret; exact ⟨ret_bool (by simp <;> omega), rfl⟩)
  · have h := idByte_iff.1 hb
    clear hb
    have n58 : ¬ c.toNat = 58 := by omega
    go_enter Tryz.func69, Tryz.ntmps69
    go_wp2
    all_goals first | (exfalso; omega) | (exfalso; rename_i hx; simp at hx; omega) | (go_ret; exact ⟨ret_bool (by simp <;> omega), rfl⟩)
set_option maxRecDepth 100000 in
set_option maxHeartbeats 4000000 in
theorem refIsId_any (s : S) (w : World) (hs : s.size ≤ 9223372036854775807) : Calls Tryz.prog 13 #[.string s] w fun e w' => e = .returned (.bool (isIdB s)) ∧ w = w' := by
  rw [show isIdB s = mayB idByte s from rfl]
  go_enter Tryz.func13, Tryz.ntmps13
  go_wp2
  go_loop [3, 4] (fun i _ => ∃ k : Nat, k ≤ s.size ∧ i = .int .i64 k ∧ Hid ((s.data.toList.take k).all idByte = true)) (fun i _ => s.size - (intOf i).toNat)
  case atStart => exact ⟨0, Nat.zero_le _, rfl, rfl⟩
  case round =>
    obtain ⟨k, hk, rfl, HA⟩ := hrel
    by_cases hlt : k < s.size
    · cases hb : idByte s[k]
      · have HB : Hid (mayB idByte s = false) := mayB_bad hlt hb
        have h := idByte_no hb
        clear hb
        have e46 : (((s[k].toNat : Nat) : Int) == 46) = false := by rw [eqI _ 46 46 rfl, decide_eq_false_iff_not]; omega
        have e45 : (((s[k].toNat : Nat) : Int) == 45) = false := by rw [eqI _ 45 45 rfl, decide_eq_false_iff_not]; omega
        have e95 : (((s[k].toNat : Nat) : Int) == 95) = false := by rw [eqI _ 95 95 rfl, decide_eq_false_iff_not]; omega
        skip
        go_wp2
        all_goals first | (exfalso; omega) | (exfalso; rename_i hx; simp at hx; omega) | (go_ret; exact ⟨ret_bool HB.out.symm, rfl⟩)
      · have HB : Hid ((s.data.toList.take (k + 1)).all idByte = true) := all_step hlt HA.out hb
        have h := idByte_iff.1 hb
        clear hb
        have e46 := eqI s[k].toNat 46 46 rfl
        have e45 := eqI s[k].toNat 45 45 rfl
        have e95 := eqI s[k].toNat 95 95 rfl
        have e43 := eqI s[k].toNat 43 43 rfl
        rcases h with h | h | h | h | h | h
        all_goals
          go_wp2
          all_goals first | (exfalso; omega) | (exfalso; rename_i hx; simp at hx; omega) | skip
          go_round
          case rel => exact ⟨k + 1, by omega, by go_num, HB⟩
          case measure => simp [intOf]; omega
    · obtain rfl : k = s.size := by omega
      have HE : Hid (mayB idByte s = (decide (1 ≤ s.size) && decide (s.size ≤ 64))) := mayB_end HA.out
      by_cases h1 : 1 ≤ s.size
      · have HE2 : Hid (mayB idByte s = decide (s.size ≤ 64)) := by show _ = _; rw [HE.out, decide_eq_true h1]; rfl
        clear HE
        by_cases h2 : s.size ≤ 64
        · have HE3 : Hid (mayB idByte s = true) := by show _ = _; rw [HE2.out, decide_eq_true h2]
          clear HE2
          go_wp2
          all_goals first | (exfalso; omega) | (exfalso; rename_i hx; simp at hx; omega) | (go_ret; exact ⟨ret_bool (by rw [HE3.out] <;> (try simp) <;> (try omega)), rfl⟩)
        · have HE3 : Hid (mayB idByte s = false) := by show _ = _; rw [HE2.out, decide_eq_false h2]
          clear HE2
          go_wp2
          all_goals first | (exfalso; omega) | (exfalso; rename_i hx; simp at hx; omega) | (go_ret; exact ⟨ret_bool (by rw [HE3.out] <;> (try simp) <;> (try omega)), rfl⟩)
      · have HE3 : Hid (mayB idByte s = false) := by show _ = _; rw [HE.out, decide_eq_false h1]; rfl
        clear HE
        go_wp2
        all_goals first | (exfalso; omega) | (exfalso; rename_i hx; simp at hx; omega) | (go_ret; exact ⟨ret_bool (by rw [HE3.out] <;> (try simp) <;> (try omega)), rfl⟩)
set_option maxRecDepth 100000 in
set_option maxHeartbeats 4000000 in
theorem refVer_any (s : S) (w : World) (hs : s.size ≤ 9223372036854775807) : Calls Tryz.prog 14 #[.string s] w fun e w' => e = .returned (.bool (verMay s)) ∧ w = w' := by
  rw [show verMay s = mayB verByte s from rfl]
  go_enter Tryz.func14, Tryz.ntmps14
  go_wp2
  go_loop [3, 4] (fun i _ => ∃ k : Nat, k ≤ s.size ∧ i = .int .i64 k ∧ Hid ((s.data.toList.take k).all verByte = true)) (fun i _ => s.size - (intOf i).toNat)
  case atStart => exact ⟨0, Nat.zero_le _, rfl, rfl⟩
  case round =>
    obtain ⟨k, hk, rfl, HA⟩ := hrel
    by_cases hlt : k < s.size
    · cases hb : verByte s[k]
      · have HB : Hid (mayB verByte s = false) := mayB_bad hlt hb
        have h := verByte_no hb
        clear hb
        have e46 : (((s[k].toNat : Nat) : Int) == 46) = false := by rw [eqI _ 46 46 rfl, decide_eq_false_iff_not]; omega
        have e45 : (((s[k].toNat : Nat) : Int) == 45) = false := by rw [eqI _ 45 45 rfl, decide_eq_false_iff_not]; omega
        have e95 : (((s[k].toNat : Nat) : Int) == 95) = false := by rw [eqI _ 95 95 rfl, decide_eq_false_iff_not]; omega
        have e43 : (((s[k].toNat : Nat) : Int) == 43) = false := by rw [eqI _ 43 43 rfl, decide_eq_false_iff_not]; omega
        go_wp2
        all_goals first | (exfalso; omega) | (exfalso; rename_i hx; simp at hx; omega) | (go_ret; exact ⟨ret_bool HB.out.symm, rfl⟩)
      · have HB : Hid ((s.data.toList.take (k + 1)).all verByte = true) := all_step hlt HA.out hb
        have h := verByte_iff.1 hb
        clear hb
        have e46 := eqI s[k].toNat 46 46 rfl
        have e45 := eqI s[k].toNat 45 45 rfl
        have e95 := eqI s[k].toNat 95 95 rfl
        have e43 := eqI s[k].toNat 43 43 rfl
        rcases h with h | h | h | h | h | h | h
        all_goals
          go_wp2
          all_goals first | (exfalso; omega) | (exfalso; rename_i hx; simp at hx; omega) | skip
          go_round
          case rel => exact ⟨k + 1, by omega, by go_num, HB⟩
          case measure => simp [intOf]; omega
    · obtain rfl : k = s.size := by omega
      have HE : Hid (mayB verByte s = (decide (1 ≤ s.size) && decide (s.size ≤ 64))) := mayB_end HA.out
      by_cases h1 : 1 ≤ s.size
      · have HE2 : Hid (mayB verByte s = decide (s.size ≤ 64)) := by show _ = _; rw [HE.out, decide_eq_true h1]; rfl
        clear HE
        by_cases h2 : s.size ≤ 64
        · have HE3 : Hid (mayB verByte s = true) := by show _ = _; rw [HE2.out, decide_eq_true h2]
          clear HE2
          go_wp2
          all_goals first | (exfalso; omega) | (exfalso; rename_i hx; simp at hx; omega) | (go_ret; exact ⟨ret_bool (by rw [HE3.out] <;> (try simp) <;> (try omega)), rfl⟩)
        · have HE3 : Hid (mayB verByte s = false) := by show _ = _; rw [HE2.out, decide_eq_false h2]
          clear HE2
          go_wp2
          all_goals first | (exfalso; omega) | (exfalso; rename_i hx; simp at hx; omega) | (go_ret; exact ⟨ret_bool (by rw [HE3.out] <;> (try simp) <;> (try omega)), rfl⟩)
      · have HE3 : Hid (mayB verByte s = false) := by show _ = _; rw [HE.out, decide_eq_false h1]; rfl
        clear HE
        go_wp2
        all_goals first | (exfalso; omega) | (exfalso; rename_i hx; simp at hx; omega) | (go_ret; exact ⟨ret_bool (by rw [HE3.out] <;> (try simp) <;> (try omega)), rfl⟩)
set_option maxRecDepth 100000 in
set_option maxHeartbeats 4000000 in
theorem isId_any (s : S) (w : World) (hs : s.size ≤ 9223372036854775807) : Calls Tryz.prog 45 #[.string s] w fun e w' => e = .returned (.bool (isIdB s)) ∧ Below w.heap.size w w' := by
  rw [show isIdB s = mayB idByte s from rfl]
  have hcv := fun (w : World) => conv_bytes w s
  go_enter Tryz.func45, Tryz.ntmps45
  go_wp2_with fail
  clear hcv
  refine wp_world ?_
  intro W hW
  have hcells := fun j h => bytesW_cell w s j h
  have hbel := bytesW_below w s w.heap.size (Nat.le_refl _)
  have hsz := bytesW_size w s
  rw [← hW] at hcells hbel hsz
  have HC := Lib.hid hcells
  have HB0 := Lib.hid hbel
  have hlw : w.heap.size < W.heap.size := by omega
  clear hW hcells hbel hsz
  generalize bytesC w s = cap at *
  go_loopw [4, 8] (fun _ i wr => ∃ k : Nat, k ≤ s.size ∧ i = .int .i64 k ∧ Below W.heap.size W wr ∧ Hid ((s.data.toList.take k).all idByte = true)) (fun _ i _ => s.size - (intOf i).toNat)
  case atStart => exact ⟨0, Nat.zero_le _, rfl, Below.refl _ _, rfl⟩
  case round =>
    obtain ⟨k, hk, rfl, hb, HA⟩ := hrel
    have HBR := Lib.hid hb
    have hlr := hb.size
    have hlw2 : w.heap.size < wr.heap.size := by omega
    by_cases hlt : k < s.size
    · have c0 : wr.cell? ⟨w.heap.size, k, none⟩ = some (.int .u8 (s[k].toNat : Nat)) := (hb.cell (by exact hlw)).trans (HC.out k hlt)
      clear hb
      cases hb : idByte s[k]
      · have HB : Hid (mayB idByte s = false) := mayB_bad hlt hb
        have HI := Lib.hid (fun w => hb ▸ isByte_any s[k] w : ∀ w, Calls Tryz.prog 69 #[.int .u8 s[k].toNat] w fun e w' => e = .returned (.bool false) ∧ w = w')
        clear hb
        go_wp2_with fail
        refine (HI.out _).mono ?_
        rintro e w' ⟨rfl, rfl⟩
        go_wp2
        go_ret
        exact ⟨ret_bool HB.out.symm, HB0.out.trans (HBR.out.mono (Nat.le_of_lt hlw))⟩
      · have HB : Hid ((s.data.toList.take (k + 1)).all idByte = true) := all_step hlt HA.out hb
        have HI := Lib.hid (fun w => hb ▸ isByte_any s[k] w : ∀ w, Calls Tryz.prog 69 #[.int .u8 s[k].toNat] w fun e w' => e = .returned (.bool true) ∧ w = w')
        clear hb
        go_wp2_with fail
        refine (HI.out _).mono ?_
        rintro e w' ⟨rfl, rfl⟩
        go_wp2
        go_roundw
        case rel => exact ⟨k + 1, by omega, by go_num, HBR.out, HB⟩
        case measure => simp [intOf]; omega
    · obtain rfl : k = s.size := by omega
      clear hb
      have HE : Hid (mayB idByte s = (decide (1 ≤ s.size) && decide (s.size ≤ 64))) := mayB_end HA.out
      by_cases h1 : 1 ≤ s.size
      · have HE2 : Hid (mayB idByte s = decide (s.size ≤ 64)) := by show _ = _; rw [HE.out, decide_eq_true h1]; rfl
        clear HE
        by_cases h2 : s.size ≤ 64
        · have HE3 : Hid (mayB idByte s = true) := by show _ = _; rw [HE2.out, decide_eq_true h2]
          clear HE2
          go_wp2
          all_goals first | (exfalso; omega) | (exfalso; rename_i hx; simp at hx; omega) | (go_ret; exact ⟨ret_bool (by rw [HE3.out] <;> (try simp) <;> (try omega)), HB0.out.trans (HBR.out.mono (Nat.le_of_lt hlw))⟩)
        · have HE3 : Hid (mayB idByte s = false) := by show _ = _; rw [HE2.out, decide_eq_false h2]
          clear HE2
          go_wp2
          all_goals first | (exfalso; omega) | (exfalso; rename_i hx; simp at hx; omega) | (go_ret; exact ⟨ret_bool (by rw [HE3.out] <;> (try simp) <;> (try omega)), HB0.out.trans (HBR.out.mono (Nat.le_of_lt hlw))⟩)
      · have HE3 : Hid (mayB idByte s = false) := by show _ = _; rw [HE.out, decide_eq_false h1]; rfl
        clear HE
        go_wp2
        all_goals first | (exfalso; omega) | (exfalso; rename_i hx; simp at hx; omega) | (go_ret; exact ⟨ret_bool (by rw [HE3.out] <;> (try simp) <;> (try omega)), HB0.out.trans (HBR.out.mono (Nat.le_of_lt hlw))⟩)
theorem isDigitV_any (c : UInt8) (b : Bool) (hb : (decide (48 ≤ c.toNat) && decide (c.toNat ≤ 57)) = b) (w : World) : Calls Tryz.prog 72 #[.int .u8 c.toNat] w fun e w' => e = .returned (.bool b) ∧ w = w' := by
  subst hb
  by_cases h1 : 48 ≤ c.toNat
  all_goals
    go_enter Tryz.func72, Tryz.ntmps72
    go_wp2
    all_goals first | (exfalso; omega) | (go_ret; exact ⟨ret_bool (by simp [h1] <;> omega), rfl⟩)
theorem index_marks (c : UInt8) : decide (0 ≤ Lib.indexByte [46, 45, 95, 43] c) = (c.toNat == 46 || c.toNat == 45 || c.toNat == 95 || c.toNat == 43) := by
  have h : ∀ n : Fin 256, decide (0 ≤ Lib.indexByte [46, 45, 95, 43] (UInt8.ofNat n)) = ((UInt8.ofNat n).toNat == 46 || (UInt8.ofNat n).toNat == 45 || (UInt8.ofNat n).toNat == 95 || (UInt8.ofNat n).toNat == 43) := by decide +kernel
  have := h ⟨c.toNat, c.toNat_lt⟩
  simpa only [UInt8.ofNat_toNat] using this
theorem marks_any (c : UInt8) (b : Bool) (hb : (c.toNat == 46 || c.toNat == 45 || c.toNat == 95 || c.toNat == 43) = b) (w : World) : Calls Tryz.prog 73 #[.string ⟨#[46, 45, 95, 43]⟩, .string (bs [c])] w fun e w' => e = .returned (.bool b) ∧ w = w' :=
  (Tryz.strings_Contains_one ⟨#[46, 45, 95, 43]⟩ c w).mono fun _ _ ⟨h1, h2⟩ => ⟨by rw [h1, ← hb]; exact congrArg (fun x => Ending.returned (.bool x)) (index_marks c), h2.symm⟩
set_option maxRecDepth 100000 in
set_option maxHeartbeats 4000000 in
theorem ver_any (s : S) (w : World) (hs : s.size ≤ 9223372036854775807) : Calls Tryz.prog 47 #[.string s] w fun e w' => e = .returned (.bool (verMay s)) ∧ Below w.heap.size w w' := by
  rw [show verMay s = mayB verByte s from rfl]
  have hcv := fun (w : World) => conv_bytes w s
  go_enter Tryz.func47, Tryz.ntmps47
  go_wp2_with fail
  clear hcv
  refine wp_world ?_
  intro W hW
  have hcells := fun j h => bytesW_cell w s j h
  have hbel := bytesW_below w s w.heap.size (Nat.le_refl _)
  have hsz := bytesW_size w s
  rw [← hW] at hcells hbel hsz
  have HC := Lib.hid hcells
  have HB0 := Lib.hid hbel
  have hlw : w.heap.size < W.heap.size := by omega
  clear hW hcells hbel hsz
  generalize bytesC w s = cap at *
  go_loopw [4, 5, 9] (fun _ _ i wr => ∃ k : Nat, k ≤ s.size ∧ i = .int .i64 k ∧ Below W.heap.size W wr ∧ Hid ((s.data.toList.take k).all verByte = true)) (fun _ _ i _ => s.size - (intOf i).toNat)
  case atStart => exact ⟨0, Nat.zero_le _, rfl, Below.refl _ _, rfl⟩
  case round =>
    obtain ⟨k, hk, rfl, hb, HA⟩ := hrel
    have HBR := Lib.hid hb
    have hlr := hb.size
    have hlw2 : w.heap.size < wr.heap.size := by omega
    by_cases hlt : k < s.size
    · have c0 : wr.cell? ⟨w.heap.size, k, none⟩ = some (.int .u8 (s[k].toNat : Nat)) := (hb.cell (by exact hlw)).trans (HC.out k hlt)
      clear hb
      have hcs : (convert 72 9 (.slice (some ⟨wr.heap.size, 0, none⟩) 1 1)).run Tryz.prog (wr.alloc (.cells #[.int .u8 (s[k].toNat : Nat)] 5)) = .ok (.string (bs [s[k]])) (wr.alloc (.cells #[.int .u8 (s[k].toNat : Nat)] 5)) :=
        conv_str wr [(s[k].toNat : Int)] [s[k]] (by simp) _ rfl 1 rfl
      cases hb : verByte s[k]
      · have HB : Hid (mayB verByte s = false) := mayB_bad hlt hb
        have h := verByte_no hb
        have HM := Lib.hid (fun w => marks_any s[k] false (by rw [Bool.eq_false_iff]; intro h; simp at h; omega) w)
        have HD := Lib.hid (fun w => isDigitV_any s[k] false (by rw [Bool.eq_false_iff]; intro h; simp at h; omega) w)
        clear hb
        go_wp2_with (first | (go_at_call 72; refine (HD.out _).mono ?_; rintro e w' ⟨rfl, rfl⟩) | (go_at_call 73; refine (HM.out _).mono ?_; rintro e w' ⟨rfl, rfl⟩))
        all_goals first | (exfalso; omega) | (exfalso; rename_i hx; simp at hx; omega) | (go_ret; exact ⟨ret_bool HB.out.symm, HB0.out.trans ((HBR.out.alloc hlr _).mono (Nat.le_of_lt hlw))⟩)
      · have HB : Hid ((s.data.toList.take (k + 1)).all verByte = true) := all_step hlt HA.out hb
        have h := verByte_iff.1 hb
        clear hb
        by_cases hm : (97 ≤ s[k].toNat ∧ s[k].toNat ≤ 122) ∨ (65 ≤ s[k].toNat ∧ s[k].toNat ≤ 90)
        · clear h hcs
          rcases hm with h | h
          all_goals
            go_wp2
            all_goals first | (exfalso; omega) | (exfalso; rename_i hx; simp at hx; omega) | skip
            go_roundw
            case rel => exact ⟨k + 1, by omega, by go_num, HBR.out, HB⟩
            case measure => simp [intOf]; omega
        · by_cases hd : 48 ≤ s[k].toNat ∧ s[k].toNat ≤ 57
          · have HD := Lib.hid (fun w => isDigitV_any s[k] true (by simp; omega) w)
            clear h hcs hm
            go_wp2_with (go_at_call 72; refine (HD.out _).mono ?_; rintro e w' ⟨rfl, rfl⟩)
            all_goals first | (exfalso; omega) | (exfalso; rename_i hx; simp at hx; omega) | skip
            go_roundw
            case rel => exact ⟨k + 1, by omega, by go_num, HBR.out, HB⟩
            case measure => simp [intOf]; omega
          · have HM := Lib.hid (fun w => marks_any s[k] true (by simp; omega) w)
            have HD := Lib.hid (fun w => isDigitV_any s[k] false (by rw [Bool.eq_false_iff]; intro h; simp at h; omega) w)
            go_wp2_with (first | (go_at_call 72; refine (HD.out _).mono ?_; rintro e w' ⟨rfl, rfl⟩) | (go_at_call 73; refine (HM.out _).mono ?_; rintro e w' ⟨rfl, rfl⟩))
            all_goals first | (exfalso; omega) | (exfalso; rename_i hx; simp at hx; omega) | skip
            all_goals
              go_roundw
              case rel => exact ⟨k + 1, by omega, by go_num, HBR.out.alloc hlr _, HB⟩
              case measure => simp [intOf]; omega
    · obtain rfl : k = s.size := by omega
      clear hb
      have HE : Hid (mayB verByte s = (decide (1 ≤ s.size) && decide (s.size ≤ 64))) := mayB_end HA.out
      by_cases h1 : 1 ≤ s.size
      · have HE2 : Hid (mayB verByte s = decide (s.size ≤ 64)) := by show _ = _; rw [HE.out, decide_eq_true h1]; rfl
        clear HE
        by_cases h2 : s.size ≤ 64
        · have HE3 : Hid (mayB verByte s = true) := by show _ = _; rw [HE2.out, decide_eq_true h2]
          clear HE2
          go_wp2
          all_goals first | (exfalso; omega) | (exfalso; rename_i hx; simp at hx; omega) | (go_ret; exact ⟨ret_bool (by rw [HE3.out] <;> (try simp) <;> (try omega)), HB0.out.trans (HBR.out.mono (Nat.le_of_lt hlw))⟩)
        · have HE3 : Hid (mayB verByte s = false) := by show _ = _; rw [HE2.out, decide_eq_false h2]
          clear HE2
          go_wp2
          all_goals first | (exfalso; omega) | (exfalso; rename_i hx; simp at hx; omega) | (go_ret; exact ⟨ret_bool (by rw [HE3.out] <;> (try simp) <;> (try omega)), HB0.out.trans (HBR.out.mono (Nat.le_of_lt hlw))⟩)
      · have HE3 : Hid (mayB verByte s = false) := by show _ = _; rw [HE.out, decide_eq_false h1]; rfl
        clear HE
        go_wp2
        all_goals first | (exfalso; omega) | (exfalso; rename_i hx; simp at hx; omega) | (go_ret; exact ⟨ret_bool (by rw [HE3.out] <;> (try simp) <;> (try omega)), HB0.out.trans (HBR.out.mono (Nat.le_of_lt hlw))⟩)

end Go.Proofs.YtecffghcpknmjaaGreatDoor
