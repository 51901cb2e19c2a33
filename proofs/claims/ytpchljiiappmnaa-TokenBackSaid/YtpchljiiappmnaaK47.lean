/- The walk of the program's Escape; its conditions stand in the theorem. -/
import Derived.Test.YtpchljiiappmnaaK46
import Derived.Test.YtpchljiiappmnaaK36
import Derived.Laws.IdiomStrings
namespace Go.Proofs.Ytpchljiiappmnaa
open Go Go.RowKit

/-- The world behind a text's conversion to bytes, and the capacity. -/
def bytesC (w : World) (s : S) : Nat := grownCap w s.size 0 5
def bytesW (w : World) (s : S) : World := w.drew.alloc (.cells (bytesRow s (bytesC w s)) 5 ((bytesRow s (bytesC w s)).size, (bytesRow s (bytesC w s)).size + 1))
theorem conv_bytes (w : World) (s : S) : (convert 9 47 (.string s)).run Try.prog w = .ok (.slice (some ⟨w.heap.size, 0, none⟩) s.size (bytesC w s)) (bytesW w s) :=
  run_bytes_of_string w 9 47 5 s Try.underlying9 Try.underlying47 Try.underlying5
theorem bytesW_below (w : World) (s : S) (B : Nat) (hB : B ≤ w.heap.size) : Below B w (bytesW w s) := (belowN (Below.refl _ _) 1).alloc hB _
theorem bytesW_size (w : World) (s : S) : (bytesW w s).heap.size = w.heap.size + 1 := by show (w.heap.push _).size = _; simp
theorem bytesW_cell (w : World) (s : S) (j : Nat) (h : j < s.size) : (bytesW w s).cell? ⟨w.heap.size, j, none⟩ = some (.int .u8 (s[j].toNat : Nat)) := by
  have hh : (bytesW w s).heap[w.heap.size]? = some (.cells (bytesRow s (bytesC w s)) 5 ((bytesRow s (bytesC w s)).size, (bytesRow s (bytesC w s)).size + 1)) := by
    show (w.heap.push _)[w.heap.size]? = _
    simp
  have hs : j < s.data.size := h
  simp only [World.cell?, hh]
  unfold bytesRow
  rw [Array.getElem?_append_left (by simpa using hs), Array.getElem?_map, Array.getElem?_eq_getElem hs]
  rfl

theorem byte_38 (c : UInt8) : (((c.toNat : Nat) : Int) == 38) = decide (c = 38) := by
  have h : ∀ n : Fin 256, ((((UInt8.ofNat n).toNat : Nat) : Int) == 38) = decide (UInt8.ofNat n = 38) := by decide +kernel
  have := h ⟨c.toNat, c.toNat_lt⟩
  simpa only [UInt8.ofNat_toNat] using this
theorem byte_60 (c : UInt8) : (((c.toNat : Nat) : Int) == 60) = decide (c = 60) := by
  have h : ∀ n : Fin 256, ((((UInt8.ofNat n).toNat : Nat) : Int) == 60) = decide (UInt8.ofNat n = 60) := by decide +kernel
  have := h ⟨c.toNat, c.toNat_lt⟩
  simpa only [UInt8.ofNat_toNat] using this
theorem byte_62 (c : UInt8) : (((c.toNat : Nat) : Int) == 62) = decide (c = 62) := by
  have h : ∀ n : Fin 256, ((((UInt8.ofNat n).toNat : Nat) : Int) == 62) = decide (UInt8.ofNat n = 62) := by decide +kernel
  have := h ⟨c.toNat, c.toNat_lt⟩
  simpa only [UInt8.ofNat_toNat] using this
theorem byte_13 (c : UInt8) : (((c.toNat : Nat) : Int) == 13) = decide (c = 13) := by
  have h : ∀ n : Fin 256, ((((UInt8.ofNat n).toNat : Nat) : Int) == 13) = decide (UInt8.ofNat n = 13) := by decide +kernel
  have := h ⟨c.toNat, c.toNat_lt⟩
  simpa only [UInt8.ofNat_toNat] using this
theorem byte_34 (c : UInt8) : (((c.toNat : Nat) : Int) == 34) = decide (c = 34) := by
  have h : ∀ n : Fin 256, ((((UInt8.ofNat n).toNat : Nat) : Int) == 34) = decide (UInt8.ofNat n = 34) := by decide +kernel
  have := h ⟨c.toNat, c.toNat_lt⟩
  simpa only [UInt8.ofNat_toNat] using this
theorem byte_9 (c : UInt8) : (((c.toNat : Nat) : Int) == 9) = decide (c = 9) := by
  have h : ∀ n : Fin 256, ((((UInt8.ofNat n).toNat : Nat) : Int) == 9) = decide (UInt8.ofNat n = 9) := by decide +kernel
  have := h ⟨c.toNat, c.toNat_lt⟩
  simpa only [UInt8.ofNat_toNat] using this
theorem byte_10 (c : UInt8) : (((c.toNat : Nat) : Int) == 10) = decide (c = 10) := by
  have h : ∀ n : Fin 256, ((((UInt8.ofNat n).toNat : Nat) : Int) == 10) = decide (UInt8.ofNat n = 10) := by decide +kernel
  have := h ⟨c.toNat, c.toNat_lt⟩
  simpa only [UInt8.ofNat_toNat] using this

theorem size_lit (l : Array UInt8) : (⟨l⟩ : S).size = l.size := rfl
/-- One letter of Escape's, in the builder. -/
theorem esc_cells {attr : Bool} {s : S} {k : Nat} (hlt : k < s.size) {X : Bs} (hx : escC attr s[k] = X) : Lib.byteCells (esc attr (s.data.toList.take k)) ++ Lib.strCells (bs X) = Lib.byteCells (esc attr (s.data.toList.take (k + 1))) := by
  rw [take_byte s k hlt, esc_snoc, hx, byteCells_app]
theorem esc_cell1 {attr : Bool} {s : S} {k : Nat} (hlt : k < s.size) (hx : escC attr s[k] = [s[k]]) : Lib.byteCells (esc attr (s.data.toList.take k)) ++ [.int .u8 (s[k].toNat : Nat)] = Lib.byteCells (esc attr (s.data.toList.take (k + 1))) := by
  rw [take_byte s k hlt, esc_snoc, hx, byteCells_snoc]
theorem esc_clen (attr : Bool) (s : S) (k : Nat) (hs : s.size ≤ 1000000000) : (Lib.byteCells (esc attr (s.data.toList.take k))).length ≤ 6000000000 := by
  have := (esc_len attr (s.data.toList.take k)).2
  rw [List.length_take, size_data] at this
  simp [Lib.byteCells]; omega

set_option maxRecDepth 100000 in
set_option maxHeartbeats 8000000 in
theorem escape_false (s : S) (w : World) (hs : s.size ≤ 1000000000) :
    Calls Try.prog 61 #[.string s, .bool false] w fun e w' => e = .returned (.string (bs (esc false s.data.toList))) ∧ Below w.heap.size w w' := by
  have hcv := fun (w : World) => conv_bytes w s
  go_enter Try.func61, Try.ntmps61
  go_wp2_with fail
  clear hcv
  refine wp_world ?_
  intro W hW
  have hfr := Bld.fresh w (bytesW (w.alloc (.cells #[.pointer none, .slice none 0 0] 87)) s) (bytesW_below _ s _ (by simp))
  have hcells := fun j h => bytesW_cell (w.alloc (.cells #[.pointer none, .slice none 0 0] 87)) s j h
  have hbel : Below w.heap.size w (bytesW (w.alloc (.cells #[.pointer none, .slice none 0 0] 87)) s) := ((Below.refl _ _).alloc (Nat.le_refl _) _).trans (bytesW_below _ s _ (by simp))
  have hsz := bytesW_size (w.alloc (.cells #[.pointer none, .slice none 0 0] 87)) s
  rw [← hW] at hfr hcells hbel hsz
  have hsz' : W.heap.size = w.heap.size + 2 := by simpa using hsz
  have hcells' : ∀ j, (h : j < s.size) → W.cell? ⟨w.heap.size + 1, j, none⟩ = some (.int .u8 (s[j].toNat : Nat)) := fun j h => by simpa using hcells j h
  have HFR := Lib.hid hfr
  have HCE := Lib.hid hcells'
  have HBE := Lib.hid hbel
  have HSZ := Lib.hid hsz'
  clear hW hfr hcells hbel hsz hsz' hcells'
  go_loopw [11] (fun i wr => ∃ k : Nat, k ≤ s.size ∧ i = .int .i64 k ∧ Bld W.heap.size w.heap.size (Lib.byteCells (esc false (s.data.toList.take k))) wr ∧ Kept W.heap.size w.heap.size W wr) (fun i _ => s.size - (intOf i).toNat)
  case atStart => exact ⟨0, Nat.zero_le _, rfl, HFR.out, Kept.refl _ _ _⟩
  case round =>
    obtain ⟨k, hk, rfl, hB, hK⟩ := hrel
    have HB := Lib.hid hB
    have HK := Lib.hid hK
    have hwr := hK.size
    by_cases hlt : k < s.size
    · have c1 := (hK.cell (g := w.heap.size + 1) (o := k) (by rw [HSZ.out]; omega) (by omega)).trans (HCE.out k hlt)
      have hg1 : w.heap.size + 1 < wr.heap.size := by have := HSZ.out; omega
      have hi1 : (k : Int) < (s.size : Int) := by omega
      have hlen := esc_clen false s k hs
      have e38 := byte_38 s[k]
      have e60 := byte_60 s[k]
      have e62 := byte_62 s[k]
      have e13 := byte_13 s[k]
      have e34 := byte_34 s[k]
      have e9 := byte_9 s[k]
      have e10 := byte_10 s[k]
      clear hB hK
      go_wp2_with fail
      rotate_right 1
      · refine (writeByte_bld W.heap.size w.heap.size _ _ wr HB.out (by omega)).mono ?_
        rintro e w4 ⟨rfl, hB4, hK4⟩
        have HB4 := Lib.hid hB4
        have HK4 := Lib.hid (HK.out.trans hK4)
        clear hB4 hK4 c1 hg1 e38 e60 e62 e13 e34 e9 e10
        go_wp2
        go_round
        case rel => exact ⟨k + 1, hlt, by go_num, by rw [← esc_cell1 hlt (by simp_all [escC])]; exact HB4.out, HK4.out⟩
        case measure => simp [intOf]; omega
      all_goals
        refine (writeString_bld W.heap.size w.heap.size _ _ wr HB.out (by rw [size_lit]; simp; omega)).mono ?_
        rintro e w4 ⟨rfl, hB4, hK4⟩
        have HB4 := Lib.hid hB4
        have HK4 := Lib.hid (HK.out.trans hK4)
        clear hB4 hK4 c1 hg1 e38 e60 e62 e13 e34 e9 e10
        go_wp2
        go_round
        case rel =>
          refine ⟨k + 1, hlt, by go_num, ?_, HK4.out⟩
          first
            | (rw [← esc_cells (X := [38, 97, 109, 112, 59]) hlt (by simp_all [escC])]; exact HB4.out)
            | (rw [← esc_cells (X := [38, 108, 116, 59]) hlt (by simp_all [escC])]; exact HB4.out)
            | (rw [← esc_cells (X := [38, 103, 116, 59]) hlt (by simp_all [escC])]; exact HB4.out)
            | (rw [← esc_cells (X := [38, 35, 49, 51, 59]) hlt (by simp_all [escC])]; exact HB4.out)
            | (rw [← esc_cells (X := [38, 113, 117, 111, 116, 59]) hlt (by simp_all [escC])]; exact HB4.out)
            | (rw [← esc_cells (X := [38, 35, 57, 59]) hlt (by simp_all [escC])]; exact HB4.out)
            | (rw [← esc_cells (X := [38, 35, 49, 48, 59]) hlt (by simp_all [escC])]; exact HB4.out)
        case measure => simp [intOf]; omega
    · obtain rfl : k = s.size := by omega
      have hi1 : ¬ (s.size : Int) < (s.size : Int) := by omega
      have hO : s.data.toList.take s.size = s.data.toList := List.take_of_length_le (by rw [size_data]; exact Nat.le_refl _)
      rw [hO] at HB
      clear hB hK hO
      go_wp2_with fail
      refine (Try.Builder_String_any w.heap.size w.heap.size (esc false s.data.toList) wr (HB.out.isB _ (by rw [HSZ.out]; omega) (Nat.le_refl _)) (by have := HSZ.out; omega)).mono ?_
      rintro e w2 ⟨rfl, hb2⟩
      have HZ := Lib.hid ((HBE.out.trans (HK.out.below (by rw [HSZ.out]; omega) (Nat.le_refl _))).trans hb2)
      clear hb2
      go_wp2
      go_ret
      exact ⟨rfl, HZ.out⟩

set_option maxRecDepth 100000 in
set_option maxHeartbeats 8000000 in
theorem escape_true (s : S) (w : World) (hs : s.size ≤ 1000000000) :
    Calls Try.prog 61 #[.string s, .bool true] w fun e w' => e = .returned (.string (bs (esc true s.data.toList))) ∧ Below w.heap.size w w' := by
  have hcv := fun (w : World) => conv_bytes w s
  go_enter Try.func61, Try.ntmps61
  go_wp2_with fail
  clear hcv
  refine wp_world ?_
  intro W hW
  have hfr := Bld.fresh w (bytesW (w.alloc (.cells #[.pointer none, .slice none 0 0] 87)) s) (bytesW_below _ s _ (by simp))
  have hcells := fun j h => bytesW_cell (w.alloc (.cells #[.pointer none, .slice none 0 0] 87)) s j h
  have hbel : Below w.heap.size w (bytesW (w.alloc (.cells #[.pointer none, .slice none 0 0] 87)) s) := ((Below.refl _ _).alloc (Nat.le_refl _) _).trans (bytesW_below _ s _ (by simp))
  have hsz := bytesW_size (w.alloc (.cells #[.pointer none, .slice none 0 0] 87)) s
  rw [← hW] at hfr hcells hbel hsz
  have hsz' : W.heap.size = w.heap.size + 2 := by simpa using hsz
  have hcells' : ∀ j, (h : j < s.size) → W.cell? ⟨w.heap.size + 1, j, none⟩ = some (.int .u8 (s[j].toNat : Nat)) := fun j h => by simpa using hcells j h
  have HFR := Lib.hid hfr
  have HCE := Lib.hid hcells'
  have HBE := Lib.hid hbel
  have HSZ := Lib.hid hsz'
  clear hW hfr hcells hbel hsz hsz' hcells'
  go_loopw [11] (fun i wr => ∃ k : Nat, k ≤ s.size ∧ i = .int .i64 k ∧ Bld W.heap.size w.heap.size (Lib.byteCells (esc true (s.data.toList.take k))) wr ∧ Kept W.heap.size w.heap.size W wr) (fun i _ => s.size - (intOf i).toNat)
  case atStart => exact ⟨0, Nat.zero_le _, rfl, HFR.out, Kept.refl _ _ _⟩
  case round =>
    obtain ⟨k, hk, rfl, hB, hK⟩ := hrel
    have HB := Lib.hid hB
    have HK := Lib.hid hK
    have hwr := hK.size
    by_cases hlt : k < s.size
    · have c1 := (hK.cell (g := w.heap.size + 1) (o := k) (by rw [HSZ.out]; omega) (by omega)).trans (HCE.out k hlt)
      have hg1 : w.heap.size + 1 < wr.heap.size := by have := HSZ.out; omega
      have hi1 : (k : Int) < (s.size : Int) := by omega
      have hlen := esc_clen true s k hs
      have e38 := byte_38 s[k]
      have e60 := byte_60 s[k]
      have e62 := byte_62 s[k]
      have e13 := byte_13 s[k]
      have e34 := byte_34 s[k]
      have e9 := byte_9 s[k]
      have e10 := byte_10 s[k]
      clear hB hK
      go_wp2_with fail
      rotate_right 1
      · refine (writeByte_bld W.heap.size w.heap.size _ _ wr HB.out (by omega)).mono ?_
        rintro e w4 ⟨rfl, hB4, hK4⟩
        have HB4 := Lib.hid hB4
        have HK4 := Lib.hid (HK.out.trans hK4)
        clear hB4 hK4 c1 hg1 e38 e60 e62 e13 e34 e9 e10
        go_wp2
        go_round
        case rel => exact ⟨k + 1, hlt, by go_num, by rw [← esc_cell1 hlt (by simp_all [escC])]; exact HB4.out, HK4.out⟩
        case measure => simp [intOf]; omega
      all_goals
        refine (writeString_bld W.heap.size w.heap.size _ _ wr HB.out (by rw [size_lit]; simp; omega)).mono ?_
        rintro e w4 ⟨rfl, hB4, hK4⟩
        have HB4 := Lib.hid hB4
        have HK4 := Lib.hid (HK.out.trans hK4)
        clear hB4 hK4 c1 hg1 e38 e60 e62 e13 e34 e9 e10
        go_wp2
        go_round
        case rel =>
          refine ⟨k + 1, hlt, by go_num, ?_, HK4.out⟩
          first
            | (rw [← esc_cells (X := [38, 97, 109, 112, 59]) hlt (by simp_all [escC])]; exact HB4.out)
            | (rw [← esc_cells (X := [38, 108, 116, 59]) hlt (by simp_all [escC])]; exact HB4.out)
            | (rw [← esc_cells (X := [38, 103, 116, 59]) hlt (by simp_all [escC])]; exact HB4.out)
            | (rw [← esc_cells (X := [38, 35, 49, 51, 59]) hlt (by simp_all [escC])]; exact HB4.out)
            | (rw [← esc_cells (X := [38, 113, 117, 111, 116, 59]) hlt (by simp_all [escC])]; exact HB4.out)
            | (rw [← esc_cells (X := [38, 35, 57, 59]) hlt (by simp_all [escC])]; exact HB4.out)
            | (rw [← esc_cells (X := [38, 35, 49, 48, 59]) hlt (by simp_all [escC])]; exact HB4.out)
        case measure => simp [intOf]; omega
    · obtain rfl : k = s.size := by omega
      have hi1 : ¬ (s.size : Int) < (s.size : Int) := by omega
      have hO : s.data.toList.take s.size = s.data.toList := List.take_of_length_le (by rw [size_data]; exact Nat.le_refl _)
      rw [hO] at HB
      clear hB hK hO
      go_wp2_with fail
      refine (Try.Builder_String_any w.heap.size w.heap.size (esc true s.data.toList) wr (HB.out.isB _ (by rw [HSZ.out]; omega) (Nat.le_refl _)) (by have := HSZ.out; omega)).mono ?_
      rintro e w2 ⟨rfl, hb2⟩
      have HZ := Lib.hid ((HBE.out.trans (HK.out.below (by rw [HSZ.out]; omega) (Nat.le_refl _))).trans hb2)
      clear hb2
      go_wp2
      go_ret
      exact ⟨rfl, HZ.out⟩

theorem escape_any (s : S) (attr : Bool) (w : World) (hs : s.size ≤ 1000000000) :
    Calls Try.prog 61 #[.string s, .bool attr] w fun e w' => e = .returned (.string (bs (esc attr s.data.toList))) ∧ Below w.heap.size w w' := by
  cases attr
  · exact escape_false s w hs
  · exact escape_true s w hs

end Go.Proofs.Ytpchljiiappmnaa
