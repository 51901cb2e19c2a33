/- The walk of the program's Escape; its conditions stand in the theorem. -/
import Derived.Test.YtbbbfjcikhpmbaaGreatJD08
import Derived.Laws.IdiomStrings
import Derived.Test.YtbbbfjcikhpmbaaGreatJD06
import Derived.Deep.RegionHeld3
namespace Go.Proofs.YtbbbfjcikhpmbaaGreat
open Go Go.RowKit

/-- The world behind a text's conversion to bytes, and the capacity. -/
def bytesC (w : World) (s : S) : Nat := grownCap w s.size 0 5
def bytesW (w : World) (s : S) : World := w.drew.alloc (.cells (bytesRow s (bytesC w s)) 5 ((bytesRow s (bytesC w s)).size, (bytesRow s (bytesC w s)).size + 1))
theorem conv_bytes (w : World) (s : S) : (convert 9 106 (.string s)).run Tryz.prog w = .ok (.slice (some ⟨w.heap.size, 0, none⟩) s.size (bytesC w s)) (bytesW w s) :=
 run_bytes_of_string w 9 106 5 s Tryz.underlying9 Tryz.underlying106 Tryz.underlying5
theorem bytesW_below (w : World) (s : S) (B : Nat) (hB : B ≤ w.heap.size) : Below B w (bytesW w s) := (belowN (Below.refl _ _) 1).alloc hB _
theorem bytesW_size (w : World) (s : S) : (bytesW w s).heap.size = w.heap.size + 1 := by show (w.heap.push _).size = _; simp
theorem bytesW_cell (w : World) (s : S) (j : Nat) (h : j < s.size) : (bytesW w s).cell? ⟨w.heap.size, j, none⟩ = some (.int .u8 (s[j].toNat : Nat)) := by
 have hh : (bytesW w s).heap[w.heap.size]? = some (.cells (bytesRow s (bytesC w s)) 5 ((bytesRow s (bytesC w s)).size, (bytesRow s (bytesC w s)).size + 1)) := by
  show (w.heap.push _)[w.heap.size]? = _
  simp
 have hs : j < s.data.size := h
 simp only [World.cell?, hh]
 unfold bytesRow
 rw [Array.getElem?_append_left (by simpa using hs), Array.getElem?_map, Array.getElem?_eq_getElem hs]
 rfl
theorem byte_38 (c : UInt8) : (((c.toNat : Nat) : Int) == 38) = decide (c = 38) := by
 have h : ∀ n : Fin 256, ((((UInt8.ofNat n).toNat : Nat) : Int) == 38) = decide (UInt8.ofNat n = 38) := by decide +kernel
 have := h ⟨c.toNat, c.toNat_lt⟩
 simpa only [UInt8.ofNat_toNat] using this
theorem byte_60 (c : UInt8) : (((c.toNat : Nat) : Int) == 60) = decide (c = 60) := by
 have h : ∀ n : Fin 256, ((((UInt8.ofNat n).toNat : Nat) : Int) == 60) = decide (UInt8.ofNat n = 60) := by decide +kernel
 have := h ⟨c.toNat, c.toNat_lt⟩
 simpa only [UInt8.ofNat_toNat] using this
theorem byte_62 (c : UInt8) : (((c.toNat : Nat) : Int) == 62) = decide (c = 62) := by
 have h : ∀ n : Fin 256, ((((UInt8.ofNat n).toNat : Nat) : Int) == 62) = decide (UInt8.ofNat n = 62) := by decide +kernel
 have := h ⟨c.toNat, c.toNat_lt⟩
 simpa only [UInt8.ofNat_toNat] using this
theorem byte_13 (c : UInt8) : (((c.toNat : Nat) : Int) == 13) = decide (c = 13) := by
 have h : ∀ n : Fin 256, ((((UInt8.ofNat n).toNat : Nat) : Int) == 13) = decide (UInt8.ofNat n = 13) := by decide +kernel
 have := h ⟨c.toNat, c.toNat_lt⟩
 simpa only [UInt8.ofNat_toNat] using this
theorem byte_34 (c : UInt8) : (((c.toNat : Nat) : Int) == 34) = decide (c = 34) := by
 have h : ∀ n : Fin 256, ((((UInt8.ofNat n).toNat : Nat) : Int) == 34) = decide (UInt8.ofNat n = 34) := by decide +kernel
 have := h ⟨c.toNat, c.toNat_lt⟩
 simpa only [UInt8.ofNat_toNat] using this
theorem byte_9 (c : UInt8) : (((c.toNat : Nat) : Int) == 9) = decide (c = 9) := by
 have h : ∀ n : Fin 256, ((((UInt8.ofNat n).toNat : Nat) : Int) == 9) = decide (UInt8.ofNat n = 9) := by decide +kernel
 have := h ⟨c.toNat, c.toNat_lt⟩
 simpa only [UInt8.ofNat_toNat] using this
theorem byte_10 (c : UInt8) : (((c.toNat : Nat) : Int) == 10) = decide (c = 10) := by
 have h : ∀ n : Fin 256, ((((UInt8.ofNat n).toNat : Nat) : Int) == 10) = decide (UInt8.ofNat n = 10) := by decide +kernel
 have := h ⟨c.toNat, c.toNat_lt⟩
 simpa only [UInt8.ofNat_toNat] using this
theorem size_lit (l : Array UInt8) : (⟨l⟩ : S).size = l.size := rfl
/-- One letter of Escape's, in the builder. -/
theorem esc_cells {attr : Bool} {s : S} {k : Nat} (hlt : k < s.size) {X : Bs} (hx : escC attr s[k] = X) : Lib.byteCells (esc attr (s.data.toList.take k)) ++ Lib.strCells (bs X) = Lib.byteCells (esc attr (s.data.toList.take (k + 1))) := by
 rw [take_byte s k hlt, esc_snoc, hx, byteCells_app]
theorem esc_cell1 {attr : Bool} {s : S} {k : Nat} (hlt : k < s.size) (hx : escC attr s[k] = [s[k]]) : Lib.byteCells (esc attr (s.data.toList.take k)) ++ [.int .u8 (s[k].toNat : Nat)] = Lib.byteCells (esc attr (s.data.toList.take (k + 1))) := by
 rw [take_byte s k hlt, esc_snoc, hx, byteCells_snoc]
theorem esc_clen (attr : Bool) (s : S) (k : Nat) (hs : s.size ≤ 1000000000) : (Lib.byteCells (esc attr (s.data.toList.take k))).length ≤ 6000000000 := by
 have := (esc_len attr (s.data.toList.take k)).2
 rw [List.length_take, size_data] at this
 simp [Lib.byteCells]; omega
set_option maxRecDepth 100000 in
set_option maxHeartbeats 8000000 in
theorem escape_false (s : S) (w : World) (hs : s.size ≤ 1000000000) :
    Calls Tryz.prog 77 #[.string s, .bool false] w fun e w' => e = .returned (.string (bs (esc false s.data.toList))) ∧ Below w.heap.size w w' := by
 have hcv := fun (w : World) => conv_bytes w s
 go_enter Tryz.func77, Tryz.ntmps77
 go_wp2_with fail
 clear hcv
 refine wp_world ?_
 intro W hW
 have hfr := Bld.fresh w (bytesW (w.alloc (.cells #[.pointer none, .slice none 0 0] 109)) s) (bytesW_below _ s _ (by simp))
 have hcells := fun j h => bytesW_cell (w.alloc (.cells #[.pointer none, .slice none 0 0] 109)) s j h
 have hbel : Below w.heap.size w (bytesW (w.alloc (.cells #[.pointer none, .slice none 0 0] 109)) s) := ((Below.refl _ _).alloc (Nat.le_refl _) _).trans (bytesW_below _ s _ (by simp))
 have hsz := bytesW_size (w.alloc (.cells #[.pointer none, .slice none 0 0] 109)) s
 rw [← hW] at hfr hcells hbel hsz
 have hsz' : W.heap.size = w.heap.size + 2 := by simpa using hsz
 have hcells' : ∀ j, (h : j < s.size) → W.cell? ⟨w.heap.size + 1, j, none⟩ = some (.int .u8 (s[j].toNat : Nat)) := fun j h => by simpa using hcells j h
 have HFR := Lib.hid hfr
 have HCE := Lib.hid hcells'
 have HBE := Lib.hid hbel
 have HSZ := Lib.hid hsz'
 clear hW hfr hcells hbel hsz hsz' hcells'
 go_loopw [11] (fun i wr => ∃ k : Nat, k ≤ s.size ∧ i = .int .i64 k ∧ Bld W.heap.size w.heap.size (Lib.byteCells (esc false (s.data.toList.take k))) wr ∧ Kept W.heap.size w.heap.size W wr) (fun i _ => s.size - (intOf i).toNat)
 case atStart => exact ⟨0, Nat.zero_le _, rfl, HFR.out, Kept.refl _ _ _⟩
 case round =>
  obtain ⟨k, hk, rfl, hB, hK⟩ := hrel
  have HB := Lib.hid hB
  have HK := Lib.hid hK
  have hwr := hK.size
  by_cases hlt : k < s.size
  · have c1 := (hK.cell (g := w.heap.size + 1) (o := k) (by rw [HSZ.out]; omega) (by omega)).trans (HCE.out k hlt)
    have hg1 : w.heap.size + 1 < wr.heap.size := by have := HSZ.out; omega
    have hi1 : (k : Int) < (s.size : Int) := by omega
    have hlen := esc_clen false s k hs
    have e38 := byte_38 s[k]
    have e60 := byte_60 s[k]
    have e62 := byte_62 s[k]
    have e13 := byte_13 s[k]
    have e34 := byte_34 s[k]
    have e9 := byte_9 s[k]
    have e10 := byte_10 s[k]
    clear hB hK
    go_wp2_with fail
    rotate_right 1
    · refine (writeByte_bld W.heap.size w.heap.size _ _ wr HB.out (by omega)).mono ?_
      rintro e w4 ⟨rfl, hB4, hK4⟩
      have HB4 := Lib.hid hB4
      have HK4 := Lib.hid (HK.out.trans hK4)
      clear hB4 hK4 c1 hg1 e38 e60 e62 e13 e34 e9 e10
      go_wp2
      go_round
      case rel => exact ⟨k + 1, hlt, by go_num, by rw [← esc_cell1 hlt (by simp_all [escC])]; exact HB4.out, HK4.out⟩
      case measure => simp [intOf]; omega
    all_goals
     refine (writeString_bld W.heap.size w.heap.size _ _ wr HB.out (by rw [size_lit]; simp; omega)).mono ?_
     rintro e w4 ⟨rfl, hB4, hK4⟩
     have HB4 := Lib.hid hB4
     have HK4 := Lib.hid (HK.out.trans hK4)
     clear hB4 hK4 c1 hg1 e38 e60 e62 e13 e34 e9 e10
     go_wp2
     go_round
     case rel =>
      refine ⟨k + 1, hlt, by go_num, ?_, HK4.out⟩
      first
       | (rw [← esc_cells (X := [38, 97, 109, 112, 59]) hlt (by simp_all [escC])]; exact HB4.out)
       | (rw [← esc_cells (X := [38, 108, 116, 59]) hlt (by simp_all [escC])]; exact HB4.out)
       | (rw [← esc_cells (X := [38, 103, 116, 59]) hlt (by simp_all [escC])]; exact HB4.out)
       | (rw [← esc_cells (X := [38, 35, 49, 51, 59]) hlt (by simp_all [escC])]; exact HB4.out)
       | (rw [← esc_cells (X := [38, 113, 117, 111, 116, 59]) hlt (by simp_all [escC])]; exact HB4.out)
       | (rw [← esc_cells (X := [38, 35, 57, 59]) hlt (by simp_all [escC])]; exact HB4.out)
       | (rw [← esc_cells (X := [38, 35, 49, 48, 59]) hlt (by simp_all [escC])]; exact HB4.out)
     case measure => simp [intOf]; omega
  · obtain rfl : k = s.size := by omega
    have hi1 : ¬ (s.size : Int) < (s.size : Int) := by omega
    have hO : s.data.toList.take s.size = s.data.toList := List.take_of_length_le (by rw [size_data]; exact Nat.le_refl _)
    rw [hO] at HB
    clear hB hK hO
    go_wp2_with fail
    refine (Tryz.Builder_String_any w.heap.size w.heap.size (esc false s.data.toList) wr (HB.out.isB _ (by rw [HSZ.out]; omega) (Nat.le_refl _)) (by have := HSZ.out; omega)).mono ?_
    rintro e w2 ⟨rfl, hb2⟩
    have HZ := Lib.hid ((HBE.out.trans (HK.out.below (by rw [HSZ.out]; omega) (Nat.le_refl _))).trans hb2)
    clear hb2
    go_wp2
    go_ret
    exact ⟨rfl, HZ.out⟩
set_option maxRecDepth 100000 in
set_option maxHeartbeats 8000000 in
theorem escape_true (s : S) (w : World) (hs : s.size ≤ 1000000000) :
    Calls Tryz.prog 77 #[.string s, .bool true] w fun e w' => e = .returned (.string (bs (esc true s.data.toList))) ∧ Below w.heap.size w w' := by
 have hcv := fun (w : World) => conv_bytes w s
 go_enter Tryz.func77, Tryz.ntmps77
 go_wp2_with fail
 clear hcv
 refine wp_world ?_
 intro W hW
 have hfr := Bld.fresh w (bytesW (w.alloc (.cells #[.pointer none, .slice none 0 0] 109)) s) (bytesW_below _ s _ (by simp))
 have hcells := fun j h => bytesW_cell (w.alloc (.cells #[.pointer none, .slice none 0 0] 109)) s j h
 have hbel : Below w.heap.size w (bytesW (w.alloc (.cells #[.pointer none, .slice none 0 0] 109)) s) := ((Below.refl _ _).alloc (Nat.le_refl _) _).trans (bytesW_below _ s _ (by simp))
 have hsz := bytesW_size (w.alloc (.cells #[.pointer none, .slice none 0 0] 109)) s
 rw [← hW] at hfr hcells hbel hsz
 have hsz' : W.heap.size = w.heap.size + 2 := by simpa using hsz
 have hcells' : ∀ j, (h : j < s.size) → W.cell? ⟨w.heap.size + 1, j, none⟩ = some (.int .u8 (s[j].toNat : Nat)) := fun j h => by simpa using hcells j h
 have HFR := Lib.hid hfr
 have HCE := Lib.hid hcells'
 have HBE := Lib.hid hbel
 have HSZ := Lib.hid hsz'
 clear hW hfr hcells hbel hsz hsz' hcells'
 go_loopw [11] (fun i wr => ∃ k : Nat, k ≤ s.size ∧ i = .int .i64 k ∧ Bld W.heap.size w.heap.size (Lib.byteCells (esc true (s.data.toList.take k))) wr ∧ Kept W.heap.size w.heap.size W wr) (fun i _ => s.size - (intOf i).toNat)
 case atStart => exact ⟨0, Nat.zero_le _, rfl, HFR.out, Kept.refl _ _ _⟩
 case round =>
  obtain ⟨k, hk, rfl, hB, hK⟩ := hrel
  have HB := Lib.hid hB
  have HK := Lib.hid hK
  have hwr := hK.size
  by_cases hlt : k < s.size
  · have c1 := (hK.cell (g := w.heap.size + 1) (o := k) (by rw [HSZ.out]; omega) (by omega)).trans (HCE.out k hlt)
    have hg1 : w.heap.size + 1 < wr.heap.size := by have := HSZ.out; omega
    have hi1 : (k : Int) < (s.size : Int) := by omega
    have hlen := esc_clen true s k hs
    have e38 := byte_38 s[k]
    have e60 := byte_60 s[k]
    have e62 := byte_62 s[k]
    have e13 := byte_13 s[k]
    have e34 := byte_34 s[k]
    have e9 := byte_9 s[k]
    have e10 := byte_10 s[k]
    clear hB hK
    go_wp2_with fail
    rotate_right 1
    · refine (writeByte_bld W.heap.size w.heap.size _ _ wr HB.out (by omega)).mono ?_
      rintro e w4 ⟨rfl, hB4, hK4⟩
      have HB4 := Lib.hid hB4
      have HK4 := Lib.hid (HK.out.trans hK4)
      clear hB4 hK4 c1 hg1 e38 e60 e62 e13 e34 e9 e10
      go_wp2
      go_round
      case rel => exact ⟨k + 1, hlt, by go_num, by rw [← esc_cell1 hlt (by simp_all [escC])]; exact HB4.out, HK4.out⟩
      case measure => simp [intOf]; omega
    all_goals
     refine (writeString_bld W.heap.size w.heap.size _ _ wr HB.out (by rw [size_lit]; simp; omega)).mono ?_
     rintro e w4 ⟨rfl, hB4, hK4⟩
     have HB4 := Lib.hid hB4
     have HK4 := Lib.hid (HK.out.trans hK4)
     clear hB4 hK4 c1 hg1 e38 e60 e62 e13 e34 e9 e10
     go_wp2
     go_round
     case rel =>
      refine ⟨k + 1, hlt, by go_num, ?_, HK4.out⟩
      first
       | (rw [← esc_cells (X := [38, 97, 109, 112, 59]) hlt (by simp_all [escC])]; exact HB4.out)
       | (rw [← esc_cells (X := [38, 108, 116, 59]) hlt (by simp_all [escC])]; exact HB4.out)
       | (rw [← esc_cells (X := [38, 103, 116, 59]) hlt (by simp_all [escC])]; exact HB4.out)
       | (rw [← esc_cells (X := [38, 35, 49, 51, 59]) hlt (by simp_all [escC])]; exact HB4.out)
       | (rw [← esc_cells (X := [38, 113, 117, 111, 116, 59]) hlt (by simp_all [escC])]; exact HB4.out)
       | (rw [← esc_cells (X := [38, 35, 57, 59]) hlt (by simp_all [escC])]; exact HB4.out)
       | (rw [← esc_cells (X := [38, 35, 49, 48, 59]) hlt (by simp_all [escC])]; exact HB4.out)
     case measure => simp [intOf]; omega
  · obtain rfl : k = s.size := by omega
    have hi1 : ¬ (s.size : Int) < (s.size : Int) := by omega
    have hO : s.data.toList.take s.size = s.data.toList := List.take_of_length_le (by rw [size_data]; exact Nat.le_refl _)
    rw [hO] at HB
    clear hB hK hO
    go_wp2_with fail
    refine (Tryz.Builder_String_any w.heap.size w.heap.size (esc true s.data.toList) wr (HB.out.isB _ (by rw [HSZ.out]; omega) (Nat.le_refl _)) (by have := HSZ.out; omega)).mono ?_
    rintro e w2 ⟨rfl, hb2⟩
    have HZ := Lib.hid ((HBE.out.trans (HK.out.below (by rw [HSZ.out]; omega) (Nat.le_refl _))).trans hb2)
    clear hb2
    go_wp2
    go_ret
    exact ⟨rfl, HZ.out⟩
theorem escape_any (s : S) (attr : Bool) (w : World) (hs : s.size ≤ 1000000000) :
    Calls Tryz.prog 77 #[.string s, .bool attr] w fun e w' => e = .returned (.string (bs (esc attr s.data.toList))) ∧ Below w.heap.size w w' := by
 cases attr
 · exact escape_false s w hs
 · exact escape_true s w hs

end Go.Proofs.YtbbbfjcikhpmbaaGreat

/- Plain law: an error in a tag, a value or a text stays the error whatever stands behind it; no program in sight. -/

namespace Go.Proofs.YtbbbfjcikhpmbaaGreat
open Go Go.RowKit

/-! What stands up to an end. -/
theorem pre_app {p u : Bs} (h : p.length ≤ u.length) (x : Bs) : p.isPrefixOf (u ++ x) = p.isPrefixOf u := by
 induction p generalizing u with
 | nil => cases u <;> simp [List.isPrefixOf]
 | cons a p ih =>
  cases u with
  | nil => simp at h
  | cons c u => simp only [List.cons_append, List.isPrefixOf]; rw [ih (by simpa using h)]
theorem numRef_min {hex : Bool} {a n : Nat} {l t : Bs} (h : numRef hex a l = .ok t n) : a + 2 ≤ n := by
 unfold numRef at h
 split at h
 · cases h
 split at h
 · cases h
 split at h
 · cases h
 rename_i h3
 split at h
 · simp only [not_or] at h3
   cases h; omega
 · cases h
/-- What stands behind an attribute's name. -/
def restR (nm : Bs) (r : Bs) : Res At2 := (wantC 61 (blanks r)).bind fun _ r' => (valueR (blanks r')).map fun v => (nm, v)
theorem attrR_eq (acc : List At2) (l : Bs) : attrR acc l = (nameR 10 l).bind fun nm r => if acc.any (fun a => a.1 == nm) then .bad 15 l else restR nm r := rfl
/-- What stands behind a tag's attributes. -/
def endR (nm : Bs) (ats : List At2) (r' : Bs) : Res Tk := match r' with
 | 47 :: r'' => (wantC 62 r'').map fun _ => ⟨2, nm, ats, []⟩
 | _ => (wantC 62 r').map fun _ => ⟨1, nm, ats, []⟩
theorem endR_47 (nm : Bs) (ats : List At2) (r : Bs) : endR nm ats (47 :: r) = (wantC 62 r).map fun _ => ⟨2, nm, ats, []⟩ := rfl
theorem endR_no (nm : Bs) (ats : List At2) {c : UInt8} (r : Bs) (h : c ≠ 47) : endR nm ats (c :: r) = (wantC 62 (c :: r)).map fun _ => ⟨1, nm, ats, []⟩ := by
 unfold endR
 split
 · rename_i h1; cases h1; exact absurd rfl h
 · rfl
theorem openR_eq (l : Bs) : openR l = (nameR 11 l).bind fun nm r => (attrsR r).bind fun ats r' => endR nm ats r' := rfl
theorem tokS_47 (first : Bool) (l : Bs) : tokenR first (60 :: 47 :: l) = closeR l := by
 have h1 : sNote.isPrefixOf (60 :: 47 :: l) = false := by simp [sNote, List.isPrefixOf]
 have h2 : sData.isPrefixOf (60 :: 47 :: l) = false := by simp [sData, List.isPrefixOf]
 have h3 : isHead (60 :: 47 :: l) = false := by simp [isHead, sHead, List.isPrefixOf]
 unfold tokenR
 rw [h1, h2, h3]
 simp
theorem tokS_open (first : Bool) {c : UInt8} (l : Bs) (h33 : c ≠ 33) (h63 : c ≠ 63) (h47 : c ≠ 47) : tokenR first (60 :: c :: l) = openR (c :: l) := by
 have h1 : sNote.isPrefixOf (60 :: c :: l) = false := by simp [sNote, List.isPrefixOf, Ne.symm h33]
 have h2 : sData.isPrefixOf (60 :: c :: l) = false := by simp [sData, List.isPrefixOf, Ne.symm h33]
 have h3 : isHead (60 :: c :: l) = false := by simp [isHead, sHead, List.isPrefixOf, Ne.symm h63]
 unfold tokenR
 rw [h1, h2, h3]
 simp only [Bool.false_eq_true, if_false, Bool.and_false]
 split
 · rename_i e; cases e; exact absurd rfl h47
 · rename_i e; cases e; rfl
 · rename_i h4; exact absurd rfl (h4 _)

end Go.Proofs.YtbbbfjcikhpmbaaGreat

/- Plain law: a tag of any names and values is read as these; no program in sight. -/

namespace Go.Proofs.YtbbbfjcikhpmbaaGreat
open Go Go.RowKit

/-- A name and a value as the law asks for them. -/
structure GoodA (a : At2) : Prop where
 name : nameLen a.1 = a.1.length
 ne : a.1 ≠ []
 text : ∀ c ∈ a.2, cText c = true
/-- One attribute's text, in either quotes. -/
def attT (q : Bool) (a : At2) : Bs := if q then 10 :: (a.1 ++ (32 :: 61 :: 9 :: 39 :: (aposR (esc true a.2) ++ [39]))) else 32 :: (a.1 ++ (61 :: 34 :: (esc true a.2 ++ [34])))
theorem span_all {p : UInt8 → Bool} {n : Bs} (h : span p n = n.length) {c : UInt8} (hc : p c = false) (r : Bs) : span p (n ++ c :: r) = n.length := by
 induction n with
 | nil => simp [span, hc]
 | cons x n ih =>
  simp only [span] at h
  by_cases hx : p x = true
  · rw [if_pos hx] at h
    simp only [List.cons_append, span]
    rw [if_pos hx, ih (by simpa using h)]; rfl
  · rw [if_neg hx] at h; simp at h
theorem name_all {n : Bs} (h : nameLen n = n.length) (hne : n ≠ []) {c : UInt8} (hc : cName c = false) (r : Bs) : nameLen (n ++ c :: r) = n.length := by
 cases n with
 | nil => exact absurd rfl hne
 | cons x n =>
  simp only [List.cons_append, nameLen] at h ⊢
  by_cases hx : cFirst x = true
  · rw [if_pos hx] at h ⊢
    exact span_all (n := x :: n) h hc r
  · rw [if_neg hx] at h; simp at h
theorem name_first {n : Bs} (h : nameLen n = n.length) (hne : n ≠ []) : ∃ c r, n = c :: r ∧ cFirst c = true := by
 cases n with
 | nil => exact absurd rfl hne
 | cons x n =>
  simp only [nameLen] at h
  by_cases hx : cFirst x = true
  · exact ⟨x, n, rfl, hx⟩
  · rw [if_neg hx] at h; simp at h
theorem nameR_all {e : Int} {n : Bs} (h : nameLen n = n.length) (hne : n ≠ []) {c : UInt8} (hc : cName c = false) (r : Bs) : nameR e (n ++ c :: r) = .ok n (c :: r) := by
 have h1 := name_all h hne hc r
 obtain ⟨x, m, rfl, -⟩ := name_first h hne
 simp only [List.cons_append, nameR] at h1 ⊢
 rw [if_neg (by rw [h1]; simp), h1]
 congr 1
 · show ((x :: m) ++ c :: r).take _ = _; rw [List.take_left]
 · show ((x :: m) ++ c :: r).drop _ = _; rw [List.drop_left]
theorem first_blank {c : UInt8} (h : cFirst c = true) : cBlank c = false ∧ c ≠ 47 ∧ c ≠ 62 ∧ c ≠ 33 ∧ c ≠ 63 := by
 have h2 : ∀ n : Fin 256, cFirst (UInt8.ofNat n) = true → cBlank (UInt8.ofNat n) = false ∧ UInt8.ofNat n ≠ 47 ∧ UInt8.ofNat n ≠ 62 ∧ UInt8.ofNat n ≠ 33 ∧ UInt8.ofNat n ≠ 63 := by decide +kernel
 have := h2 ⟨c.toNat, c.toNat_lt⟩
 simp only [UInt8.ofNat_toNat] at this
 exact this h
theorem valueR_q {q : UInt8} (hq : q = 34 ∨ q = 39) {e d : Bs} (h : Reads q e d) (r : Bs) : valueR (q :: (e ++ q :: r)) = .ok d r := by
 simp only [valueR]
 rw [if_pos hq, letters_reads h r]; rfl
theorem attrR_t (acc : List At2) (q : Bool) (a : At2) (r : Bs) (ha : GoodA a) (hn : acc.any (fun b => b.1 == a.1) = false) : attrR acc ((attT q a).tail ++ r) = .ok a r := by
 rw [attrR_eq]
 cases q
 · show (nameR 10 ((a.1 ++ (61 :: 34 :: (esc true a.2 ++ [34]))) ++ r)).bind _ = _
   rw [show (a.1 ++ (61 :: 34 :: (esc true a.2 ++ [34]))) ++ r = a.1 ++ 61 :: (34 :: (esc true a.2 ++ 34 :: r)) by simp, nameR_all ha.name ha.ne (by decide)]
   show (if (acc.any fun b => b.1 == a.1) then _ else restR a.1 (61 :: 34 :: (esc true a.2 ++ 34 :: r))) = _
   rw [hn, if_neg (by decide)]
   unfold restR
   have e1 : blanks (61 :: 34 :: (esc true a.2 ++ 34 :: r)) = 61 :: 34 :: (esc true a.2 ++ 34 :: r) := by simp [blanks, cBlank]
   have e2 : blanks (34 :: (esc true a.2 ++ 34 :: r)) = 34 :: (esc true a.2 ++ 34 :: r) := by simp [blanks, cBlank]
   rw [e1]
   show (Res.map _ (valueR (blanks (34 :: (esc true a.2 ++ 34 :: r))))) = _
   rw [e2, valueR_q (.inl rfl) (reads_escs (by decide) (.inr ⟨rfl, rfl⟩) a.2 ha.text)]; rfl
 · show (nameR 10 ((a.1 ++ (32 :: 61 :: 9 :: 39 :: (aposR (esc true a.2) ++ [39]))) ++ r)).bind _ = _
   rw [show (a.1 ++ (32 :: 61 :: 9 :: 39 :: (aposR (esc true a.2) ++ [39]))) ++ r = a.1 ++ 32 :: (61 :: 9 :: 39 :: (aposR (esc true a.2) ++ 39 :: r)) by simp, nameR_all ha.name ha.ne (by decide)]
   show (if (acc.any fun b => b.1 == a.1) then _ else restR a.1 (32 :: 61 :: 9 :: 39 :: (aposR (esc true a.2) ++ 39 :: r))) = _
   rw [hn, if_neg (by decide)]
   unfold restR
   have e1 : blanks (32 :: 61 :: 9 :: 39 :: (aposR (esc true a.2) ++ 39 :: r)) = 61 :: 9 :: 39 :: (aposR (esc true a.2) ++ 39 :: r) := by simp [blanks, cBlank]
   have e2 : blanks (9 :: 39 :: (aposR (esc true a.2) ++ 39 :: r)) = 39 :: (aposR (esc true a.2) ++ 39 :: r) := by simp [blanks, cBlank]
   rw [e1]
   show (Res.map _ (valueR (blanks (9 :: 39 :: (aposR (esc true a.2) ++ 39 :: r))))) = _
   rw [e2, valueR_q (.inr rfl) (reads_aposs a.2 ha.text)]; rfl
theorem attT_tail (q : Bool) (a : At2) (ha : GoodA a) (r : Bs) : blanks (attT q a ++ r) = (attT q a).tail ++ r ∧ tagEnds (attT q a ++ r) = false := by
 obtain ⟨x, m, hx, hf⟩ := name_first ha.name ha.ne
 obtain ⟨h1, h2, h3, -, -⟩ := first_blank hf
 have hb : blanks (attT q a ++ r) = (attT q a).tail ++ r := by
  cases q <;> (simp only [attT, if_true, Bool.false_eq_true, if_false, hx, List.cons_append, List.tail_cons, blanks]; rw [if_pos (by decide), if_neg (by rw [h1]; decide)])
 refine ⟨hb, ?_⟩
 unfold tagEnds
 rw [hb]
 cases q <;> simp [attT, hx, h2, h3]

end Go.Proofs.YtbbbfjcikhpmbaaGreat

/- How tokens are printed, and the walk of the program's tag; the conditions stand in the theorem. -/
namespace Go.Proofs.YtbbbfjcikhpmbaaGreat
open Go Go.RowKit

def attsP (l : List At2) : Bs := l.flatMap (attT false)
def tagP (t : Tk) (fin : Bs) : Bs := 60 :: (t.name ++ (attsP t.attrs ++ fin))
def tokP (t : Tk) : Bs :=
 if t.kind = 5 then sNote ++ (t.text ++ eNote) else if t.kind = 6 then sHead ++ (t.text ++ eHead) else if t.kind = 3 then [60, 47] ++ (t.name ++ [62])
 else if t.kind = 1 then tagP t [62] else if t.kind = 2 then tagP t [47, 62] else if t.kind = 4 then esc false t.text else []
def printP (ts : List Tk) : Bs := ts.flatMap tokP
/-- How great a tag may become. -/
def attsW (l : List At2) : Nat := (l.map fun a => a.1.length + 6 * a.2.length + 4).sum
theorem attP_len (a : At2) : (attT false a).length ≤ a.1.length + 6 * a.2.length + 4 := by
 have := (esc_len true a.2).2
 unfold attT
 simp only [Bool.false_eq_true, if_false, List.length_cons, List.length_append, List.length_nil]; omega
theorem attsP_len (l : List At2) : (attsP l).length ≤ attsW l := by
 induction l with
 | nil => exact Nat.le_refl _
 | cons a l ih =>
  have := attP_len a
  show (attT false a ++ attsP l).length ≤ _
  unfold attsW at *
  rw [List.length_append, List.map_cons, List.sum_cons]; omega
theorem attsW_take (l : List At2) (k : Nat) : attsW (l.take k) ≤ attsW l := by
 induction l generalizing k with
 | nil => simp [attsW]
 | cons a l ih =>
  cases k with
  | zero => simp [attsW]
  | succ k => have := ih k; unfold attsW at *; simp only [List.take_succ_cons, List.map_cons, List.sum_cons]; omega
theorem attsW_get {l : List At2} {k : Nat} (h : k < l.length) : l[k].1.length + 6 * l[k].2.length + 4 ≤ attsW l := by
 induction l generalizing k with
 | nil => simp at h
 | cons a l ih =>
  cases k with
  | zero => unfold attsW; simp only [List.map_cons, List.sum_cons, List.getElem_cons_zero]; omega
  | succ k => have := ih (k := k) (by simpa using h); unfold attsW at *; simp only [List.map_cons, List.sum_cons, List.getElem_cons_succ]; omega
theorem attsP_snoc {l : List At2} {k : Nat} (h : k < l.length) : attsP (l.take (k + 1)) = attsP (l.take k) ++ attT false l[k] := by
 rw [List.take_succ_eq_append_getElem h]; unfold attsP; rw [List.flatMap_append]; simp
theorem byteCells_len (l : Bs) : (Lib.byteCells l).length = l.length := by simp [Lib.byteCells]
theorem str_cells {s : S} {l : Bs} (h : s = bs l) (cs : Bs) : Lib.byteCells cs ++ Lib.strCells s = Lib.byteCells (cs ++ l) := by rw [h, byteCells_app]
/-- The text of one attribute, in the walk's words. -/
theorem att_str {N V E : S} {a : At2} (h1 : N = bs a.1) (h2 : V = bs a.2) (h3 : E = bs (esc true V.data.toList)) : (⟨#[32]⟩ : S) ++ N ++ (⟨#[61, 34]⟩ : S) ++ E ++ (⟨#[34]⟩ : S) = bs (attT false a) := by
 rw [h3, h2, bs_data, h1, show (⟨#[32]⟩ : S) = bs [32] from rfl, show (⟨#[61, 34]⟩ : S) = bs [61, 34] from rfl, show (⟨#[34]⟩ : S) = bs [34] from rfl, bs_append, bs_append, bs_append, bs_append]
 simp [attT]
set_option maxRecDepth 100000 in
set_option maxHeartbeats 8000000 in
theorem tag_any (w0 : World) (R b : Nat) (cs : Bs) (x : TkM) (fin : S) (w : World) (hB : Bld R b (Lib.byteCells cs) w) (hA : SliceOf 2 atC w0 x.av x.t.attrs) (h0 : Below w0.heap.size w0 w) (hR : w0.heap.size ≤ R) (hb0 : w0.heap.size ≤ b)
    (hsz : cs.length + x.t.name.length + attsW x.t.attrs + fin.size ≤ 100000000000) (hat : attsW x.t.attrs ≤ 1000000000) :
    Calls Tryz.prog 108 #[.pointer (some ⟨b, 0, none⟩), .agg #[.int .i64 x.t.kind, .string (bs x.t.name), x.av, .string (bs x.t.text), .int .i64 x.off, .int .i64 x.line, .int .i64 x.col], .string fin] w
     fun e w' => e = .returned (.tuple #[]) ∧ Bld R b (Lib.byteCells (cs ++ tagP x.t fin.data.toList)) w' ∧ Kept R b w w' := by
 obtain ⟨ao, cap, hv⟩ := hA.shape
 have hcap : x.t.attrs.length ≤ 9223372036854775807 := by
  obtain ⟨_, _, e, h2, h3, -⟩ := hA
  unfold maxLen at h3; omega
 rw [hv] at hA ⊢
 obtain ⟨N, hN⟩ : ∃ N : S, bs x.t.name = N := ⟨_, rfl⟩
 have hNs : N.size = x.t.name.length := by rw [← hN, bs_size]
 have HN := Lib.hid hN
 rw [hN]
 have HB := Lib.hid hB
 have HA := Lib.hid hA
 have H0 := Lib.hid h0
 have hbw := hB.lt
 have hRw := hB.room
 have hN2 : N.size ≤ 100000000000 := by omega
 have HNS := Lib.hid hNs
 clear hB hA h0 hN hv hNs
 generalize hl : x.t.attrs = l at *
 have HL := Lib.hid hl.symm
 clear hl
 go_enter Tryz.func108, Tryz.ntmps108
 go_wp2_with fail
 refine Calls.world ?_
 intro W hW
 have hbx : W.heap[w.heap.size]? = some (.cells #[.int .i64 x.t.kind, .string N, .slice ao l.length cap, .string (bs x.t.text), .int .i64 x.off, .int .i64 x.line, .int .i64 x.col] 117 (0, 0)) := by rw [hW]; exact heap_alloc_new w _
 have hbW : Below w.heap.size w W := by rw [hW]; exact (Below.refl _ _).alloc (Nat.le_refl _) _
 have hltW : w.heap.size < W.heap.size := by rw [hW]; simp
 clear hW
 refine (writeString_bld R b _ ((⟨#[60]⟩ : S) ++ N) W (HB.out.keep hbW) (by rw [byteCells_len, ByteArray.size_append, size_lit]; simp; omega)).mono ?_
 rintro e w1 ⟨rfl, hB1, hK1⟩
 have c2 : w1.cell? ⟨w.heap.size, 2, none⟩ = some (.slice ao l.length cap) := (hK1.var (by omega) (by decide) hbx 2).trans (by rw [Lib.cell_of_heap hbx]; rfl)
 have hlt1 : w.heap.size < w1.heap.size := Nat.lt_of_lt_of_le hltW hK1.size
 have HB1 : Hid (Bld R b (Lib.byteCells (cs ++ (60 :: x.t.name))) w1) := by
  have h1 : (⟨#[60]⟩ : S) ++ N = bs (60 :: x.t.name) := by rw [← HN.out, show (⟨#[60]⟩ : S) = bs [60] from rfl, bs_append]; rfl
  have h2 := hB1
  rw [str_cells h1] at h2
  exact h2
 have HK1 : Hid (Kept R b w w1) := (Kept.of_below hbW hRw).trans hK1
 clear hB1 hK1 hbx hbW hltW
 go_wp2_with fail
 clear c2
 go_loopw [16] (fun i wr => ∃ k : Nat, k ≤ l.length ∧ i = .int .i64 k ∧ Bld R b (Lib.byteCells (cs ++ (60 :: x.t.name) ++ attsP (l.take k))) wr ∧ Kept R b w wr) (fun i _ => l.length - (intOf i).toNat)
 case atStart => exact ⟨0, Nat.zero_le _, rfl, by have := HB1.out; simpa [attsP] using this, HK1.out⟩
 case round =>
  obtain ⟨k, hk, rfl, hB, hK⟩ := hrel
  have HBk := Lib.hid hB
  have HKk := Lib.hid hK
  have hwr := hK.size
  have hbr := hB.lt
  have hlen : (cs ++ (60 :: x.t.name) ++ attsP (l.take k)).length ≤ 100000000001 := by
   have h1 := attsP_len (l.take k)
   have h2 := attsW_take l k
   simp only [List.length_append, List.length_cons]; omega
  by_cases hlt : k < l.length
  · obtain ⟨g, o, rfl, hg, hc⟩ := HA.out.at hlt
    have tr : ∀ q u, w0.cell? ⟨g, q, none⟩ = some u → wr.cell? ⟨g, q, none⟩ = some u := fun q u hq => (hK.cell (by omega) (by omega)).trans ((H0.out.cell (by exact hg)).trans hq)
    have d0 := tr _ _ (hc 0 _ rfl)
    have d1 := tr _ _ (hc 1 _ rfl)
    rw [Nat.add_zero] at d0
    have hgr : g < wr.heap.size := by omega
    have hi1 : (k : Int) < (l.length : Int) := by omega
    have hw := attsW_get hlt
    obtain ⟨N2, hN2'⟩ : ∃ N2 : S, bs l[k].1 = N2 := ⟨_, rfl⟩
    obtain ⟨V, hV⟩ : ∃ V : S, bs l[k].2 = V := ⟨_, rfl⟩
    rw [hN2'] at d0
    rw [hV] at d1
    have hNs2 : N2.size ≤ 1000000000 := by rw [← hN2', bs_size]; omega
    have hVs : V.size ≤ 200000000 := by rw [← hV, bs_size]; omega
    obtain ⟨E, hE⟩ : ∃ E : S, E = bs (esc true V.data.toList) := ⟨_, rfl⟩
    have hEs : E.size ≤ 1200000000 := by
     rw [hE, bs_size]
     have := (esc_len true V.data.toList).2
     rw [size_data] at this; omega
    have HESC : Hid (∀ w, Calls Tryz.prog 77 #[.string V, .bool true] w fun e w' => e = .returned (.string E) ∧ Below w.heap.size w w') := fun w => by rw [hE]; exact escape_any V true w (by omega)
    have HAS := Lib.hid (att_str hN2'.symm hV.symm hE)
    have HSZ : Hid (((⟨#[32]⟩ : S) ++ N2 ++ (⟨#[61, 34]⟩ : S) ++ E ++ (⟨#[34]⟩ : S)).size ≤ 3000000000) := by
     show _ ≤ _
     simp only [ByteArray.size_append, size_lit]
     simp; omega
    clear hc tr hB hK hE hN2' hV
    go_wp2_with fail
    clear d0 d1
    refine wp_world ?_
    intro W2 hW2
    have hbx : W2.heap[wr.heap.size]? = some (.cells #[.string N2, .string V] 100 (0, 0)) := by rw [hW2]; exact heap_alloc_new wr _
    have hbW : Below wr.heap.size wr W2 := by rw [hW2]; exact (Below.refl _ _).alloc (Nat.le_refl _) _
    have z0 : W2.cell? ⟨wr.heap.size, 0, none⟩ = some (.string N2) := by rw [Lib.cell_of_heap hbx]; rfl
    have z1 : W2.cell? ⟨wr.heap.size, 1, none⟩ = some (.string V) := by rw [Lib.cell_of_heap hbx]; rfl
    have hlt2 : wr.heap.size < W2.heap.size := by rw [hW2]; simp
    have HB2 := Lib.hid ((HBk.out.keep hbW).keep (belowN (Below.refl _ _) 1))
    have HK2 := Lib.hid (HKk.out.trans (Kept.of_below hbW (by omega)))
    have HX := Lib.hid hbx
    have f1 : ¬ 9223372036854775807 < 1 + N2.size := by omega
    have f2 : ¬ 9223372036854775807 < 1 + N2.size + 2 := by omega
    have f3 : ¬ 9223372036854775807 < 1 + N2.size + 2 + E.size := by omega
    have f4 : ¬ 9223372036854775807 < 1 + N2.size + 2 + E.size + 1 := by omega
    clear hW2 hbx hbW
    go_region_held3 (fun w' => w'.cell? ⟨wr.heap.size, 0, none⟩ = some (.string N2) ∧ w'.cell? ⟨wr.heap.size, 1, none⟩ = some (.string V)) (first | exact ⟨z0, z1⟩ | exact ⟨(hb5.cell (by exact hlt2)).trans z0, (hb5.cell (by exact hlt2)).trans z1⟩ | exact ⟨(hK6.var (by omega) (by decide) hx5 0).trans ((hb5.cell (by exact hlt2)).trans z0), (hK6.var (by omega) (by decide) hx5 1).trans ((hb5.cell (by exact hlt2)).trans z1)⟩)
     (first | (go_at_call 77; refine (HESC.out _).mono ?_; rintro e w5 ⟨rfl, hb5⟩; have hx5 := (hb5.block _ (by exact hlt2)).trans HX.out) | (go_at_call 76; refine (writeString_bld R b _ _ _ (HB2.out.keep hb5) (by rw [byteCells_len]; have := HSZ.out; omega)).mono ?_; rintro e w6 ⟨rfl, hB6, hK6⟩))
    have HB6 : Hid (Bld R b (Lib.byteCells (cs ++ (60 :: x.t.name) ++ attsP (l.take (k + 1)))) w6) := by
     have h2 := hB6
     rw [str_cells HAS.out] at h2
     show Bld _ _ _ _
     rw [attsP_snoc hlt, ← List.append_assoc]; exact h2
    have HK6 : Hid (Kept R b w w6) := (HK2.out.trans (Kept.of_below ((belowN (Below.refl _ _) 1).trans hb5) (by omega))).trans hK6
    clear hB6 hK6 hx5 hb5 z0 z1 f1 f2 f3 f4
    go_wp2
    go_round
    case rel => exact ⟨k + 1, hlt, by go_num, HB6.out, HK6.out⟩
    case measure => simp [intOf]; omega
  · obtain rfl : k = l.length := by omega
    have hi1 : ¬ (l.length : Int) < (l.length : Int) := by omega
    rw [List.take_length] at HBk hlen
    clear hB hK
    go_wp2_with fail
    refine (writeString_bld R b _ fin wr HBk.out (by rw [byteCells_len]; omega)).mono ?_
    rintro e w3 ⟨rfl, hB3, hK3⟩
    have HB3 : Hid (Bld R b (Lib.byteCells (cs ++ tagP x.t fin.data.toList)) w3) := by
     have h2 := hB3
     rw [str_cells (data_bs fin).symm] at h2
     show Bld _ _ _ _
     have e1 : cs ++ (60 :: x.t.name) ++ attsP l ++ fin.data.toList = cs ++ tagP x.t fin.data.toList := by
      rw [HL.out]; simp [tagP]
     rw [← e1]; exact h2
    have HK3 := Lib.hid (HKk.out.trans hK3)
    clear hB3 hK3
    go_wp2
    go_end0
    exact ⟨rfl, HB3.out, HK3.out⟩

end Go.Proofs.YtbbbfjcikhpmbaaGreat

/- Plain law: tokens that were cut of a text, printed, are cut into the same, texts side by side joined; no program in sight. -/

namespace Go.Proofs.YtbbbfjcikhpmbaaGreat
open Go Go.RowKit

/-- What stands up to an end is read again as it is, whatever follows. -/
theorem plain_again {til l s r : Bs} (h : plain til l = .ok s r) : (∀ c ∈ s, cText c = true) ∧ l = s ++ til ++ r ∧ ∀ y, plain til (s ++ til ++ y) = .ok s y := by
 induction l generalizing s with
 | nil =>
  simp only [plain] at h
  split at h
  · rename_i ht
    cases h
    have : til = [] := by cases til with
     | nil => rfl
     | cons a b => simp [List.isPrefixOf] at ht
    subst this
    refine ⟨by simp, by simp, fun y => ?_⟩
    cases y <;> simp [plain]
  · cases h
 | cons c l ih =>
  simp only [plain] at h
  split at h
  · rename_i ht
    cases h
    obtain ⟨z, hz⟩ := List.isPrefixOf_iff_prefix.1 ht
    refine ⟨by simp, ?_, fun y => ?_⟩
    · rw [← hz]; simp
    · show plain til (til ++ y) = _
      cases hty : til ++ y with
      | nil =>
       have h1 : til = [] := (List.append_eq_nil_iff.1 hty).1
       have h2 : y = [] := (List.append_eq_nil_iff.1 hty).2
       subst h1; subst h2; rfl
      | cons a b =>
       simp only [plain]
       rw [if_pos (by rw [← hty]; exact List.isPrefixOf_iff_prefix.2 ⟨y, rfl⟩), ← hty, List.drop_left]
  · rename_i ht
    split at h
    · rename_i hc
      obtain ⟨a, h1, rfl⟩ := map_ok h
      obtain ⟨i1, i2, i3⟩ := ih h1
      refine ⟨?_, by rw [i2]; simp, fun y => ?_⟩
      · intro x hx
        rcases List.mem_cons.1 hx with rfl | hx
        · exact hc
        · exact i1 x hx
      · show plain til (c :: (a ++ til ++ y)) = _
        simp only [plain]
        have hp : til.isPrefixOf (c :: (a ++ til ++ y)) = false := by
         rw [i2] at ht
         have e1 : c :: (a ++ til ++ r) = (c :: (a ++ til)) ++ r := by simp
         have e2 : c :: (a ++ til ++ y) = (c :: (a ++ til)) ++ y := by simp
         rw [e1, pre_app (by simp; omega)] at ht
         rw [e2, pre_app (by simp; omega)]
         exact Bool.eq_false_iff.2 ht
        rw [hp, if_neg (by decide), if_pos hc, i3 y]; rfl
    · cases h
/-- A token as it comes out of a text. -/
inductive GoodT : Bool → Tk → Prop where
 | op (f : Bool) (k : Int) (hk : k = 1 ∨ k = 2) (nm : Bs) (ats : List At2) (h1 : nameLen nm = nm.length) (h2 : nm ≠ []) (h3 : ∀ a ∈ ats, GoodA a) (h4 : (ats.map (·.1)).Nodup) : GoodT f ⟨k, nm, ats, []⟩
 | cl (f : Bool) (nm : Bs) (h1 : nameLen nm = nm.length) (h2 : nm ≠ []) : GoodT f ⟨3, nm, [], []⟩
 | tx (f : Bool) (t : Bs) (h : ∀ c ∈ t, cText c = true) : GoodT f ⟨4, [], [], t⟩
 | no (f : Bool) (t : Bs) (h : ∀ y, plain eNote (t ++ eNote ++ y) = .ok t y) : GoodT f ⟨5, [], [], t⟩
 | he (t : Bs) (h : ∀ y, plain eHead (t ++ eHead ++ y) = .ok t y) (h2 : ∀ y, isHead (sHead ++ (t ++ eHead ++ y)) = true) : GoodT true ⟨6, [], [], t⟩
/-! Printed, and cut again. -/
theorem attrsGo_p (tail : Bs) (ht : ∃ c y, tail = c :: y ∧ (c = 62 ∨ c = 47)) (l : List At2) : ∀ f acc, l.length < f → (∀ a ∈ l, GoodA a) → ((acc ++ l).map (·.1)).Nodup → attrsGo f acc (attsP l ++ tail) = .ok (acc ++ l) tail := by
 induction l with
 | nil =>
  intro f acc hf _ _
  obtain ⟨f, rfl⟩ : ∃ g, f = g + 1 := ⟨f - 1, by simp at hf; omega⟩
  obtain ⟨c, y, rfl, hc⟩ := ht
  have hb : blanks (c :: y) = c :: y := by rcases hc with rfl | rfl <;> simp [blanks, cBlank]
  have he : tagEnds (c :: y) = true := by unfold tagEnds; rw [hb]; simp
  show attrsGo (f + 1) acc (c :: y) = _
  simp only [attrsGo]
  rw [if_pos he, hb, List.append_nil]
 | cons a l ih =>
  intro f acc hf hg hn
  obtain ⟨f, rfl⟩ : ∃ g, f = g + 1 := ⟨f - 1, by simp at hf; omega⟩
  have ha := hg a (by simp)
  obtain ⟨h1, h2⟩ := attT_tail false a ha (attsP l ++ tail)
  have hany : acc.any (fun b => b.1 == a.1) = false := by
   rw [List.any_eq_false]
   intro b hb e
   rw [List.map_append, List.nodup_append] at hn
   exact hn.2.2 b.1 (List.mem_map.2 ⟨b, hb, rfl⟩) a.1 (by simp) (by simpa using e)
  show attrsGo (f + 1) acc ((attT false a ++ attsP l) ++ tail) = _
  rw [List.append_assoc]
  simp only [attrsGo]
  rw [h2, if_neg (by decide), h1, attrR_t acc false a _ ha hany]
  show attrsGo f (acc ++ [a]) (attsP l ++ tail) = _
  rw [ih f (acc ++ [a]) (by simp at hf; omega) (fun x hx => hg x (by simp [hx])) (by simpa using hn)]
  simp
theorem attsP_ge (l : List At2) : l.length ≤ (attsP l).length := by
 induction l with
 | nil => exact Nat.le_refl _
 | cons p l ih =>
  show _ ≤ (attT false p ++ attsP l).length
  rw [List.length_append]
  have : 1 ≤ (attT false p).length := by unfold attT; simp
  simp; omega
theorem attsP_head (l : List At2) (c : UInt8) (y : Bs) (hc : cName c = false) : ∃ d r, attsP l ++ c :: y = d :: r ∧ cName d = false := by
 cases l with
 | nil => exact ⟨c, y, rfl, hc⟩
 | cons a l => exact ⟨32, (attT false a).tail ++ (attsP l ++ c :: y), by show (attT false a ++ attsP l) ++ c :: y = _; rw [List.append_assoc]; rfl, by decide⟩
theorem GoodT.again {f : Bool} {t : Tk} (h : GoodT f t) (hk : t.kind ≠ 4) (y : Bs) : tokenR f (tokP t ++ y) = .ok t y ∧ ∃ r, tokP t = 60 :: r := by
 cases h with
 | op f k hk' nm ats h1 h2 h3 h4 =>
  obtain ⟨x, m, hx, hf⟩ := name_first h1 h2
  obtain ⟨-, h47, -, h33, h63⟩ := first_blank hf
  have gen : ∀ fin : Bs, (∃ c y', fin ++ y = c :: y' ∧ (c = 62 ∨ c = 47)) → tokenR f (tagP ⟨k, nm, ats, []⟩ fin ++ y) = endR nm ats (fin ++ y) := by
   rintro fin ⟨c, y', hc, hcc⟩
   obtain ⟨d, r, hd, hdn⟩ := attsP_head ats c y' (by rcases hcc with rfl | rfl <;> decide)
   have e1 : tagP ⟨k, nm, ats, []⟩ fin ++ y = 60 :: x :: (m ++ (attsP ats ++ (fin ++ y))) := by unfold tagP; rw [hx]; simp
   rw [e1, tokS_open f _ h33 h63 h47, openR_eq, show x :: (m ++ (attsP ats ++ (fin ++ y))) = nm ++ d :: r by rw [hc, hd, hx]; rfl, nameR_all h1 h2 hdn]
   show (attrsR (d :: r)).bind _ = _
   rw [← hd, ← hc]
   unfold attrsR
   rw [attrsGo_p (fin ++ y) ⟨c, y', hc, hcc⟩ ats _ [] (by have := attsP_ge ats; rw [List.length_append]; omega) h3 (by simpa using h4)]
   rfl
  rcases hk' with rfl | rfl
  · have e0 : tokP ⟨1, nm, ats, []⟩ = tagP ⟨1, nm, ats, []⟩ [62] := by unfold tokP; rw [if_neg (by simp), if_neg (by simp), if_neg (by simp), if_pos rfl]
    refine ⟨?_, ⟨_, by rw [e0]; rfl⟩⟩
    rw [e0, gen [62] ⟨62, y, rfl, .inl rfl⟩]; rfl
  · have e0 : tokP ⟨2, nm, ats, []⟩ = tagP ⟨2, nm, ats, []⟩ [47, 62] := by unfold tokP; rw [if_neg (by simp), if_neg (by simp), if_neg (by simp), if_neg (by simp), if_pos rfl]
    refine ⟨?_, ⟨_, by rw [e0]; rfl⟩⟩
    rw [e0, gen [47, 62] ⟨47, 62 :: y, rfl, .inr rfl⟩]; rfl
 | cl f nm h1 h2 =>
  have e0 : tokP ⟨3, nm, [], []⟩ = 60 :: 47 :: (nm ++ [62]) := by unfold tokP; rw [if_neg (by simp), if_neg (by simp), if_pos rfl]; rfl
  refine ⟨?_, ⟨_, e0⟩⟩
  rw [e0, show (60 :: 47 :: (nm ++ [62])) ++ y = 60 :: 47 :: (nm ++ 62 :: y) by simp, tokS_47]
  unfold closeR
  rw [nameR_all h1 h2 (by decide)]
  simp only [Res.bind]
  rw [show blanks (62 :: y) = 62 :: y by simp [blanks, cBlank]]
  rfl
 | tx f t h => exact absurd rfl hk
 | no f t h =>
  have e0 : tokP ⟨5, [], [], t⟩ = sNote ++ (t ++ eNote) := by unfold tokP; rw [if_pos rfl]
  refine ⟨?_, ⟨_, by rw [e0]; rfl⟩⟩
  rw [e0]
  unfold tokenR
  rw [if_pos (by rw [List.append_assoc]; exact List.isPrefixOf_iff_prefix.2 ⟨_, rfl⟩)]
  rw [show (sNote ++ (t ++ eNote) ++ y).drop 4 = t ++ eNote ++ y by rw [List.append_assoc]; rfl, h y]; rfl
 | he t h h2 =>
  have e0 : tokP ⟨6, [], [], t⟩ = sHead ++ (t ++ eHead) := by unfold tokP; rw [if_neg (by simp), if_pos rfl]
  refine ⟨?_, ⟨_, by rw [e0]; rfl⟩⟩
  rw [e0, List.append_assoc]
  have h3 := h2 y
  unfold tokenR
  rw [if_neg (by simp [sNote, sHead, List.isPrefixOf]), if_neg (by simp [sData, sHead, List.isPrefixOf]), if_pos (by rw [h3]; rfl)]
  rw [show (sHead ++ (t ++ eHead ++ y)).drop 5 = t ++ eHead ++ y from rfl, h y]; rfl
theorem text_again {f : Bool} {t : Bs} (h : ∀ c ∈ t, cText c = true) (hne : t ≠ []) {y : Bs} (hy : y = [] ∨ ∃ r, y = 60 :: r) : tokenR f (esc false t ++ y) = .ok ⟨4, [], [], t⟩ y := by
 have hh : (esc false t ++ y).head? ≠ some 60 := by
  have h1 := esc_head false t
  have h2 := esc_ne false hne
  cases he : esc false t with
  | nil => exact absurd he h2
  | cons a b => rw [he] at h1; simpa using h1
 rw [tokenR_text f hh]
 rcases hy with rfl | ⟨r, rfl⟩
 · rw [List.append_nil, letters_reads_end (reads_escs (by decide) (.inl rfl) t h)]; rfl
 · rw [letters_reads (reads_escs (by decide) (.inl rfl) t h) r]; rfl
theorem tokP_4 {t : Tk} (h : t.kind = 4) : tokP t = esc false t.text := by
 unfold tokP; rw [h]; simp
theorem printP_app (l m : List Tk) : printP (l ++ m) = printP l ++ printP m := by unfold printP; rw [List.flatMap_append]
theorem printP_one (t : Tk) : printP [t] = tokP t := by simp [printP]
/-- A list as it comes out of joining: no empty text, no two texts side by side. -/
def Alt : Bool → List Tk → Prop
 | _, [] => True
 | f, t :: l => GoodT f t ∧ (t.kind = 4 → t.text ≠ [] ∧ ∀ u r, l = u :: r → u.kind ≠ 4) ∧ Alt false l
theorem GoodT.text {f : Bool} {t : Tk} (h : GoodT f t) (hk : t.kind = 4) : t = ⟨4, [], [], t.text⟩ ∧ ∀ c ∈ t.text, cText c = true := by
 cases h with
 | op f k hk' nm ats h1 h2 h3 h4 => rcases hk' with rfl | rfl <;> cases hk
 | cl f nm h1 h2 => cases hk
 | tx f t h => exact ⟨rfl, h⟩
 | no f t h => cases hk
 | he t h h2 => cases hk
theorem tokP_ne {f : Bool} {t : Tk} (h : GoodT f t) (h4 : t.kind = 4 → t.text ≠ []) : tokP t ≠ [] := by
 by_cases hk : t.kind = 4
 · rw [tokP_4 hk]; exact esc_ne false (h4 hk)
 · obtain ⟨-, r, hr⟩ := h.again hk []
   rw [hr]; simp
theorem alt_all (l : List Tk) : ∀ n f acc, Alt f l → (printP l).length ≤ n → ∃ more, allGo n f acc (printP l) = .ok (acc ++ more) [] ∧ more.map (·.1) = l := by
 induction l with
 | nil => intro n f acc _ _; exact ⟨[], by rw [show printP [] = [] from rfl, allGo_nil]; simp, rfl⟩
 | cons t l ih =>
  intro n f acc h hn
  obtain ⟨g1, g2, g3⟩ := h
  have hc : printP (t :: l) = tokP t ++ printP l := rfl
  have hne := tokP_ne g1 (fun hk => (g2 hk).1)
  have hlen : 1 ≤ (tokP t).length := List.length_pos_iff.2 hne
  rw [hc, List.length_append] at hn
  obtain ⟨n, rfl⟩ : ∃ m, n = m + 1 := ⟨n - 1, by omega⟩
  have h1 : tokenR f (tokP t ++ printP l) = .ok t (printP l) := by
   by_cases hk : t.kind = 4
   · obtain ⟨e, ht⟩ := g1.text hk
     rw [tokP_4 hk]
     have := text_again (f := f) ht (g2 hk).1 (y := printP l) (by
      cases l with
      | nil => exact .inl rfl
      | cons u r =>
       right
       obtain ⟨-, z, hz⟩ := g3.1.again ((g2 hk).2 u r rfl) []
       exact ⟨z ++ printP r, by show tokP u ++ printP r = _; rw [hz]; rfl⟩)
     rw [this, ← e]
   · exact (g1.again hk _).1
  obtain ⟨more, e1, e2⟩ := ih n false (acc ++ [(t, tokP t ++ printP l)]) g3 (by omega)
  refine ⟨(t, tokP t ++ printP l) :: more, ?_, by rw [List.map_cons, e2]⟩
  rw [hc, allGo_step (by intro e; exact hne (List.append_eq_nil_iff.1 e).1) h1, e1]; simp

end Go.Proofs.YtbbbfjcikhpmbaaGreat

/- Walks of the document's SameAttrs and Same; the conditions stand in the theorems. -/

namespace Go.Proofs.YtbbbfjcikhpmbaaGreat
open Go Go.RowKit

theorem bs_beq (a b : Bs) : ((bs a).toList == (bs b).toList) = decide (a = b) := by
 rw [ByteArray.toList_eq, ByteArray.toList_eq, bs_data, bs_data, Bool.eq_iff_iff]; simp

end Go.Proofs.YtbbbfjcikhpmbaaGreat
