/- The walk of the program's Escape; its conditions stand in the theorem. -/
import Derived.Test.YtpchljiiappmnaaG12
import Derived.Laws.IdiomStrings
namespace Go.Proofs.Ytpchljiiappmnaa
open Go Go.RowKit

/-- The world behind a text's conversion to bytes, and the capacity. -/
def bytesC (w : World) (s : S) : Nat := grownCap w s.size 0 5
def bytesW (w : World) (s : S) : World := w.drew.alloc (.cells (bytesRow s (bytesC w s)) 5 ((bytesRow s (bytesC w s)).size, (bytesRow s (bytesC w s)).size + 1))
theorem conv_bytes (w : World) (s : S) : (convert 9 47 (.string s)).run Try.prog w = .ok (.slice (some ⟨w.heap.size, 0, none⟩) s.size (bytesC w s)) (bytesW w s) :=
  run_bytes_of_string w 9 47 5 s Try.underlying9 Try.underlying47 Try.underlying5
theorem bytesW_below (w : World) (s : S) (B : Nat) (hB : B ≤ w.heap.size) : Below B w (bytesW w s) := (belowN (Below.refl _ _) 1).alloc hB _
theorem bytesW_size (w : World) (s : S) : (bytesW w s).heap.size = w.heap.size + 1 := by show (w.heap.push _).size = _; simp
theorem bytesW_cell (w : World) (s : S) (j : Nat) (h : j < s.size) : (bytesW w s).cell? ⟨w.heap.size, j, none⟩ = some (.int .u8 (s[j].toNat : Nat)) := by
  have hh : (bytesW w s).heap[w.heap.size]? = some (.cells (bytesRow s (bytesC w s)) 5 ((bytesRow s (bytesC w s)).size, (bytesRow s (bytesC w s)).size + 1)) := by
    show (w.heap.push _)[w.heap.size]? = _
    simp
  have hs : j < s.data.size := h
  simp only [World.cell?, hh]
  unfold bytesRow
  rw [Array.getElem?_append_left (by simpa using hs), Array.getElem?_map, Array.getElem?_eq_getElem hs]
  rfl

theorem byte_38 (c : UInt8) : (((c.toNat : Nat) : Int) == 38) = decide (c = 38) := by
  have h : ∀ n : Fin 256, ((((UInt8.ofNat n).toNat : Nat) : Int) == 38) = decide (UInt8.ofNat n = 38) := by decide +kernel
  have := h ⟨c.toNat, c.toNat_lt⟩
  simpa only [UInt8.ofNat_toNat] using this
theorem byte_60 (c : UInt8) : (((c.toNat : Nat) : Int) == 60) = decide (c = 60) := by
  have h : ∀ n : Fin 256, ((((UInt8.ofNat n).toNat : Nat) : Int) == 60) = decide (UInt8.ofNat n = 60) := by decide +kernel
  have := h ⟨c.toNat, c.toNat_lt⟩
  simpa only [UInt8.ofNat_toNat] using this
theorem byte_62 (c : UInt8) : (((c.toNat : Nat) : Int) == 62) = decide (c = 62) := by
  have h : ∀ n : Fin 256, ((((UInt8.ofNat n).toNat : Nat) : Int) == 62) = decide (UInt8.ofNat n = 62) := by decide +kernel
  have := h ⟨c.toNat, c.toNat_lt⟩
  simpa only [UInt8.ofNat_toNat] using this
theorem byte_13 (c : UInt8) : (((c.toNat : Nat) : Int) == 13) = decide (c = 13) := by
  have h : ∀ n : Fin 256, ((((UInt8.ofNat n).toNat : Nat) : Int) == 13) = decide (UInt8.ofNat n = 13) := by decide +kernel
  have := h ⟨c.toNat, c.toNat_lt⟩
  simpa only [UInt8.ofNat_toNat] using this
theorem byte_34 (c : UInt8) : (((c.toNat : Nat) : Int) == 34) = decide (c = 34) := by
  have h : ∀ n : Fin 256, ((((UInt8.ofNat n).toNat : Nat) : Int) == 34) = decide (UInt8.ofNat n = 34) := by decide +kernel
  have := h ⟨c.toNat, c.toNat_lt⟩
  simpa only [UInt8.ofNat_toNat] using this
theorem byte_9 (c : UInt8) : (((c.toNat : Nat) : Int) == 9) = decide (c = 9) := by
  have h : ∀ n : Fin 256, ((((UInt8.ofNat n).toNat : Nat) : Int) == 9) = decide (UInt8.ofNat n = 9) := by decide +kernel
  have := h ⟨c.toNat, c.toNat_lt⟩
  simpa only [UInt8.ofNat_toNat] using this
theorem byte_10 (c : UInt8) : (((c.toNat : Nat) : Int) == 10) = decide (c = 10) := by
  have h : ∀ n : Fin 256, ((((UInt8.ofNat n).toNat : Nat) : Int) == 10) = decide (UInt8.ofNat n = 10) := by decide +kernel
  have := h ⟨c.toNat, c.toNat_lt⟩
  simpa only [UInt8.ofNat_toNat] using this

theorem size_lit (l : Array UInt8) : (⟨l⟩ : S).size = l.size := rfl
/-- One letter of Escape's, in the builder. -/
theorem esc_cells {attr : Bool} {s : S} {k : Nat} (hlt : k < s.size) {X : Bs} (hx : escC attr s[k] = X) : Lib.byteCells (esc attr (s.data.toList.take k)) ++ Lib.strCells (bs X) = Lib.byteCells (esc attr (s.data.toList.take (k + 1))) := by
  rw [take_byte s k hlt, esc_snoc, hx, byteCells_app]
theorem esc_cell1 {attr : Bool} {s : S} {k : Nat} (hlt : k < s.size) (hx : escC attr s[k] = [s[k]]) : Lib.byteCells (esc attr (s.data.toList.take k)) ++ [.int .u8 (s[k].toNat : Nat)] = Lib.byteCells (esc attr (s.data.toList.take (k + 1))) := by
  rw [take_byte s k hlt, esc_snoc, hx, byteCells_snoc]
theorem esc_clen (attr : Bool) (s : S) (k : Nat) (hs : s.size ≤ 1000000000) : (Lib.byteCells (esc attr (s.data.toList.take k))).length ≤ 6000000000 := by
  have := (esc_len attr (s.data.toList.take k)).2
  rw [List.length_take, size_data] at this
  simp [Lib.byteCells]; omega

set_option maxRecDepth 100000 in
set_option maxHeartbeats 8000000 in
theorem escape_false (s : S) (w : World) (hs : s.size ≤ 1000000000) :
    Calls Try.prog 61 #[.string s, .bool false] w fun e w' => e = .returned (.string (bs (esc false s.data.toList))) ∧ Below w.heap.size w w' := by
  have hcv := fun (w : World) => conv_bytes w s
  go_enter Try.func61, Try.ntmps61
  go_wp2_with fail
  clear hcv
  refine wp_world ?_
  intro W hW
  have hfr := Bld.fresh w (bytesW (w.alloc (.cells #[.pointer none, .slice none 0 0] 87)) s) (bytesW_below _ s _ (by simp))
  have hcells := fun j h => bytesW_cell (w.alloc (.cells #[.pointer none, .slice none 0 0] 87)) s j h
  have hbel : Below w.heap.size w (bytesW (w.alloc (.cells #[.pointer none, .slice none 0 0] 87)) s) := ((Below.refl _ _).alloc (Nat.le_refl _) _).trans (bytesW_below _ s _ (by simp))
  have hsz := bytesW_size (w.alloc (.cells #[.pointer none, .slice none 0 0] 87)) s
  rw [← hW] at hfr hcells hbel hsz
  have hsz' : W.heap.size = w.heap.size + 2 := by simpa using hsz
  have hcells' : ∀ j, (h : j < s.size) → W.cell? ⟨w.heap.size + 1, j, none⟩ = some (.int .u8 (s[j].toNat : Nat)) := fun j h => by simpa using hcells j h
  have HFR := Lib.hid hfr
  have HCE := Lib.hid hcells'
  have HBE := Lib.hid hbel
  have HSZ := Lib.hid hsz'
  clear hW hfr hcells hbel hsz hsz' hcells'
  go_loopw [11] (fun i wr => ∃ k : Nat, k ≤ s.size ∧ i = .int .i64 k ∧ Bld W.heap.size w.heap.size (Lib.byteCells (esc false (s.data.toList.take k))) wr ∧ Kept W.heap.size w.heap.size W wr) (fun i _ => s.size - (intOf i).toNat)
  case atStart => exact ⟨0, Nat.zero_le _, rfl, HFR.out, Kept.refl _ _ _⟩
  case round =>
    obtain ⟨k, hk, rfl, hB, hK⟩ := hrel
    have HB := Lib.hid hB
    have HK := Lib.hid hK
    have hwr := hK.size
    by_cases hlt : k < s.size
    · have c1 := (hK.cell (g := w.heap.size + 1) (o := k) (by rw [HSZ.out]; omega) (by omega)).trans (HCE.out k hlt)
      have hg1 : w.heap.size + 1 < wr.heap.size := by have := HSZ.out; omega
      have hi1 : (k : Int) < (s.size : Int) := by omega
      have hlen := esc_clen false s k hs
      have e38 := byte_38 s[k]
      have e60 := byte_60 s[k]
      have e62 := byte_62 s[k]
      have e13 := byte_13 s[k]
      have e34 := byte_34 s[k]
      have e9 := byte_9 s[k]
      have e10 := byte_10 s[k]
      clear hB hK
      go_wp2_with fail
      rotate_right 1
      · refine (writeByte_bld W.heap.size w.heap.size _ _ wr HB.out (by omega)).mono ?_
        rintro e w4 ⟨rfl, hB4, hK4⟩
        have HB4 := Lib.hid hB4
        have HK4 := Lib.hid (HK.out.trans hK4)
        clear hB4 hK4 c1 hg1 e38 e60 e62 e13 e34 e9 e10
        go_wp2
        go_round
        case rel => exact ⟨k + 1, hlt, by go_num, by rw [← esc_cell1 hlt (by simp_all [escC])]; exact HB4.out, HK4.out⟩
        case measure => simp [intOf]; omega
      all_goals
        refine (writeString_bld W.heap.size w.heap.size _ _ wr HB.out (by rw [size_lit]; simp; omega)).mono ?_
        rintro e w4 ⟨rfl, hB4, hK4⟩
        have HB4 := Lib.hid hB4
        have HK4 := Lib.hid (HK.out.trans hK4)
        clear hB4 hK4 c1 hg1 e38 e60 e62 e13 e34 e9 e10
        go_wp2
        go_round
        case rel =>
          refine ⟨k + 1, hlt, by go_num, ?_, HK4.out⟩
          first
            | (rw [← esc_cells (X := [38, 97, 109, 112, 59]) hlt (by simp_all [escC])]; exact HB4.out)
            | (rw [← esc_cells (X := [38, 108, 116, 59]) hlt (by simp_all [escC])]; exact HB4.out)
            | (rw [← esc_cells (X := [38, 103, 116, 59]) hlt (by simp_all [escC])]; exact HB4.out)
            | (rw [← esc_cells (X := [38, 35, 49, 51, 59]) hlt (by simp_all [escC])]; exact HB4.out)
            | (rw [← esc_cells (X := [38, 113, 117, 111, 116, 59]) hlt (by simp_all [escC])]; exact HB4.out)
            | (rw [← esc_cells (X := [38, 35, 57, 59]) hlt (by simp_all [escC])]; exact HB4.out)
            | (rw [← esc_cells (X := [38, 35, 49, 48, 59]) hlt (by simp_all [escC])]; exact HB4.out)
        case measure => simp [intOf]; omega
    · obtain rfl : k = s.size := by omega
      have hi1 : ¬ (s.size : Int) < (s.size : Int) := by omega
      have hO : s.data.toList.take s.size = s.data.toList := List.take_of_length_le (by rw [size_data]; exact Nat.le_refl _)
      rw [hO] at HB
      clear hB hK hO
      go_wp2_with fail
      refine (Try.Builder_String_any w.heap.size w.heap.size (esc false s.data.toList) wr (HB.out.isB _ (by rw [HSZ.out]; omega) (Nat.le_refl _)) (by have := HSZ.out; omega)).mono ?_
      rintro e w2 ⟨rfl, hb2⟩
      have HZ := Lib.hid ((HBE.out.trans (HK.out.below (by rw [HSZ.out]; omega) (Nat.le_refl _))).trans hb2)
      clear hb2
      go_wp2
      go_ret
      exact ⟨rfl, HZ.out⟩

set_option maxRecDepth 100000 in
set_option maxHeartbeats 8000000 in
theorem escape_true (s : S) (w : World) (hs : s.size ≤ 1000000000) :
    Calls Try.prog 61 #[.string s, .bool true] w fun e w' => e = .returned (.string (bs (esc true s.data.toList))) ∧ Below w.heap.size w w' := by
  have hcv := fun (w : World) => conv_bytes w s
  go_enter Try.func61, Try.ntmps61
  go_wp2_with fail
  clear hcv
  refine wp_world ?_
  intro W hW
  have hfr := Bld.fresh w (bytesW (w.alloc (.cells #[.pointer none, .slice none 0 0] 87)) s) (bytesW_below _ s _ (by simp))
  have hcells := fun j h => bytesW_cell (w.alloc (.cells #[.pointer none, .slice none 0 0] 87)) s j h
  have hbel : Below w.heap.size w (bytesW (w.alloc (.cells #[.pointer none, .slice none 0 0] 87)) s) := ((Below.refl _ _).alloc (Nat.le_refl _) _).trans (bytesW_below _ s _ (by simp))
  have hsz := bytesW_size (w.alloc (.cells #[.pointer none, .slice none 0 0] 87)) s
  rw [← hW] at hfr hcells hbel hsz
  have hsz' : W.heap.size = w.heap.size + 2 := by simpa using hsz
  have hcells' : ∀ j, (h : j < s.size) → W.cell? ⟨w.heap.size + 1, j, none⟩ = some (.int .u8 (s[j].toNat : Nat)) := fun j h => by simpa using hcells j h
  have HFR := Lib.hid hfr
  have HCE := Lib.hid hcells'
  have HBE := Lib.hid hbel
  have HSZ := Lib.hid hsz'
  clear hW hfr hcells hbel hsz hsz' hcells'
  go_loopw [11] (fun i wr => ∃ k : Nat, k ≤ s.size ∧ i = .int .i64 k ∧ Bld W.heap.size w.heap.size (Lib.byteCells (esc true (s.data.toList.take k))) wr ∧ Kept W.heap.size w.heap.size W wr) (fun i _ => s.size - (intOf i).toNat)
  case atStart => exact ⟨0, Nat.zero_le _, rfl, HFR.out, Kept.refl _ _ _⟩
  case round =>
    obtain ⟨k, hk, rfl, hB, hK⟩ := hrel
    have HB := Lib.hid hB
    have HK := Lib.hid hK
    have hwr := hK.size
    by_cases hlt : k < s.size
    · have c1 := (hK.cell (g := w.heap.size + 1) (o := k) (by rw [HSZ.out]; omega) (by omega)).trans (HCE.out k hlt)
      have hg1 : w.heap.size + 1 < wr.heap.size := by have := HSZ.out; omega
      have hi1 : (k : Int) < (s.size : Int) := by omega
      have hlen := esc_clen true s k hs
      have e38 := byte_38 s[k]
      have e60 := byte_60 s[k]
      have e62 := byte_62 s[k]
      have e13 := byte_13 s[k]
      have e34 := byte_34 s[k]
      have e9 := byte_9 s[k]
      have e10 := byte_10 s[k]
      clear hB hK
      go_wp2_with fail
      rotate_right 1
      · refine (writeByte_bld W.heap.size w.heap.size _ _ wr HB.out (by omega)).mono ?_
        rintro e w4 ⟨rfl, hB4, hK4⟩
        have HB4 := Lib.hid hB4
        have HK4 := Lib.hid (HK.out.trans hK4)
        clear hB4 hK4 c1 hg1 e38 e60 e62 e13 e34 e9 e10
        go_wp2
        go_round
        case rel => exact ⟨k + 1, hlt, by go_num, by rw [← esc_cell1 hlt (by simp_all [escC])]; exact HB4.out, HK4.out⟩
        case measure => simp [intOf]; omega
      all_goals
        refine (writeString_bld W.heap.size w.heap.size _ _ wr HB.out (by rw [size_lit]; simp; omega)).mono ?_
        rintro e w4 ⟨rfl, hB4, hK4⟩
        have HB4 := Lib.hid hB4
        have HK4 := Lib.hid (HK.out.trans hK4)
        clear hB4 hK4 c1 hg1 e38 e60 e62 e13 e34 e9 e10
        go_wp2
        go_round
        case rel =>
          refine ⟨k + 1, hlt, by go_num, ?_, HK4.out⟩
          first
            | (rw [← esc_cells (X := [38, 97, 109, 112, 59]) hlt (by simp_all [escC])]; exact HB4.out)
            | (rw [← esc_cells (X := [38, 108, 116, 59]) hlt (by simp_all [escC])]; exact HB4.out)
            | (rw [← esc_cells (X := [38, 103, 116, 59]) hlt (by simp_all [escC])]; exact HB4.out)
            | (rw [← esc_cells (X := [38, 35, 49, 51, 59]) hlt (by simp_all [escC])]; exact HB4.out)
            | (rw [← esc_cells (X := [38, 113, 117, 111, 116, 59]) hlt (by simp_all [escC])]; exact HB4.out)
            | (rw [← esc_cells (X := [38, 35, 57, 59]) hlt (by simp_all [escC])]; exact HB4.out)
            | (rw [← esc_cells (X := [38, 35, 49, 48, 59]) hlt (by simp_all [escC])]; exact HB4.out)
        case measure => simp [intOf]; omega
    · obtain rfl : k = s.size := by omega
      have hi1 : ¬ (s.size : Int) < (s.size : Int) := by omega
      have hO : s.data.toList.take s.size = s.data.toList := List.take_of_length_le (by rw [size_data]; exact Nat.le_refl _)
      rw [hO] at HB
      clear hB hK hO
      go_wp2_with fail
      refine (Try.Builder_String_any w.heap.size w.heap.size (esc true s.data.toList) wr (HB.out.isB _ (by rw [HSZ.out]; omega) (Nat.le_refl _)) (by have := HSZ.out; omega)).mono ?_
      rintro e w2 ⟨rfl, hb2⟩
      have HZ := Lib.hid ((HBE.out.trans (HK.out.below (by rw [HSZ.out]; omega) (Nat.le_refl _))).trans hb2)
      clear hb2
      go_wp2
      go_ret
      exact ⟨rfl, HZ.out⟩

theorem escape_any (s : S) (attr : Bool) (w : World) (hs : s.size ≤ 1000000000) :
    Calls Try.prog 61 #[.string s, .bool attr] w fun e w' => e = .returned (.string (bs (esc attr s.data.toList))) ∧ Below w.heap.size w w' := by
  cases attr
  · exact escape_false s w hs
  · exact escape_true s w hs

end Go.Proofs.Ytpchljiiappmnaa

/- Plain law: an error in a tag, a value or a text stays the error whatever stands behind it; no program in sight. -/
namespace Go.Proofs.Ytpchljiiappmnaa
open Go Go.RowKit

/-- The errors of which the law speaks. -/
def Bad3 (e : Int) : Prop := e = 10 ∨ e = 11 ∨ e = 15
/-- What is known ahead of the place at which the text is cut. -/
structure Good (v x : Bs) : Prop where
  ne : v ≠ []
  no33 : v.head? ≠ some 33
  no63 : v.head? ≠ some 63
  name : nameLen (v ++ x) < v.length

theorem suf_split {r u x : Bs} (h : r <:+ u ++ x) (hl : x.length < r.length) : ∃ v, v ≠ [] ∧ r = v ++ x ∧ v <:+ u := by
  obtain ⟨p, hp⟩ := h
  have hlen := congrArg List.length hp
  simp only [List.length_append] at hlen
  have h1 : (u ++ x).drop p.length = u.drop p.length ++ x := List.drop_append_of_le_length (by omega)
  refine ⟨u.drop p.length, fun e => ?_, ?_, List.drop_suffix _ _⟩
  · have := congrArg List.length e
    simp at this; omega
  · rw [← h1, ← hp, List.drop_left]
theorem len_pos {v x : Bs} (hv : v ≠ []) : x.length < (v ++ x).length := by
  have := List.length_pos_iff.2 hv
  simp only [List.length_append]; omega
theorem suf_of_bad {α : Type} {x : Res α} {l : Bs} {e : Int} {r : Bs} (hs : x.Suf l) (h : x = .bad e r) : r <:+ l := by rw [h] at hs; exact hs
theorem map_bad {α β : Type} {x : Res α} {f : α → β} {e : Int} {r : Bs} (h : x.map f = .bad e r) : x = .bad e r := by
  cases x with
  | ok a r' => cases h
  | bad e' r' => cases h; rfl
theorem bind_bad {α β : Type} {x : Res α} {f : α → Bs → Res β} {e : Int} {r : Bs} (h : x.bind f = .bad e r) : x = .bad e r ∨ ∃ a r', x = .ok a r' ∧ f a r' = .bad e r := by
  cases x with
  | ok a r' => exact .inr ⟨a, r', rfl, h⟩
  | bad e' r' => cases h; exact .inl rfl

def StayOk {α : Type} (f : Bs → Res α) : Prop := ∀ u x y a v, v ≠ [] → f (u ++ x) = .ok a (v ++ x) → f (u ++ y) = .ok a (v ++ y)
def StayBad {α : Type} (f : Bs → Res α) : Prop := ∀ u x y e v, Bad3 e → Good v x → f (u ++ x) = .bad e (v ++ x) → f (u ++ y) = .bad e (v ++ y)

theorem StayOk.bind {α β : Type} {f : Bs → Res α} {g : α → Bs → Res β} (hf : StayOk f) (hs : ∀ l, (f l).Suf l) (hg : ∀ a, StayOk (g a)) (hgs : ∀ a l, (g a l).Suf l) : StayOk (fun l => (f l).bind g) := by
  intro u x y b v hv h
  obtain ⟨a, r, h1, h2⟩ := bind_ok h
  have hr := (suf_of_ok (hgs a r) h2).length_le
  obtain ⟨v', hv', rfl, -⟩ := suf_split (suf_of_ok (hs _) h1) (Nat.lt_of_lt_of_le (len_pos hv) hr)
  show (f (u ++ y)).bind g = _
  rw [hf u x y a v' hv' h1]
  exact hg a v' x y b v hv h2
theorem StayBad.bind {α β : Type} {f : Bs → Res α} {g : α → Bs → Res β} (hf : StayOk f) (hfb : StayBad f) (hs : ∀ l, (f l).Suf l) (hg : ∀ a, StayBad (g a)) (hgs : ∀ a l, (g a l).Suf l) : StayBad (fun l => (f l).bind g) := by
  intro u x y e v he hv h
  show (f (u ++ y)).bind g = _
  rcases bind_bad h with h1 | ⟨a, r, h1, h2⟩
  · rw [hfb u x y e v he hv h1]; rfl
  · have hr := (suf_of_bad (hgs a r) h2).length_le
    obtain ⟨v', hv', rfl, -⟩ := suf_split (suf_of_ok (hs _) h1) (Nat.lt_of_lt_of_le (len_pos hv.ne) hr)
    rw [hf u x y a v' hv' h1]
    exact hg a v' x y e v he hv h2
theorem StayOk.map {α β : Type} {f : Bs → Res α} (k : α → β) (hf : StayOk f) : StayOk (fun l => (f l).map k) := by
  intro u x y b v hv h
  obtain ⟨a, h1, rfl⟩ := map_ok h
  show (f (u ++ y)).map k = _
  rw [hf u x y a v hv h1]; rfl
theorem StayBad.map {α β : Type} {f : Bs → Res α} (k : α → β) (hf : StayBad f) : StayBad (fun l => (f l).map k) := by
  intro u x y e v he hv h
  show (f (u ++ y)).map k = _
  rw [hf u x y e v he hv (map_bad h)]; rfl

theorem blanks_stay {u x v : Bs} (hv : v ≠ []) (h : blanks (u ++ x) = v ++ x) (y : Bs) : blanks (u ++ y) = v ++ y := by
  induction u with
  | nil =>
    have h1 := blanks_le x
    have h2 := len_pos (x := x) hv
    rw [List.nil_append] at h
    rw [h] at h1; omega
  | cons c u ih =>
    simp only [List.cons_append, blanks] at h ⊢
    split
    · rename_i hc; rw [if_pos hc] at h; exact ih h
    · rename_i hc; rw [if_neg hc, ← List.cons_append] at h
      rw [← List.append_cancel_right h]; rfl
theorem StayOk.blanks {α : Type} {f : Bs → Res α} (hf : StayOk f) (hs : ∀ l, (f l).Suf l) : StayOk (fun l => f (blanks l)) := by
  intro u x y a v hv h
  have hr := (suf_of_ok (hs _) h).length_le
  obtain ⟨v', hv', e, -⟩ := suf_split (blanks_suf (u ++ x)) (Nat.lt_of_lt_of_le (len_pos hv) hr)
  have h' : f (Go.Proofs.Ytpchljiiappmnaa.blanks (u ++ x)) = .ok a (v ++ x) := h
  rw [e] at h'
  show f (Go.Proofs.Ytpchljiiappmnaa.blanks (u ++ y)) = _
  rw [blanks_stay hv' e y]
  exact hf v' x y a v hv h'
theorem StayBad.blanks {α : Type} {f : Bs → Res α} (hf : StayBad f) (hs : ∀ l, (f l).Suf l) : StayBad (fun l => f (blanks l)) := by
  intro u x y e v he hv h
  have hr := (suf_of_bad (hs _) h).length_le
  obtain ⟨v', hv', e', -⟩ := suf_split (blanks_suf (u ++ x)) (Nat.lt_of_lt_of_le (len_pos hv.ne) hr)
  have h' : f (Go.Proofs.Ytpchljiiappmnaa.blanks (u ++ x)) = .bad e (v ++ x) := h
  rw [e'] at h'
  show f (Go.Proofs.Ytpchljiiappmnaa.blanks (u ++ y)) = _
  rw [blanks_stay hv' e' y]
  exact hf v' x y e v he hv h'

theorem wantC_ok (c : UInt8) : StayOk (wantC c) := by
  intro u x y a v hv h
  cases u with
  | nil =>
    have h1 := (suf_of_ok (wantC_suf c _) h).length_le
    have h2 := len_pos (x := x) hv
    simp only [List.nil_append] at h1; omega
  | cons d u =>
    simp only [List.cons_append, wantC] at h ⊢
    split
    · rename_i hd; rw [if_pos hd] at h
      simp only [Res.ok.injEq] at h
      rw [List.append_cancel_right h.2]
    · rename_i hd; rw [if_neg hd] at h; cases h
theorem wantC_bad (c : UInt8) : StayBad (wantC c) := by
  intro u x y e v he hv h
  cases u with
  | nil =>
    have h1 := (suf_of_bad (wantC_suf c _) h).length_le
    have h2 := len_pos (x := x) hv.ne
    simp only [List.nil_append] at h1; omega
  | cons d u =>
    simp only [List.cons_append, wantC] at h ⊢
    split
    · rename_i hd; rw [if_pos hd] at h; cases h
    · rename_i hd; rw [if_neg hd] at h
      simp only [Res.bad.injEq, ← List.cons_append] at h
      rw [← h.1, ← List.append_cancel_right h.2]; rfl

theorem span_app {p : UInt8 → Bool} {u x : Bs} (h : span p (u ++ x) < u.length) (y : Bs) : span p (u ++ y) = span p (u ++ x) := by
  induction u with
  | nil => simp at h
  | cons c u ih =>
    simp only [List.cons_append, span] at h ⊢
    split
    · rename_i hc; rw [if_pos hc] at h; rw [ih (by simpa using h)]
    · rfl
theorem nameLen_app {u x : Bs} (h : nameLen (u ++ x) < u.length) (y : Bs) : nameLen (u ++ y) = nameLen (u ++ x) := by
  cases u with
  | nil => simp at h
  | cons c u =>
    simp only [List.cons_append, nameLen] at h ⊢
    split
    · rename_i hc; rw [if_pos hc] at h; exact span_app (u := c :: u) h y
    · rfl
theorem drop_keep {u x v : Bs} {n : Nat} (hv : v ≠ []) (h : (u ++ x).drop n = v ++ x) : n < u.length ∧ v = u.drop n := by
  have h1 := len_pos (x := x) hv
  have h2 := congrArg List.length h
  rw [List.length_drop, List.length_append] at h2
  have hn : n < u.length := by omega
  refine ⟨hn, ?_⟩
  rw [List.drop_append_of_le_length (by omega)] at h
  exact (List.append_cancel_right h).symm

theorem nameR_ok (e : Int) : StayOk (nameR e) := by
  intro u x y a v hv h
  cases u with
  | nil =>
    have h1 := (suf_of_ok (nameR_suf e _) h).length_le
    have h2 := len_pos (x := x) hv
    simp only [List.nil_append] at h1; omega
  | cons d u =>
    have h' : nameR e (d :: (u ++ x)) = .ok a (v ++ x) := h
    simp only [nameR] at h'
    by_cases h0 : nameLen (d :: (u ++ x)) = 0
    · rw [if_pos h0] at h'; cases h'
    rw [if_neg h0] at h'
    simp only [Res.ok.injEq] at h'
    obtain ⟨h1, h2⟩ := h'
    obtain ⟨hn, rfl⟩ := drop_keep (u := d :: u) hv h2
    have e1 : nameLen (d :: (u ++ y)) = nameLen (d :: (u ++ x)) := nameLen_app (u := d :: u) hn y
    show nameR e (d :: (u ++ y)) = _
    simp only [nameR]
    rw [if_neg (by rw [e1]; exact h0), e1, ← h1]
    congr 1
    · show ((d :: u) ++ y).take _ = ((d :: u) ++ x).take _
      rw [List.take_append_of_le_length (by omega), List.take_append_of_le_length (by omega)]
    · show ((d :: u) ++ y).drop _ = _
      rw [List.drop_append_of_le_length (by omega)]
theorem nameR_bad (e : Int) : StayBad (nameR e) := by
  intro u x y e' v he hv h
  cases u with
  | nil =>
    have h1 := (suf_of_bad (nameR_suf e _) h).length_le
    have h2 := len_pos (x := x) hv.ne
    simp only [List.nil_append] at h1; omega
  | cons d u =>
    have h' : nameR e (d :: (u ++ x)) = .bad e' (v ++ x) := h
    simp only [nameR] at h'
    by_cases h0 : nameLen (d :: (u ++ x)) = 0
    · rw [if_pos h0] at h'
      simp only [Res.bad.injEq] at h'
      obtain ⟨rfl, h2⟩ := h'
      obtain rfl := List.append_cancel_right (show (d :: u) ++ x = v ++ x from h2)
      have e1 : nameLen (d :: (u ++ y)) = nameLen (d :: (u ++ x)) := nameLen_app (u := d :: u) (by show nameLen (d :: (u ++ x)) < _; rw [h0]; simp) y
      show nameR e (d :: (u ++ y)) = _
      simp only [nameR]
      rw [if_pos (by rw [e1]; exact h0)]; rfl
    · rw [if_neg h0] at h'; cases h'

/-! What stands up to an end. -/
theorem pre_app {p u : Bs} (h : p.length ≤ u.length) (x : Bs) : p.isPrefixOf (u ++ x) = p.isPrefixOf u := by
  induction p generalizing u with
  | nil => cases u <;> simp [List.isPrefixOf]
  | cons a p ih =>
    cases u with
    | nil => simp at h
    | cons c u => simp only [List.cons_append, List.isPrefixOf]; rw [ih (by simpa using h)]
theorem pre_long {p u x : Bs} (h : p.isPrefixOf (u ++ x) = true) (hl : u.length ≤ p.length) : ∀ c ∈ u, c ∈ p := by
  obtain ⟨t, ht⟩ := List.isPrefixOf_iff_prefix.1 h
  intro c hc
  have : u = p.take u.length := by
    have := congrArg (List.take u.length) ht
    rw [List.take_append_of_le_length hl, List.take_left] at this
    exact this.symm
  rw [this] at hc
  exact List.mem_of_mem_take hc

theorem plain_ok (til : Bs) : StayOk (plain til) := by
  intro u
  induction u with
  | nil =>
    intro x y a v hv h
    have h1 := (suf_of_ok (plain_suf til _) h).length_le
    have h2 := len_pos (x := x) hv
    simp only [List.nil_append] at h1; omega
  | cons c u ih =>
    intro x y a v hv h
    have hless := plain_less h
    have hvp := List.length_pos_iff.2 hv
    simp only [List.length_append] at hless
    have hp : til.isPrefixOf (c :: (u ++ y)) = til.isPrefixOf (c :: (u ++ x)) := by
      rw [show c :: (u ++ y) = (c :: u) ++ y from rfl, show c :: (u ++ x) = (c :: u) ++ x from rfl, pre_app (by omega), pre_app (by omega)]
    simp only [List.cons_append, plain] at h ⊢
    rw [hp]
    by_cases h1 : til.isPrefixOf (c :: (u ++ x)) = true
    · rw [if_pos h1] at h ⊢
      simp only [Res.ok.injEq] at h
      obtain ⟨hn, rfl⟩ := drop_keep (u := c :: u) hv h.2
      rw [h.1]
      congr 1
      show ((c :: u) ++ y).drop _ = _
      rw [List.drop_append_of_le_length (by omega)]
    · rw [if_neg h1] at h ⊢
      by_cases h2 : cText c = true
      · rw [if_pos h2] at h ⊢
        obtain ⟨a', h3, rfl⟩ := map_ok h
        rw [ih x y a' v hv h3]; rfl
      · rw [if_neg h2] at h; cases h
theorem plain_badAt {til l r : Bs} {e : Int} (he : e ≠ 13) (h : plain til l = .bad e r) : ∃ c r', r = c :: r' ∧ cText c = false := by
  induction l with
  | nil => simp only [plain] at h; split at h; cases h; cases h; exact absurd rfl he
  | cons c l ih =>
    simp only [plain] at h
    split at h
    · cases h
    · split at h
      · exact ih (map_bad h)
      · rename_i hc; cases h; exact ⟨c, l, rfl, by simpa using hc⟩
theorem plain_bad {til : Bs} (ht : ∀ c ∈ til, cText c = true) : StayBad (plain til) := by
  intro u
  induction u with
  | nil =>
    intro x y e v he hv h
    have h1 := (suf_of_bad (plain_suf til _) h).length_le
    have h2 := len_pos (x := x) hv.ne
    simp only [List.nil_append] at h1; omega
  | cons c u ih =>
    intro x y e v he hv h
    have he13 : e ≠ 13 := by rcases he with rfl | rfl | rfl <;> decide
    obtain ⟨d, r', hr, hd⟩ := plain_badAt he13 h
    have hsuf := suf_of_bad (plain_suf til _) h
    obtain ⟨v', hv', ev, hvu⟩ := suf_split hsuf (len_pos hv.ne)
    obtain rfl := List.append_cancel_right ev
    obtain ⟨v2, rfl⟩ : ∃ v2, v = d :: v2 := by
      cases v with
      | nil => exact absurd rfl hv.ne
      | cons a b => simp only [List.cons_append, List.cons.injEq] at hr; exact ⟨b, by rw [hr.1]⟩
    have hdu : d ∈ c :: u := hvu.subset (by simp)
    have hno : ∀ z : Bs, til.isPrefixOf (c :: (u ++ x)) = false → til.isPrefixOf (c :: (u ++ z)) = false := by
      intro z h1
      by_cases hl : til.length ≤ (c :: u).length
      · rw [show c :: (u ++ z) = (c :: u) ++ z from rfl, pre_app hl]
        rwa [show c :: (u ++ x) = (c :: u) ++ x from rfl, pre_app hl] at h1
      · cases hz : til.isPrefixOf (c :: (u ++ z)) with
        | false => rfl
        | true =>
          have := ht d (pre_long (u := c :: u) hz (by omega) d hdu)
          rw [hd] at this; cases this
    simp only [List.cons_append, plain] at h ⊢
    by_cases h1 : til.isPrefixOf (c :: (u ++ x)) = true
    · rw [if_pos h1] at h; cases h
    · rw [if_neg h1] at h
      rw [if_neg (by rw [hno y (Bool.eq_false_iff.2 h1)]; decide)]
      by_cases h2 : cText c = true
      · rw [if_pos h2] at h ⊢
        rw [ih x y e (d :: v2) he hv (map_bad h)]; rfl
      · rw [if_neg h2] at h ⊢
        simp only [Res.bad.injEq] at h
        rw [← h.1]
        have e1 : c :: u = d :: v2 := List.append_cancel_right (show (c :: u) ++ x = (d :: v2) ++ x from h.2)
        show Res.bad 10 ((c :: u) ++ y) = Res.bad 10 ((d :: v2) ++ y)
        rw [e1]

/-! References and letters. -/
theorem numRef_stay {hex : Bool} {a n : Nat} {u x t : Bs} (h : numRef hex a (u ++ x) = .ok t n) (hn : n ≤ a + u.length) (y : Bs) : numRef hex a (u ++ y) = .ok t n := by
  unfold numRef at h
  by_cases h1 : 8 < span (isDig hex) (u ++ x)
  · rw [if_pos h1] at h; cases h
  rw [if_neg h1] at h
  by_cases h2 : span (isDig hex) (u ++ x) = (u ++ x).length
  · rw [if_pos h2] at h; cases h
  rw [if_neg h2] at h
  by_cases h3 : span (isDig hex) (u ++ x) = 0 ∨ (u ++ x)[span (isDig hex) (u ++ x)]? ≠ some 59
  · rw [if_pos h3] at h; cases h
  rw [if_neg h3] at h
  by_cases h4 : okLetter (numV hex ((u ++ x).take (span (isDig hex) (u ++ x)))) = true
  · rw [if_pos h4] at h
    simp only [RefR.ok.injEq] at h
    have hlt : span (isDig hex) (u ++ x) < u.length := by omega
    have e1 := span_app hlt y
    have e2 : (u ++ y).take (span (isDig hex) (u ++ x)) = (u ++ x).take (span (isDig hex) (u ++ x)) := by
      rw [List.take_append_of_le_length (by omega), List.take_append_of_le_length (by omega)]
    have e3 : (u ++ y)[span (isDig hex) (u ++ x)]? = (u ++ x)[span (isDig hex) (u ++ x)]? := by
      rw [List.getElem?_append_left hlt, List.getElem?_append_left hlt]
    unfold numRef
    rw [e1, e2, e3, if_neg h1, if_neg (by rw [List.length_append]; omega), if_neg h3, if_pos h4, h.1, h.2]
  · rw [if_neg h4] at h; cases h
theorem numRef_min {hex : Bool} {a n : Nat} {l t : Bs} (h : numRef hex a l = .ok t n) : a + 2 ≤ n := by
  unfold numRef at h
  split at h
  · cases h
  split at h
  · cases h
  split at h
  · cases h
  rename_i h3
  split at h
  · simp only [not_or] at h3
    cases h; omega
  · cases h

/-- The branch of a word. -/
def wordRef (r : Bs) : RefR :=
  if span cLower r = r.length then
    if r.isPrefixOf wLt || r.isPrefixOf wGt || r.isPrefixOf wAmp || r.isPrefixOf wQuot || r.isPrefixOf wApos then .bad 13 else .bad 12
  else match named (r.take (span cLower r)) with
    | some t => if r[span cLower r]? = some 59 then .ok [t] (span cLower r + 2) else .bad 12
    | none => .bad 12
theorem refS_word {c : UInt8} {r : Bs} (h : c ≠ 35) : refSpec (38 :: c :: r) = wordRef (c :: r) := by
  simp only [refSpec, wordRef]
  rw [if_neg (by decide)]
  split
  · rename_i h1; cases h1; exact absurd rfl h
  · rfl
theorem refS_num {r : Bs} (h : r.head? ≠ some 120) : refSpec (38 :: 35 :: r) = numRef false 2 r := by
  simp only [refSpec]
  rw [if_neg (by decide)]
  split
  · exact absurd rfl h
  · rfl
theorem refS_hex (r : Bs) : refSpec (38 :: 35 :: 120 :: r) = numRef true 3 r := by
  simp only [refSpec]
  rw [if_neg (by decide)]
theorem wordRef_stay {n : Nat} {u x t : Bs} (h : wordRef (u ++ x) = .ok t n) (hn : n ≤ u.length + 1) (y : Bs) : wordRef (u ++ y) = .ok t n := by
  unfold wordRef at h
  by_cases h1 : span cLower (u ++ x) = (u ++ x).length
  · rw [if_pos h1] at h; split at h <;> cases h
  rw [if_neg h1] at h
  cases h2 : named ((u ++ x).take (span cLower (u ++ x))) with
  | none => rw [h2] at h; cases h
  | some t' =>
    rw [h2] at h
    simp only at h
    by_cases h3 : (u ++ x)[span cLower (u ++ x)]? = some 59
    · rw [if_pos h3] at h
      simp only [RefR.ok.injEq] at h
      have hlt : span cLower (u ++ x) < u.length := by omega
      have e1 := span_app hlt y
      have e2 : (u ++ y).take (span cLower (u ++ x)) = (u ++ x).take (span cLower (u ++ x)) := by
        rw [List.take_append_of_le_length (by omega), List.take_append_of_le_length (by omega)]
      have e3 : (u ++ y)[span cLower (u ++ x)]? = (u ++ x)[span cLower (u ++ x)]? := by
        rw [List.getElem?_append_left hlt, List.getElem?_append_left hlt]
      unfold wordRef
      rw [e1, e2, e3, if_neg (by rw [List.length_append]; omega), h2]
      simp only
      rw [if_pos h3, h.1, h.2]
    · rw [if_neg h3] at h; cases h
theorem wordRef_min {n : Nat} {l t : Bs} (h : wordRef l = .ok t n) : 2 ≤ n := by
  unfold wordRef at h
  split at h
  · split at h <;> cases h
  · split at h
    · split at h
      · cases h; omega
      · cases h
    · cases h

theorem ref_stay {n : Nat} {u x t : Bs} (h : refSpec (u ++ x) = .ok t n) (hn : n ≤ u.length) (y : Bs) : refSpec (u ++ y) = .ok t n := by
  have hmin := (refSpec_size h).1
  cases u with
  | nil => simp at hn; omega
  | cons c u =>
    by_cases hc : c = 38
    · subst hc
      cases u with
      | nil =>
        exfalso
        simp only [List.length_cons, List.length_nil] at hn
        cases x with
        | nil => simp [refSpec, span] at h
        | cons d x =>
          by_cases hd : d = 35
          · subst hd
            cases x with
            | nil => rw [show [38] ++ [35] = (38 :: 35 :: [] : Bs) from rfl, refS_num (by simp)] at h; have := numRef_min h; omega
            | cons f x =>
              by_cases hf : f = 120
              · subst hf; rw [show [38] ++ 35 :: 120 :: x = (38 :: 35 :: 120 :: x : Bs) from rfl, refS_hex] at h; have := numRef_min h; omega
              · rw [show [38] ++ 35 :: f :: x = (38 :: 35 :: f :: x : Bs) from rfl, refS_num (by simpa using hf)] at h; have := numRef_min h; omega
          · rw [show [38] ++ d :: x = (38 :: d :: x : Bs) from rfl, refS_word hd] at h; have := wordRef_min h; omega
      | cons d u =>
        by_cases hd : d = 35
        · subst hd
          cases u with
          | nil =>
            exfalso
            simp only [List.length_cons, List.length_nil] at hn
            cases x with
            | nil => rw [show [38, 35] ++ [] = (38 :: 35 :: [] : Bs) from rfl, refS_num (by simp)] at h; have := numRef_min h; omega
            | cons f x =>
              by_cases hf : f = 120
              · subst hf; rw [show [38, 35] ++ 120 :: x = (38 :: 35 :: 120 :: x : Bs) from rfl, refS_hex] at h; have := numRef_min h; omega
              · rw [show [38, 35] ++ f :: x = (38 :: 35 :: f :: x : Bs) from rfl, refS_num (by simpa using hf)] at h; have := numRef_min h; omega
          | cons f u =>
            simp only [List.length_cons] at hn
            by_cases hf : f = 120
            · subst hf
              have h' : refSpec (38 :: 35 :: 120 :: (u ++ x)) = .ok t n := h
              show refSpec (38 :: 35 :: 120 :: (u ++ y)) = _
              rw [refS_hex] at h' ⊢
              exact numRef_stay h' (by omega) y
            · have h' : refSpec (38 :: 35 :: ((f :: u) ++ x)) = .ok t n := h
              show refSpec (38 :: 35 :: ((f :: u) ++ y)) = _
              rw [refS_num (by simpa using hf)] at h' ⊢
              exact numRef_stay h' (by simp only [List.length_cons]; omega) y
        · have h' : refSpec (38 :: d :: (u ++ x)) = .ok t n := h
          show refSpec (38 :: d :: (u ++ y)) = _
          rw [refS_word hd] at h' ⊢
          exact wordRef_stay (u := d :: u) h' (by simp only [List.length_cons] at *; omega) y
    · simp only [List.cons_append, refSpec] at h
      rw [if_pos hc] at h; cases h

theorem refBad_12 {s : Bs} {e : Int} (h : refSpec s = .bad e) : e = 12 ∨ e = 13 := by
  have hn : ∀ hex a d, numRef hex a d = .bad e → e = 12 ∨ e = 13 := by
    intro hex a d h
    unfold numRef at h
    repeat' split at h
    all_goals (cases h <;> simp)
  cases s with
  | nil => cases h; exact .inr rfl
  | cons c r =>
    simp only [refSpec] at h
    repeat' split at h
    all_goals first
      | exact hn _ _ _ h
      | (cases h <;> simp)

theorem letters_ok (stop : UInt8) (u : Bs) : ∀ k x y a v, v ≠ [] → lettersGo stop k (u ++ x) = .ok a (v ++ x) → lettersGo stop k (u ++ y) = .ok a (v ++ y) := by
  induction u with
  | nil =>
    intro k x y a v hv h
    have h1 := (suf_of_ok (lettersGo_suf stop k _) h).length_le
    have h2 := len_pos (x := x) hv
    simp only [List.nil_append] at h1; omega
  | cons c u ih =>
    intro k x y a v hv h
    cases k with
    | succ k => exact ih k x y a v hv h
    | zero =>
      simp only [List.cons_append, lettersGo] at h ⊢
      by_cases h1 : c = stop
      · rw [if_pos h1] at h ⊢
        simp only [Res.ok.injEq] at h
        rw [h.1, ← List.append_cancel_right (show (c :: u) ++ x = v ++ x from h.2)]; rfl
      rw [if_neg h1] at h ⊢
      by_cases h2 : c = 38
      · rw [if_pos h2] at h ⊢
        cases hr : refSpec (c :: (u ++ x)) with
        | bad e => rw [hr] at h; cases h
        | ok t n =>
          rw [hr] at h
          obtain ⟨a', h3, rfl⟩ := map_ok h
          have h4 := h3
          rw [lettersGo_drop] at h4
          have h5 := (suf_of_ok (lettersGo_suf stop 0 _) h4).length_le
          have h6 := len_pos (x := x) hv
          simp only [List.length_drop, List.length_append] at h5 h6
          have hrn : refSpec (c :: (u ++ y)) = .ok t n := ref_stay (u := c :: u) hr (by simp only [List.length_cons]; omega) y
          rw [hrn]
          simp only
          rw [ih (n - 1) x y a' v hv h3]; rfl
      rw [if_neg h2] at h ⊢
      by_cases h3 : c = 60 ∨ cText c = false
      · rw [if_pos h3] at h; cases h
      rw [if_neg h3] at h ⊢
      obtain ⟨a', h4, rfl⟩ := map_ok h
      rw [ih 0 x y a' v hv h4]; rfl
theorem letters_bad (stop : UInt8) (u : Bs) : ∀ k x y e v, Bad3 e → Good v x → lettersGo stop k (u ++ x) = .bad e (v ++ x) → lettersGo stop k (u ++ y) = .bad e (v ++ y) := by
  induction u with
  | nil =>
    intro k x y e v he hv h
    have h1 := (suf_of_bad (lettersGo_suf stop k _) h).length_le
    have h2 := len_pos (x := x) hv.ne
    simp only [List.nil_append] at h1; omega
  | cons c u ih =>
    intro k x y e v he hv h
    cases k with
    | succ k => exact ih k x y e v he hv h
    | zero =>
      simp only [List.cons_append, lettersGo] at h ⊢
      by_cases h1 : c = stop
      · rw [if_pos h1] at h; cases h
      rw [if_neg h1] at h ⊢
      by_cases h2 : c = 38
      · rw [if_pos h2] at h ⊢
        cases hr : refSpec (c :: (u ++ x)) with
        | bad e' =>
          rw [hr] at h
          simp only [Res.bad.injEq] at h
          have := refBad_12 hr
          rw [h.1] at this
          rcases he with rfl | rfl | rfl <;> rcases this with h | h <;> cases h
        | ok t n =>
          rw [hr] at h
          have h3 := map_bad h
          have h4 := h3
          rw [lettersGo_drop] at h4
          have h5 := (suf_of_bad (lettersGo_suf stop 0 _) h4).length_le
          have h6 := len_pos (x := x) hv.ne
          simp only [List.length_drop, List.length_append] at h5 h6
          have hrn : refSpec (c :: (u ++ y)) = .ok t n := ref_stay (u := c :: u) hr (by simp only [List.length_cons]; omega) y
          rw [hrn]
          simp only
          rw [ih (n - 1) x y e v he hv h3]; rfl
      rw [if_neg h2] at h ⊢
      by_cases h3 : c = 60 ∨ cText c = false
      · rw [if_pos h3] at h ⊢
        simp only [Res.bad.injEq] at h
        rw [h.1, ← List.append_cancel_right (show (c :: u) ++ x = v ++ x from h.2)]; rfl
      rw [if_neg h3] at h ⊢
      rw [ih 0 x y e v he hv (map_bad h)]; rfl

theorem valueR_ok : StayOk valueR := by
  intro u x y a v hv h
  cases u with
  | nil =>
    have h1 := (suf_of_ok (valueR_suf _) h).length_le
    have h2 := len_pos (x := x) hv
    simp only [List.nil_append] at h1; omega
  | cons q u =>
    simp only [List.cons_append, valueR] at h ⊢
    by_cases hq : q = 34 ∨ q = 39
    · rw [if_pos hq] at h ⊢
      obtain ⟨s, r, h1, h2⟩ := bind_ok h
      cases r with
      | nil => cases h2
      | cons z r =>
        simp only [Res.ok.injEq] at h2
        obtain ⟨rfl, rfl⟩ := h2
        have h3 : letters q (u ++ y) = .ok s (z :: v ++ y) := letters_ok q u 0 x y s (z :: v) (by simp) h1
        rw [h3]; rfl
    · rw [if_neg hq] at h; cases h
theorem valueR_bad : StayBad valueR := by
  intro u x y e v he hv h
  cases u with
  | nil =>
    have h1 := (suf_of_bad (valueR_suf _) h).length_le
    have h2 := len_pos (x := x) hv.ne
    simp only [List.nil_append] at h1; omega
  | cons q u =>
    simp only [List.cons_append, valueR] at h ⊢
    by_cases hq : q = 34 ∨ q = 39
    · rw [if_pos hq] at h ⊢
      rcases bind_bad h with h1 | ⟨s, r, h1, h2⟩
      · have h3 : letters q (u ++ y) = .bad e (v ++ y) := letters_bad q u 0 x y e v he hv h1
        rw [h3]; rfl
      · cases r with
        | nil => simp only [Res.bad.injEq] at h2; rcases he with rfl | rfl | rfl <;> cases h2.1
        | cons z r => cases h2
    · rw [if_neg hq] at h ⊢
      simp only [Res.bad.injEq] at h
      rw [h.1, ← List.append_cancel_right (show (q :: u) ++ x = v ++ x from h.2)]; rfl

/-- What stands behind an attribute's name. -/
def restR (nm : Bs) (r : Bs) : Res At2 := (wantC 61 (blanks r)).bind fun _ r' => (valueR (blanks r')).map fun v => (nm, v)
theorem restR_suf (nm l : Bs) : (restR nm l).Suf l :=
  Res.Suf.bind ((wantC_suf _ _).trans (blanks_suf _)) fun _ r _ => ((valueR_suf _).trans (blanks_suf r)).map _
theorem restR_ok (nm : Bs) : StayOk (restR nm) :=
  StayOk.bind ((wantC_ok 61).blanks fun l => wantC_suf 61 l) (fun l => (wantC_suf 61 _).trans (blanks_suf l)) (fun _ => (valueR_ok.blanks valueR_suf).map _) (fun _ l => ((valueR_suf _).trans (blanks_suf l)).map _)
theorem restR_bad (nm : Bs) : StayBad (restR nm) :=
  StayBad.bind ((wantC_ok 61).blanks fun l => wantC_suf 61 l) ((wantC_bad 61).blanks fun l => wantC_suf 61 l) (fun l => (wantC_suf 61 _).trans (blanks_suf l)) (fun _ => (valueR_bad.blanks valueR_suf).map _) (fun _ l => ((valueR_suf _).trans (blanks_suf l)).map _)
theorem attrR_eq (acc : List At2) (l : Bs) : attrR acc l = (nameR 10 l).bind fun nm r => if acc.any (fun a => a.1 == nm) then .bad 15 l else restR nm r := rfl
theorem attrR_ok (acc : List At2) : StayOk (attrR acc) := by
  intro u x y a v hv h
  rw [attrR_eq] at h ⊢
  obtain ⟨nm, r, h1, h2⟩ := bind_ok h
  by_cases hd : (acc.any fun a => a.1 == nm) = true
  · rw [if_pos hd] at h2; cases h2
  · rw [if_neg hd] at h2
    have hr := (suf_of_ok (restR_suf nm r) h2).length_le
    obtain ⟨v', hv', rfl, -⟩ := suf_split (suf_of_ok (nameR_suf 10 _) h1) (Nat.lt_of_lt_of_le (len_pos hv) hr)
    rw [nameR_ok 10 u x y nm v' hv' h1]
    show (if (acc.any fun a => a.1 == nm) then _ else restR nm (v' ++ y)) = _
    rw [if_neg hd]
    exact restR_ok nm v' x y a v hv h2
theorem attrR_bad (acc : List At2) : StayBad (attrR acc) := by
  intro u x y e v he hv h
  rw [attrR_eq] at h ⊢
  rcases bind_bad h with h1 | ⟨nm, r, h1, h2⟩
  · rw [nameR_bad 10 u x y e v he hv h1]; rfl
  · by_cases hd : (acc.any fun a => a.1 == nm) = true
    · rw [if_pos hd] at h2
      simp only [Res.bad.injEq] at h2
      obtain rfl := List.append_cancel_right h2.2
      have hr : r = (u ++ x).drop (nameLen (u ++ x)) := by
        cases hux : u ++ x with
        | nil => rw [hux] at h1; cases h1
        | cons c l =>
          rw [hux] at h1
          simp only [nameR] at h1
          split at h1
          · cases h1
          · cases h1; rfl
      have hlt := hv.name
      rw [List.drop_append_of_le_length (by omega)] at hr
      subst hr
      have hne : u.drop (nameLen (u ++ x)) ≠ [] := fun e => by
        have := congrArg List.length e
        simp at this; omega
      rw [nameR_ok 10 u x y nm _ hne h1]
      show (if (acc.any fun a => a.1 == nm) then Res.bad 15 (u ++ y) else restR nm _) = _
      rw [if_pos hd, h2.1]
    · rw [if_neg hd] at h2
      have hr := (suf_of_bad (restR_suf nm r) h2).length_le
      obtain ⟨v', hv', rfl, -⟩ := suf_split (suf_of_ok (nameR_suf 10 _) h1) (Nat.lt_of_lt_of_le (len_pos hv.ne) hr)
      rw [nameR_ok 10 u x y nm v' hv' h1]
      show (if (acc.any fun a => a.1 == nm) then _ else restR nm (v' ++ y)) = _
      rw [if_neg hd]
      exact restR_bad nm v' x y e v he hv h2

theorem tagEnds_stay {u x v : Bs} (hv : v ≠ []) (h : blanks (u ++ x) = v ++ x) (y : Bs) : tagEnds (u ++ y) = tagEnds (u ++ x) := by
  have h2 := blanks_stay hv h y
  unfold tagEnds
  rw [h, h2]
  cases v with
  | nil => exact absurd rfl hv
  | cons c v =>
    have e1 : decide ((c :: v ++ y).length = (u ++ y).length) = decide ((c :: v ++ x).length = (u ++ x).length) := by
      rw [decide_eq_decide]; simp only [List.length_append]; omega
    rw [e1]; rfl
theorem attrR_shr {acc : List At2} {l r : Bs} {a : At2} (h : attrR acc l = .ok a r) : r.length + 1 ≤ l.length := by
  rw [attrR_eq] at h
  obtain ⟨nm, r1, h1, h2⟩ := bind_ok h
  have := nameR_len h1
  split at h2
  · cases h2
  · have := (suf_of_ok (restR_suf nm r1) h2).length_le
    omega
theorem attrsGo_ok (f : Nat) : ∀ acc u x a v, v ≠ [] → attrsGo f acc (u ++ x) = .ok a (v ++ x) → ∀ f' y, u.length < f' → attrsGo f' acc (u ++ y) = .ok a (v ++ y) := by
  induction f with
  | zero => intro acc u x a v hv h; cases h
  | succ f ih =>
    intro acc u x a v hv h f' y hf
    obtain ⟨f', rfl⟩ : ∃ g, f' = g + 1 := ⟨f' - 1, by omega⟩
    simp only [attrsGo] at h ⊢
    by_cases ht : tagEnds (u ++ x) = true
    · rw [if_pos ht] at h
      simp only [Res.ok.injEq] at h
      rw [tagEnds_stay hv h.2 y, if_pos ht, blanks_stay hv h.2 y, h.1]
    · rw [if_neg ht] at h
      cases ha : attrR acc (blanks (u ++ x)) with
      | bad e r => rw [ha] at h; cases h
      | ok p r =>
        rw [ha] at h
        simp only at h
        have hs1 := suf_of_ok (attrsGo_suf f _ r) h
        have hs2 := suf_of_ok (attrR_suf acc _) ha
        obtain ⟨v2, hv2, e2, hu2⟩ := suf_split (blanks_suf (u ++ x)) (Nat.lt_of_lt_of_le (len_pos hv) (hs1.trans hs2).length_le)
        rw [e2] at ha hs2
        obtain ⟨v1, hv1, rfl, hu1⟩ := suf_split hs2 (Nat.lt_of_lt_of_le (len_pos hv) hs1.length_le)
        have hl := attrR_shr ha
        have hl2 := hu2.length_le
        simp only [List.length_append] at hl
        rw [tagEnds_stay hv2 e2 y, if_neg ht, blanks_stay hv2 e2 y, attrR_ok acc v2 x y p v1 hv1 ha]
        exact ih _ v1 x a v hv h f' y (by omega)
theorem attrsGo_bad (f : Nat) : ∀ acc u x e v, Bad3 e → Good v x → attrsGo f acc (u ++ x) = .bad e (v ++ x) → ∀ f' y, u.length < f' → attrsGo f' acc (u ++ y) = .bad e (v ++ y) := by
  induction f with
  | zero => intro acc u x e v he hv h; simp only [attrsGo, Res.bad.injEq] at h; rcases he with rfl | rfl | rfl <;> cases h.1
  | succ f ih =>
    intro acc u x e v he hv h f' y hf
    obtain ⟨f', rfl⟩ : ∃ g, f' = g + 1 := ⟨f' - 1, by omega⟩
    simp only [attrsGo] at h ⊢
    by_cases ht : tagEnds (u ++ x) = true
    · rw [if_pos ht] at h; cases h
    · rw [if_neg ht] at h
      cases ha : attrR acc (blanks (u ++ x)) with
      | bad e' r =>
        rw [ha] at h
        simp only [Res.bad.injEq] at h
        obtain ⟨rfl, rfl⟩ := h
        obtain ⟨v2, hv2, e2, hu2⟩ := suf_split (blanks_suf (u ++ x)) (Nat.lt_of_lt_of_le (len_pos hv.ne) (suf_of_bad (attrR_suf acc _) ha).length_le)
        rw [e2] at ha
        rw [tagEnds_stay hv2 e2 y, if_neg ht, blanks_stay hv2 e2 y, attrR_bad acc v2 x y e' v he hv ha]
      | ok p r =>
        rw [ha] at h
        simp only at h
        have hs1 := suf_of_bad (attrsGo_suf f _ r) h
        have hs2 := suf_of_ok (attrR_suf acc _) ha
        obtain ⟨v2, hv2, e2, hu2⟩ := suf_split (blanks_suf (u ++ x)) (Nat.lt_of_lt_of_le (len_pos hv.ne) (hs1.trans hs2).length_le)
        rw [e2] at ha hs2
        obtain ⟨v1, hv1, rfl, hu1⟩ := suf_split hs2 (Nat.lt_of_lt_of_le (len_pos hv.ne) hs1.length_le)
        have hl := attrR_shr ha
        have hl2 := hu2.length_le
        simp only [List.length_append] at hl
        rw [tagEnds_stay hv2 e2 y, if_neg ht, blanks_stay hv2 e2 y, attrR_ok acc v2 x y p v1 hv1 ha]
        exact ih _ v1 x e v he hv h f' y (by omega)
theorem attrsR_ok : StayOk attrsR := fun u x y a v hv h => attrsGo_ok _ [] u x a v hv h _ y (by simp only [List.length_append]; omega)
theorem attrsR_bad : StayBad attrsR := fun u x y e v he hv h => attrsGo_bad _ [] u x e v he hv h _ y (by simp only [List.length_append]; omega)

theorem closeR_ok : StayOk closeR := StayOk.bind (nameR_ok 11) (nameR_suf 11) (fun _ => ((wantC_ok 62).blanks fun l => wantC_suf 62 l).map _) (fun _ l => ((wantC_suf 62 _).trans (blanks_suf l)).map _)
theorem closeR_bad : StayBad closeR := StayBad.bind (nameR_ok 11) (nameR_bad 11) (nameR_suf 11) (fun _ => ((wantC_bad 62).blanks fun l => wantC_suf 62 l).map _) (fun _ l => ((wantC_suf 62 _).trans (blanks_suf l)).map _)
/-- What stands behind a tag's attributes. -/
def endR (nm : Bs) (ats : List At2) (r' : Bs) : Res Tk := match r' with
  | 47 :: r'' => (wantC 62 r'').map fun _ => ⟨2, nm, ats, []⟩
  | _ => (wantC 62 r').map fun _ => ⟨1, nm, ats, []⟩
theorem endR_47 (nm : Bs) (ats : List At2) (r : Bs) : endR nm ats (47 :: r) = (wantC 62 r).map fun _ => ⟨2, nm, ats, []⟩ := rfl
theorem endR_no (nm : Bs) (ats : List At2) {c : UInt8} (r : Bs) (h : c ≠ 47) : endR nm ats (c :: r) = (wantC 62 (c :: r)).map fun _ => ⟨1, nm, ats, []⟩ := by
  unfold endR
  split
  · rename_i h1; cases h1; exact absurd rfl h
  · rfl
theorem endR_suf (nm : Bs) (ats : List At2) (l : Bs) : (endR nm ats l).Suf l := by
  cases l with
  | nil => exact (wantC_suf 62 []).map fun _ => (⟨1, nm, ats, []⟩ : Tk)
  | cons c l =>
    by_cases h : c = 47
    · subst h; exact ((wantC_suf 62 l).map _).trans (List.suffix_cons _ _)
    · rw [endR_no nm ats l h]; exact (wantC_suf 62 _).map _
theorem endR_ok (nm : Bs) (ats : List At2) : StayOk (endR nm ats) := by
  intro u x y a v hv h
  cases u with
  | nil =>
    have h1 := (suf_of_ok (endR_suf nm ats _) h).length_le
    have h2 := len_pos (x := x) hv
    simp only [List.nil_append] at h1; omega
  | cons c u =>
    by_cases hc : c = 47
    · subst hc; exact ((wantC_ok 62).map fun _ => (⟨2, nm, ats, []⟩ : Tk)) u x y a v hv h
    · have h' : endR nm ats (c :: (u ++ x)) = .ok a (v ++ x) := h
      rw [endR_no nm ats _ hc] at h'
      show endR nm ats (c :: (u ++ y)) = _
      rw [endR_no nm ats _ hc]
      exact ((wantC_ok 62).map fun _ => (⟨1, nm, ats, []⟩ : Tk)) (c :: u) x y a v hv h'
theorem endR_bad (nm : Bs) (ats : List At2) : StayBad (endR nm ats) := by
  intro u x y e v he hv h
  cases u with
  | nil =>
    have h1 := (suf_of_bad (endR_suf nm ats _) h).length_le
    have h2 := len_pos (x := x) hv.ne
    simp only [List.nil_append] at h1; omega
  | cons c u =>
    by_cases hc : c = 47
    · subst hc; exact ((wantC_bad 62).map fun _ => (⟨2, nm, ats, []⟩ : Tk)) u x y e v he hv h
    · have h' : endR nm ats (c :: (u ++ x)) = .bad e (v ++ x) := h
      rw [endR_no nm ats _ hc] at h'
      show endR nm ats (c :: (u ++ y)) = _
      rw [endR_no nm ats _ hc]
      exact ((wantC_bad 62).map fun _ => (⟨1, nm, ats, []⟩ : Tk)) (c :: u) x y e v he hv h'
theorem openR_eq (l : Bs) : openR l = (nameR 11 l).bind fun nm r => (attrsR r).bind fun ats r' => endR nm ats r' := rfl
theorem openR_ok : StayOk openR := StayOk.bind (nameR_ok 11) (nameR_suf 11) (fun nm => attrsR_ok.bind attrsR_suf (fun ats => endR_ok nm ats) (fun ats l => endR_suf nm ats l)) (fun nm l => Res.Suf.bind (attrsR_suf l) fun ats r _ => endR_suf nm ats r)
theorem openR_bad : StayBad openR := StayBad.bind (nameR_ok 11) (nameR_bad 11) (nameR_suf 11) (fun nm => StayBad.bind attrsR_ok attrsR_bad attrsR_suf (fun ats => endR_bad nm ats) (fun ats l => endR_suf nm ats l)) (fun nm l => Res.Suf.bind (attrsR_suf l) fun ats r _ => endR_suf nm ats r)

theorem openR_no {c : UInt8} (h : cFirst c = false) (l : Bs) : openR (c :: l) = .bad 11 (c :: l) := by
  rw [openR_eq]
  have : nameLen (c :: l) = 0 := by simp [nameLen, h]
  simp [nameR, this, Res.bind]

theorem tokS_33 (first : Bool) (l : Bs) : tokenR first (60 :: 33 :: l) = if sNote.isPrefixOf (60 :: 33 :: l) then (plain eNote ((60 :: 33 :: l).drop 4)).map fun t => ⟨5, [], [], t⟩
    else if sData.isPrefixOf (60 :: 33 :: l) then (plain eData ((60 :: 33 :: l).drop 9)).map fun t => ⟨4, [], [], t⟩ else .bad 11 (33 :: l) := by
  have h3 : isHead (60 :: 33 :: l) = false := by simp [isHead, sHead, List.isPrefixOf]
  unfold tokenR
  rw [h3, Bool.and_false]
  simp only [Bool.false_eq_true, if_false]
  rw [← openR_no (show cFirst 33 = false by decide) l]; rfl
theorem tokS_63 (first : Bool) (l : Bs) : tokenR first (60 :: 63 :: l) = if first && isHead (60 :: 63 :: l) then (plain eHead ((60 :: 63 :: l).drop 5)).map fun t => ⟨6, [], [], t⟩ else .bad 11 (63 :: l) := by
  have h1 : sNote.isPrefixOf (60 :: 63 :: l) = false := by simp [sNote, List.isPrefixOf]
  have h2 : sData.isPrefixOf (60 :: 63 :: l) = false := by simp [sData, List.isPrefixOf]
  unfold tokenR
  rw [h1, h2]
  simp only [Bool.false_eq_true, if_false]
  rw [← openR_no (show cFirst 63 = false by decide) l]; rfl
theorem tokS_47 (first : Bool) (l : Bs) : tokenR first (60 :: 47 :: l) = closeR l := by
  have h1 : sNote.isPrefixOf (60 :: 47 :: l) = false := by simp [sNote, List.isPrefixOf]
  have h2 : sData.isPrefixOf (60 :: 47 :: l) = false := by simp [sData, List.isPrefixOf]
  have h3 : isHead (60 :: 47 :: l) = false := by simp [isHead, sHead, List.isPrefixOf]
  unfold tokenR
  rw [h1, h2, h3]
  simp
theorem tokS_open (first : Bool) {c : UInt8} (l : Bs) (h33 : c ≠ 33) (h63 : c ≠ 63) (h47 : c ≠ 47) : tokenR first (60 :: c :: l) = openR (c :: l) := by
  have h1 : sNote.isPrefixOf (60 :: c :: l) = false := by simp [sNote, List.isPrefixOf, Ne.symm h33]
  have h2 : sData.isPrefixOf (60 :: c :: l) = false := by simp [sData, List.isPrefixOf, Ne.symm h33]
  have h3 : isHead (60 :: c :: l) = false := by simp [isHead, sHead, List.isPrefixOf, Ne.symm h63]
  unfold tokenR
  rw [h1, h2, h3]
  simp only [Bool.false_eq_true, if_false, Bool.and_false]
  split
  · rename_i e; cases e; exact absurd rfl h47
  · rename_i e; cases e; rfl
  · rename_i h4; exact absurd rfl (h4 _)

theorem tok_less (first : Bool) (l : Bs) : (tokenR first (60 :: l)).Suf l := by
  cases l with
  | nil =>
    have : tokenR first [60] = .bad 13 [] := by cases first <;> rfl
    rw [this]; exact List.suffix_refl _
  | cons c l =>
    by_cases h33 : c = 33
    · subst h33
      rw [tokS_33]
      split
      · exact ((plain_suf _ _).map _).trans (show l.drop 2 <:+ 33 :: l from (List.drop_suffix _ _).trans (List.suffix_cons _ _))
      · split
        · exact ((plain_suf _ _).map _).trans (show l.drop 7 <:+ 33 :: l from (List.drop_suffix _ _).trans (List.suffix_cons _ _))
        · exact List.suffix_refl _
    by_cases h63 : c = 63
    · subst h63
      rw [tokS_63]
      split
      · exact ((plain_suf _ _).map _).trans (show l.drop 3 <:+ 63 :: l from (List.drop_suffix _ _).trans (List.suffix_cons _ _))
      · exact List.suffix_refl _
    by_cases h47 : c = 47
    · subst h47; rw [tokS_47]; exact (closeR_suf l).trans (List.suffix_cons _ _)
    · rw [tokS_open first l h33 h63 h47]; exact openR_suf _

theorem head_app {u x : Bs} (h : 6 ≤ u.length) (y : Bs) : isHead (u ++ y) = isHead (u ++ x) := by
  unfold isHead
  rw [pre_app (by simp [sHead]; omega), pre_app (by simp [sHead]; omega), List.getElem?_append_left (by omega), List.getElem?_append_left (by omega)]

theorem eNote_text : ∀ c ∈ eNote, cText c = true := by decide
theorem eData_text : ∀ c ∈ eData, cText c = true := by decide
theorem eHead_text : ∀ c ∈ eHead, cText c = true := by decide

theorem tokenR_ok (first : Bool) : StayOk (tokenR first) := by
  intro u x y a v hv h
  have hsuf := suf_of_ok (tokenR_suf first _) h
  obtain ⟨v0, hv0, ev, hvu⟩ := suf_split hsuf (len_pos hv)
  obtain rfl := List.append_cancel_right ev
  have hvp := List.length_pos_iff.2 hv
  cases u with
  | nil => exact absurd (List.suffix_nil.1 hvu) hv
  | cons c u =>
    by_cases hc : c = 60
    · subst hc
      have hs2 := (suf_of_ok (tok_less first (u ++ x)) h).length_le
      simp only [List.length_append] at hs2
      cases u with
      | nil => simp only [List.length_nil] at hs2; omega
      | cons d u =>
        simp only [List.cons_append] at h ⊢
        by_cases h33 : d = 33
        · subst h33
          rw [tokS_33] at h ⊢
          by_cases h1 : sNote.isPrefixOf (60 :: 33 :: (u ++ x)) = true
          · rw [if_pos h1] at h
            obtain ⟨t, h2, rfl⟩ := map_ok h
            have hl := (suf_of_ok (plain_suf _ _) h2).length_le
            obtain ⟨z, hz⟩ := List.isPrefixOf_iff_prefix.1 h1
            have hlz := congrArg List.length hz
            simp only [sNote, List.length_append, List.length_cons, List.length_nil, List.length_drop] at hl hlz
            have hlu : 2 ≤ u.length := by omega
            have h1' : sNote.isPrefixOf (60 :: 33 :: (u ++ y)) = true := by
              rw [← h1]
              show sNote.isPrefixOf ((60 :: 33 :: u) ++ y) = sNote.isPrefixOf ((60 :: 33 :: u) ++ x)
              rw [pre_app (by simp [sNote]; omega), pre_app (by simp [sNote]; omega)]
            rw [if_pos h1']
            have hd : ∀ z : Bs, (60 :: 33 :: (u ++ z)).drop 4 = u.drop 2 ++ z := fun z => by
              show (u ++ z).drop 2 = _
              exact List.drop_append_of_le_length (by omega)
            rw [hd] at h2 ⊢
            rw [plain_ok eNote _ x y t v hv h2]; rfl
          · rw [if_neg h1] at h
            by_cases h3 : sData.isPrefixOf (60 :: 33 :: (u ++ x)) = true
            · rw [if_pos h3] at h
              obtain ⟨t, h2, rfl⟩ := map_ok h
              have hl := (suf_of_ok (plain_suf _ _) h2).length_le
              obtain ⟨z, hz⟩ := List.isPrefixOf_iff_prefix.1 h3
              have hlz := congrArg List.length hz
              simp only [sData, List.length_append, List.length_cons, List.length_nil, List.length_drop] at hl hlz
              have hlu : 7 ≤ u.length := by omega
              have h1' : ¬ sNote.isPrefixOf (60 :: 33 :: (u ++ y)) = true := by
                rw [show sNote.isPrefixOf (60 :: 33 :: (u ++ y)) = sNote.isPrefixOf (60 :: 33 :: (u ++ x)) from by
                  show sNote.isPrefixOf ((60 :: 33 :: u) ++ y) = sNote.isPrefixOf ((60 :: 33 :: u) ++ x)
                  rw [pre_app (by simp [sNote]; omega), pre_app (by simp [sNote]; omega)]]
                exact h1
              have h3' : sData.isPrefixOf (60 :: 33 :: (u ++ y)) = true := by
                rw [← h3]
                show sData.isPrefixOf ((60 :: 33 :: u) ++ y) = sData.isPrefixOf ((60 :: 33 :: u) ++ x)
                rw [pre_app (by simp [sData]; omega), pre_app (by simp [sData]; omega)]
              rw [if_neg h1', if_pos h3']
              have hd : ∀ z : Bs, (60 :: 33 :: (u ++ z)).drop 9 = u.drop 7 ++ z := fun z => by
                show (u ++ z).drop 7 = _
                exact List.drop_append_of_le_length (by omega)
              rw [hd] at h2 ⊢
              rw [plain_ok eData _ x y t v hv h2]; rfl
            · rw [if_neg h3] at h; cases h
        by_cases h63 : d = 63
        · subst h63
          rw [tokS_63] at h ⊢
          by_cases h1 : (first && isHead (60 :: 63 :: (u ++ x))) = true
          · rw [if_pos h1] at h
            obtain ⟨t, h2, rfl⟩ := map_ok h
            have hl := (suf_of_ok (plain_suf _ _) h2).length_le
            have hh := h1
            rw [Bool.and_eq_true] at hh
            have hh2 := hh.2
            unfold isHead at hh2
            rw [Bool.and_eq_true] at hh2
            obtain ⟨z, hz⟩ := List.isPrefixOf_iff_prefix.1 hh2.1
            have hlz := congrArg List.length hz
            simp only [sHead, List.length_append, List.length_cons, List.length_nil, List.length_drop] at hl hlz
            have hlu : 4 ≤ u.length := by omega
            rw [show isHead (60 :: 63 :: (u ++ y)) = isHead (60 :: 63 :: (u ++ x)) from head_app (u := 60 :: 63 :: u) (by simp; omega) y, if_pos h1]
            have hd : ∀ z : Bs, (60 :: 63 :: (u ++ z)).drop 5 = u.drop 3 ++ z := fun z => by
              show (u ++ z).drop 3 = _
              exact List.drop_append_of_le_length (by omega)
            rw [hd] at h2 ⊢
            rw [plain_ok eHead _ x y t v hv h2]; rfl
          · rw [if_neg h1] at h; cases h
        by_cases h47 : d = 47
        · subst h47
          rw [tokS_47] at h ⊢
          exact closeR_ok u x y a v hv h
        · rw [tokS_open first _ h33 h63 h47] at h ⊢
          exact openR_ok (d :: u) x y a v hv h
    · have ht : ∀ z : Bs, tokenR first ((c :: u) ++ z) = (letters 60 ((c :: u) ++ z)).map fun t => ⟨4, [], [], t⟩ := fun z => tokenR_text first (by simpa using hc)
      rw [ht] at h ⊢
      obtain ⟨t, h2, rfl⟩ := map_ok h
      have h3 : letters 60 ((c :: u) ++ y) = .ok t (v ++ y) := letters_ok 60 (c :: u) 0 x y t v hv h2
      rw [h3]; rfl
theorem tokenR_bad (first : Bool) : StayBad (tokenR first) := by
  intro u x y e v he hg h
  have hv := hg.ne
  have hsuf := suf_of_bad (tokenR_suf first _) h
  obtain ⟨v0, hv0, ev, hvu⟩ := suf_split hsuf (len_pos hv)
  obtain rfl := List.append_cancel_right ev
  have hvp := List.length_pos_iff.2 hv
  cases u with
  | nil => exact absurd (List.suffix_nil.1 hvu) hv
  | cons c u =>
    by_cases hc : c = 60
    · subst hc
      have hs2 := (suf_of_bad (tok_less first (u ++ x)) h).length_le
      simp only [List.length_append] at hs2
      cases u with
      | nil => simp only [List.length_nil] at hs2; omega
      | cons d u =>
        simp only [List.cons_append] at h ⊢
        by_cases h33 : d = 33
        · subst h33
          rw [tokS_33] at h ⊢
          by_cases h1 : sNote.isPrefixOf (60 :: 33 :: (u ++ x)) = true
          · rw [if_pos h1] at h
            have h2 := map_bad h
            have hl := (suf_of_bad (plain_suf _ _) h2).length_le
            obtain ⟨z, hz⟩ := List.isPrefixOf_iff_prefix.1 h1
            have hlz := congrArg List.length hz
            simp only [sNote, List.length_append, List.length_cons, List.length_nil, List.length_drop] at hl hlz
            have hlu : 2 ≤ u.length := by omega
            have h1' : sNote.isPrefixOf (60 :: 33 :: (u ++ y)) = true := by
              rw [← h1]
              show sNote.isPrefixOf ((60 :: 33 :: u) ++ y) = sNote.isPrefixOf ((60 :: 33 :: u) ++ x)
              rw [pre_app (by simp [sNote]; omega), pre_app (by simp [sNote]; omega)]
            rw [if_pos h1']
            have hd : ∀ z : Bs, (60 :: 33 :: (u ++ z)).drop 4 = u.drop 2 ++ z := fun z => by
              show (u ++ z).drop 2 = _
              exact List.drop_append_of_le_length (by omega)
            rw [hd] at h2 ⊢
            rw [plain_bad eNote_text _ x y e v he hg h2]; rfl
          · rw [if_neg h1] at h
            by_cases h3 : sData.isPrefixOf (60 :: 33 :: (u ++ x)) = true
            · rw [if_pos h3] at h
              have h2 := map_bad h
              have hl := (suf_of_bad (plain_suf _ _) h2).length_le
              obtain ⟨z, hz⟩ := List.isPrefixOf_iff_prefix.1 h3
              have hlz := congrArg List.length hz
              simp only [sData, List.length_append, List.length_cons, List.length_nil, List.length_drop] at hl hlz
              have hlu : 7 ≤ u.length := by omega
              have h1' : ¬ sNote.isPrefixOf (60 :: 33 :: (u ++ y)) = true := by
                rw [show sNote.isPrefixOf (60 :: 33 :: (u ++ y)) = sNote.isPrefixOf (60 :: 33 :: (u ++ x)) from by
                  show sNote.isPrefixOf ((60 :: 33 :: u) ++ y) = sNote.isPrefixOf ((60 :: 33 :: u) ++ x)
                  rw [pre_app (by simp [sNote]; omega), pre_app (by simp [sNote]; omega)]]
                exact h1
              have h3' : sData.isPrefixOf (60 :: 33 :: (u ++ y)) = true := by
                rw [← h3]
                show sData.isPrefixOf ((60 :: 33 :: u) ++ y) = sData.isPrefixOf ((60 :: 33 :: u) ++ x)
                rw [pre_app (by simp [sData]; omega), pre_app (by simp [sData]; omega)]
              rw [if_neg h1', if_pos h3']
              have hd : ∀ z : Bs, (60 :: 33 :: (u ++ z)).drop 9 = u.drop 7 ++ z := fun z => by
                show (u ++ z).drop 7 = _
                exact List.drop_append_of_le_length (by omega)
              rw [hd] at h2 ⊢
              rw [plain_bad eData_text _ x y e v he hg h2]; rfl
            · rw [if_neg h3] at h
              simp only [Res.bad.injEq] at h
              have := List.append_cancel_right (show (33 :: u) ++ x = v ++ x from h.2)
              exact absurd (by rw [← this]; rfl) hg.no33
        by_cases h63 : d = 63
        · subst h63
          rw [tokS_63] at h ⊢
          by_cases h1 : (first && isHead (60 :: 63 :: (u ++ x))) = true
          · rw [if_pos h1] at h
            have h2 := map_bad h
            have hl := (suf_of_bad (plain_suf _ _) h2).length_le
            have hh := h1
            rw [Bool.and_eq_true] at hh
            have hh2 := hh.2
            unfold isHead at hh2
            rw [Bool.and_eq_true] at hh2
            obtain ⟨z, hz⟩ := List.isPrefixOf_iff_prefix.1 hh2.1
            have hlz := congrArg List.length hz
            simp only [sHead, List.length_append, List.length_cons, List.length_nil, List.length_drop] at hl hlz
            have hlu : 4 ≤ u.length := by omega
            rw [show isHead (60 :: 63 :: (u ++ y)) = isHead (60 :: 63 :: (u ++ x)) from head_app (u := 60 :: 63 :: u) (by simp; omega) y, if_pos h1]
            have hd : ∀ z : Bs, (60 :: 63 :: (u ++ z)).drop 5 = u.drop 3 ++ z := fun z => by
              show (u ++ z).drop 3 = _
              exact List.drop_append_of_le_length (by omega)
            rw [hd] at h2 ⊢
            rw [plain_bad eHead_text _ x y e v he hg h2]; rfl
          · rw [if_neg h1] at h
            simp only [Res.bad.injEq] at h
            have := List.append_cancel_right (show (63 :: u) ++ x = v ++ x from h.2)
            exact absurd (by rw [← this]; rfl) hg.no63
        by_cases h47 : d = 47
        · subst h47
          rw [tokS_47] at h ⊢
          exact closeR_bad u x y e v he hg h
        · rw [tokS_open first _ h33 h63 h47] at h ⊢
          exact openR_bad (d :: u) x y e v he hg h
    · have ht : ∀ z : Bs, tokenR first ((c :: u) ++ z) = (letters 60 ((c :: u) ++ z)).map fun t => ⟨4, [], [], t⟩ := fun z => tokenR_text first (by simpa using hc)
      rw [ht] at h ⊢
      have h3 : letters 60 ((c :: u) ++ y) = .bad e (v ++ y) := letters_bad 60 (c :: u) 0 x y e v he hg (map_bad h)
      rw [h3]; rfl

theorem allGo_badSuf (f : Nat) (first : Bool) (acc : List (Tk × Bs)) (l : Bs) {e : Int} {r : Bs} (h : allGo f first acc l = .bad e r) : r <:+ l := by
  induction f generalizing first acc l with
  | zero => cases l with
    | nil => cases h
    | cons c l => cases h; exact List.suffix_refl _
  | succ f ih =>
    cases l with
    | nil => cases h
    | cons c l =>
      simp only [allGo] at h
      cases ht : tokenR first (c :: l) with
      | ok t r' => rw [ht] at h; exact (ih _ _ r' h).trans (suf_of_ok (tokenR_suf first _) ht)
      | bad e' r' => rw [ht] at h; cases h; exact suf_of_bad (tokenR_suf first _) ht
theorem allGo_stay (f : Nat) : ∀ first acc acc' u x e v, Bad3 e → Good v x → allGo f first acc (u ++ x) = .bad e (v ++ x) → ∀ f' y, u.length ≤ f' → allGo f' first acc' (u ++ y) = .bad e (v ++ y) := by
  induction f with
  | zero =>
    intro first acc acc' u x e v he hv h
    cases hux : u ++ x with
    | nil => rw [hux] at h; cases h
    | cons c l => rw [hux] at h; simp only [allGo, Res.bad.injEq] at h; rcases he with rfl | rfl | rfl <;> cases h.1
  | succ f ih =>
    intro first acc acc' u x e v he hv h f' y hf
    obtain ⟨v0, hv0, ev, hvu⟩ := suf_split (allGo_badSuf _ _ _ _ h) (len_pos hv.ne)
    obtain rfl := List.append_cancel_right ev
    cases u with
    | nil => exact absurd (List.suffix_nil.1 hvu) hv.ne
    | cons c u =>
      obtain ⟨f', rfl⟩ : ∃ g, f' = g + 1 := ⟨f' - 1, by simp only [List.length_cons] at hf; omega⟩
      simp only [List.cons_append, allGo] at h ⊢
      cases ht : tokenR first (c :: (u ++ x)) with
      | bad e' r' =>
        rw [ht] at h
        simp only [Res.bad.injEq] at h
        obtain ⟨rfl, rfl⟩ := h
        have h1 : tokenR first (c :: (u ++ y)) = .bad e' (v ++ y) := tokenR_bad first (c :: u) x y e' v he hv ht
        rw [h1]
      | ok t r' =>
        rw [ht] at h
        simp only at h
        have hs1 := allGo_badSuf _ _ _ _ h
        obtain ⟨v1, hv1, rfl, hu1⟩ := suf_split (suf_of_ok (tokenR_suf first ((c :: u) ++ x)) ht) (Nat.lt_of_lt_of_le (len_pos hv.ne) hs1.length_le)
        have hl := tokenR_less ht (by simp)
        have h1 : tokenR first (c :: (u ++ y)) = .ok t (v1 ++ y) := tokenR_ok first (c :: u) x y t v1 hv1 ht
        rw [h1]
        simp only [List.length_cons, List.length_append] at hl hf
        exact ih false _ _ v1 x e v he hv h f' y (by omega)

/-- The law of TokenStays. -/
theorem allR_stay {u x v : Bs} {e : Int} (he : Bad3 e) (hv : Good v x) (h : allR (u ++ x) = .bad e (v ++ x)) (y : Bs) : allR (u ++ y) = .bad e (v ++ y) :=
  allGo_stay _ true [] [] u x e v he hv h _ y (by rw [List.length_append]; omega)

end Go.Proofs.Ytpchljiiappmnaa
