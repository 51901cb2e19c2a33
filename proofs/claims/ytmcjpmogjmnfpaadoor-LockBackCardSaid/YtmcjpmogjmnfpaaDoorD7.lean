/- Walks: the document's Pin; the conditions stand in the theorems. -/
import Derived.Test.YtmcjpmogjmnfpaaDoorD6
namespace Go.Proofs.YtmcjpmogjmnfpaaDoor
open Go Go.RowKit

/-- The scope found among the words up to number i. -/
def scUp (d : Bs) (i : Nat) : Int := if scopeN d < i then scopeN d else 0
theorem scopeN_range (d : Bs) : 0 ≤ scopeN d ∧ scopeN d ≤ 5 := by
  unfold scopeN
  repeat' split
  all_goals omega
theorem scopeN_word {d : Bs} {i : Nat} (h1 : 1 ≤ i) (h5 : i ≤ 5) : wordB i = d ↔ scopeN d = i := by
  rcases (by omega : i = 1 ∨ i = 2 ∨ i = 3 ∨ i = 4 ∨ i = 5) with rfl | rfl | rfl | rfl | rfl
  all_goals
    constructor
    · rintro rfl; rfl
    · intro h
      unfold scopeN at h
      repeat' split at h
      all_goals first | omega | (subst_vars; rfl) | (exfalso; simp at h)
theorem scUp_one (d : Bs) : scUp d 1 = 0 := by
  have := scopeN_range d
  unfold scUp
  split <;> omega
theorem scUp_six (d : Bs) : scUp d 6 = scopeN d := by
  have := scopeN_range d
  unfold scUp
  rw [if_pos (by omega)]
theorem scUp_yes {d : Bs} {i : Nat} (h1 : 1 ≤ i) (h5 : i ≤ 5) (h : wordB i = d) : scUp d (i + 1) = i := by
  have := (scopeN_word h1 h5).1 h
  unfold scUp
  rw [if_pos (by omega), this]
theorem scUp_no {d : Bs} {i : Nat} (h1 : 1 ≤ i) (h5 : i ≤ 5) (h : wordB i ≠ d) : scUp d (i + 1) = scUp d i := by
  have := mt (scopeN_word h1 h5).2 h
  unfold scUp
  by_cases hx : scopeN d < i
  · rw [if_pos (by omega), if_pos hx]
  · rw [if_neg (by omega), if_neg hx]

def rpUpd (g a t c xc : S) (sc : Int) (ok : Bool) (x0 x1 x2 x4 x5 x6 x7 x8 x9 x10 x11 x12 x13 x14 x15 x16 x17 x18 x19 x20 x21 x22 x23 x24 x25 x26 x27 x28 x29 x30 x31 x32 x33 x34 x35 x36 x37 x38 x39 x40 x41 x42 x43 x44 x45 x46 x47 x48 x49 x50 x51 x52 x53 x54 x55 x56 x57 x58 x59 x60 x61 x62 x63 x64 x65 x66 x67 x68 x69 x70 x71 x72 : Value) (f0 f1 f2 _f3 f4 : Bool)  : Act :=
  ⟨#[x0, x1, x2, cond f4 (.bool ok) (.bool false), x4, x5, x6, x7, x8, x9, x10, x11, x12, x13, x14, x15, x16, x17, x18, x19, x20, x21, x22, x23, x24, x25, x26, x27, x28, x29, x30, x31, x32, x33, x34, x35, x36, x37, x38, x39, x40, x41, x42, x43, x44, x45, x46, x47, x48, x49, x50, x51, x52, x53, x54, x55, x56, x57, x58, x59, x60, x61, x62, x63, x64, x65, x66, x67, x68, x69, x70, x71, x72, cond f0 (.agg #[.string g, .string a, .string t, .string c, .string xc, .int .i64 sc]) undef, cond f1 (.agg #[.string g, .string a, .string t, .string c, .string xc, .int .i64 sc]) undef, cond f2 (.bool ok) undef], []⟩
def rpJ (g a t c xc : S) (sc : Int) (ok : Bool) (pB : Nat) (w wr : World) (x0 x1 x2 x4 x5 x6 x7 x8 x9 x10 x11 x12 x13 x14 x15 x16 x17 x18 x19 x20 x21 x22 x23 x24 x25 x26 x27 x28 x29 x30 x31 x32 x33 x34 x35 x36 x37 x38 x39 x40 x41 x42 x43 x44 x45 x46 x47 x48 x49 x50 x51 x52 x53 x54 x55 x56 x57 x58 x59 x60 x61 x62 x63 x64 x65 x66 x67 x68 x69 x70 x71 x72 : Value) (listed : Array Bool) (atx : Act) (w' : World) : Prop :=
  ∃ (f0 f1 f2 f3 f4 : Bool) , listed = #[f0, f1, f2, f3, f4] ∧ atx = rpUpd g a t c xc sc ok x0 x1 x2 x4 x5 x6 x7 x8 x9 x10 x11 x12 x13 x14 x15 x16 x17 x18 x19 x20 x21 x22 x23 x24 x25 x26 x27 x28 x29 x30 x31 x32 x33 x34 x35 x36 x37 x38 x39 x40 x41 x42 x43 x44 x45 x46 x47 x48 x49 x50 x51 x52 x53 x54 x55 x56 x57 x58 x59 x60 x61 x62 x63 x64 x65 x66 x67 x68 x69 x70 x71 x72 f0 f1 f2 f3 f4  ∧ Below w.heap.size w w' ∧ wr.heap.size ≤ w'.heap.size ∧ (∀ o, w'.cell? ⟨pB, o, none⟩ = wr.cell? ⟨pB, o, none⟩) ∧ Box w' w.heap.size (cond f3 [.string g, .string a, .string t, .string c, .string xc, .int .i64 sc] [.string ⟨#[]⟩, .string ⟨#[]⟩, .string ⟨#[]⟩, .string ⟨#[]⟩, .string ⟨#[]⟩, .int .i64 0])

set_option maxRecDepth 100000 in
set_option maxHeartbeats 8000000 in
theorem refPin_any (s : S) (w : World) (hs : s.size ≤ 1000000) : Calls Tryd.prog 29 #[.string s] w (PinOut w (pinP s.data.toList)) := by
  have HS := Lib.hid hs
  clear hs
  go_enter Tryd.func29, Tryd.ntmps29
  go_upto_region 1 with fail
  refine wp_world ?_
  intro W hW
  have x2 : Box W w.heap.size [.string ⟨#[]⟩, .string ⟨#[]⟩, .string ⟨#[]⟩, .string ⟨#[]⟩, .string ⟨#[]⟩, .int .i64 0] := by rw [hW]; exact Box.new w [.string ⟨#[]⟩, .string ⟨#[]⟩, .string ⟨#[]⟩, .string ⟨#[]⟩, .string ⟨#[]⟩, .int .i64 0] _ _ rfl
  have hb : Below w.heap.size w W := by rw [hW]; exact (Below.refl _ w).alloc (Nat.le_refl _) _
  clear hW
  have HX := Lib.hid x2
  have HB := Lib.hid hb
  have s0 := hb.size
  have HSP := Lib.hid (words_any s W HS.out)
  clear x2 hb
  go_wp2_with fail
  refine HSP.out.mono ?_
  rintro e w1 ⟨v, rfl, ho, hb1⟩
  obtain ⟨g, cap, rfl, hg, hc⟩ := ho.strs (piecesS_ne _ _)
  have HX1 := Lib.hid (HX.out.below hb1 HX.out.lt)
  have HB1 := Lib.hid (HB.out.trans (hb1.mono s0))
  have s1 := HB1.out.size
  have hne : ¬ g = w.heap.size := by have := (ho.lt g rfl).1; have := HX.out.lt; omega
  clear ho hb1 HSP HX HB
  by_cases hl : (piecesS 32 s.data.toList).length = 4
  rotate_left
  · have HN : Hid (pinP s.data.toList = none) := pinP_no (by simpa [piecesS] using hl)
    have hlI : (((piecesS 32 s.data.toList).length : Int) != 4) = true := by rw [bne_iff_ne]; omega
    have hlJ : (((piecesS 32 s.data.toList).length : Int) == 4) = false := by rw [beq_eq_false_iff_ne]; omega
    clear hl hc
    have u0 := HX1.out.free 0
    have z0 := HX1.out.cell 0 _ rfl
    have u1 := HX1.out.free 1
    have z1 := HX1.out.cell 1 _ rfl
    have u2 := HX1.out.free 2
    have z2 := HX1.out.cell 2 _ rfl
    have u3 := HX1.out.free 3
    have z3 := HX1.out.cell 3 _ rfl
    have u4 := HX1.out.free 4
    have z4 := HX1.out.cell 4 _ rfl
    have u5 := HX1.out.free 5
    have z5 := HX1.out.cell 5 _ rfl
    have lz := HX1.out.lt
    generalize (piecesS 32 s.data.toList).length = n at *
    go_wp2
    refine bodyPost_ret (v := .tuple #[.agg #[.string ⟨#[]⟩, .string ⟨#[]⟩, .string ⟨#[]⟩, .string ⟨#[]⟩, .string ⟨#[]⟩, .int .i64 0], .bool false]) (by simp [results, Tryd.results29, go_sem, z0, z1, z2, z3, z4, z5]) rfl ?_
    rw [HN.out]
    exact PinOut.no ((((((HB1.out.setCell (by simp) _).setCell (by simp) _).setCell (by simp) _).setCell (by simp) _).setCell (by simp) _).setCell (by simp) _)
  · obtain ⟨pa, pb, pc, pd, hp⟩ := four (l := piecesB 32 s.data.toList) (by simpa [piecesS] using hl)
    have hps : piecesS 32 s.data.toList = [bs pa, bs pb, bs pc, bs pd] := by unfold piecesS; rw [hp]; rfl
    rw [hps] at hc
    rw [hps]
    have HSB : Hid ((bs pb).size ≤ 1000000) := by
      have h1 := piece_len 32 s.data.toList pb (by rw [hp]; simp)
      have h2 : s.data.toList.length = s.size := size_data _
      have h3 := HS.out
      show _ ≤ _
      rw [bs_size]; omega
    have HSC : Hid ((bs pc).size ≤ 9223372036854775807) := pieces_sm HS.out (by rw [hp]; simp)
    have k0 := hc 0 _ rfl
    have k1 := hc 1 _ rfl
    have k2 := hc 2 _ rfl
    have k3 := hc 3 _ rfl
    clear hl hc hps
    by_cases hpa : pa = pinW
    rotate_left
    · have HN := Lib.hid (pinP_not hp hpa)
      have he : ((bs pa).toList == [112, 105, 110]) = false := by rw [str_lit, bs_data]; exact decide_eq_false hpa
      have he2 : ((bs pa).toList != [112, 105, 110]) = true := by rw [bne, he]; rfl
      clear hpa hp
      have u0 := HX1.out.free 0
      have z0 := HX1.out.cell 0 _ rfl
      have u1 := HX1.out.free 1
      have z1 := HX1.out.cell 1 _ rfl
      have u2 := HX1.out.free 2
      have z2 := HX1.out.cell 2 _ rfl
      have u3 := HX1.out.free 3
      have z3 := HX1.out.cell 3 _ rfl
      have u4 := HX1.out.free 4
      have z4 := HX1.out.cell 4 _ rfl
      have u5 := HX1.out.free 5
      have z5 := HX1.out.cell 5 _ rfl
      have lz := HX1.out.lt
      generalize bs pa = xa at *
      go_wp2
      refine bodyPost_ret (v := .tuple #[.agg #[.string ⟨#[]⟩, .string ⟨#[]⟩, .string ⟨#[]⟩, .string ⟨#[]⟩, .string ⟨#[]⟩, .int .i64 0], .bool false]) (by simp [results, Tryd.results29, go_sem, z0, z1, z2, z3, z4, z5]) rfl ?_
      rw [HN.out]
      exact PinOut.no ((((((HB1.out.setCell (by simp) _).setCell (by simp) _).setCell (by simp) _).setCell (by simp) _).setCell (by simp) _).setCell (by simp) _)
    · subst hpa
      have HPF := Lib.hid (pinP_four hp)
      have he : ((bs pinW).toList == [112, 105, 110]) = true := by rw [str_lit, bs_data]; rfl
      have he2 : ((bs pinW).toList != [112, 105, 110]) = false := by rw [bne, he]; rfl
      have HPC := Lib.hid (pieces_any (bs pb) w1 HSB.out)
      rw [bs_data] at HPC
      have HEQ : Hid (∀ i : Int, ((bs (wordB i)).toList == (bs pd).toList) = decide (wordB i = pd)) := fun i => bs_eqb _ _
      have HPS : Hid (∀ p ∈ piecesB 58 pb, (bs p).size ≤ 9223372036854775807) := fun p h => pieces_sm (s := bs pb) HSB.out (by rw [bs_data]; exact h)
      clear hp
      generalize bs pinW = xa at *
      generalize bs pb = xb at *
      generalize bs pc = xc at *
      generalize bs pd = xd at *
      go_wp2_with fail
      refine HPC.out.mono ?_
      rintro e w2 ⟨v2, rfl, ho2, hb2⟩
      obtain ⟨g2, cap2, rfl, hg2, hc2⟩ := ho2.strs (piecesS_ne _ _)
      have HX2 := Lib.hid (HX1.out.below hb2 HX1.out.lt)
      have HB2 := Lib.hid (HB1.out.trans (hb2.mono s1))
      have s2 := HB2.out.size
      have hne2 : ¬ g2 = w.heap.size := by have := (ho2.lt g2 rfl).1; have := HX1.out.lt; omega
      have q2 := (hb2.cell (p := ⟨g, 2, none⟩) (by exact hg)).trans k2
      have q3 := (hb2.cell (p := ⟨g, 3, none⟩) (by exact hg)).trans k3
      have hgw : g < w2.heap.size := Nat.lt_of_lt_of_le hg hb2.size
      clear k0 k1 k2 k3 he he2 hb2 HX1 HPC ho2
      by_cases hl3 : (piecesS 58 pb).length = 3
      rotate_left
      · by_cases hl4 : (piecesS 58 pb).length = 4
        rotate_left
        · have HN : Hid (pinP s.data.toList = none) := by show _ = _; rw [HPF.out, keyP_no (by simpa [piecesS] using hl3) (by simpa [piecesS] using hl4)]
          have hlP : (((piecesS 58 pb).length : Int) != 3) = true := by rw [bne_iff_ne]; omega
          have hlQ : (((piecesS 58 pb).length : Int) != 4) = true := by rw [bne_iff_ne]; omega
          clear hl3 hl4 hc2 q2 q3
          have u0 := HX2.out.free 0
          have z0 := HX2.out.cell 0 _ rfl
          have u1 := HX2.out.free 1
          have z1 := HX2.out.cell 1 _ rfl
          have u2 := HX2.out.free 2
          have z2 := HX2.out.cell 2 _ rfl
          have u3 := HX2.out.free 3
          have z3 := HX2.out.cell 3 _ rfl
          have u4 := HX2.out.free 4
          have z4 := HX2.out.cell 4 _ rfl
          have u5 := HX2.out.free 5
          have z5 := HX2.out.cell 5 _ rfl
          have lz := HX2.out.lt
          generalize (piecesS 58 pb).length = n at *
          go_wp2
          refine bodyPost_ret (v := .tuple #[.agg #[.string ⟨#[]⟩, .string ⟨#[]⟩, .string ⟨#[]⟩, .string ⟨#[]⟩, .string ⟨#[]⟩, .int .i64 0], .bool false]) (by simp [results, Tryd.results29, go_sem, z0, z1, z2, z3, z4, z5]) rfl ?_
          rw [HN.out]
          exact PinOut.no ((((((HB2.out.setCell (by simp) _).setCell (by simp) _).setCell (by simp) _).setCell (by simp) _).setCell (by simp) _).setCell (by simp) _)
        · skip
          obtain ⟨ra, rb, rc, rd, hp⟩ := four (l := piecesB 58 pb) (by simpa [piecesS] using hl4)
          have hps : piecesS 58 pb = [bs ra, bs rb, bs rc, bs rd] := by unfold piecesS; rw [hp]; rfl
          have HG : Hid (keySm ⟨bs ra, bs rb, bs rc, bs rd⟩) := ⟨HPS.out _ (by rw [hp]; simp), HPS.out _ (by rw [hp]; simp), HPS.out _ (by rw [hp]; simp), HPS.out _ (by rw [hp]; simp)⟩
          have HR := Lib.hid (keyP_four hp)
          obtain ⟨dz, hdz⟩ : ∃ b, b = ((bs rd).toList == []) := ⟨_, rfl⟩
          have he : ((bs rd).toList == []) = dz := hdz.symm
          have HDZ : Hid (dz = decide (rd = [])) := by show _ = _; rw [hdz, str_lit, bs_data]
          clear hdz
          rw [hps] at hc2
          rw [hps]
          have k0 := hc2 0 _ rfl
          have k1 := hc2 1 _ rfl
          have k2 := hc2 2 _ rfl
          have k3 := hc2 3 _ rfl
          clear hl3 hl4 hc2 hps hp
          generalize bs ra = ya at *
          generalize bs rb = yb at *
          generalize bs rc = yc at *
          generalize bs rd = yd at *
          cases dz with
          | true =>
            have hpd : rd = [] := by have := HDZ.out; simpa using this.symm
            have HN : Hid (pinP s.data.toList = none) := by show _ = _; rw [HPF.out, HR.out, if_pos hpd]
            clear hpd
            have u0 := HX2.out.free 0
            have z0 := HX2.out.cell 0 _ rfl
            have u1 := HX2.out.free 1
            have z1 := HX2.out.cell 1 _ rfl
            have u2 := HX2.out.free 2
            have z2 := HX2.out.cell 2 _ rfl
            have u3 := HX2.out.free 3
            have z3 := HX2.out.cell 3 _ rfl
            have u4 := HX2.out.free 4
            have z4 := HX2.out.cell 4 _ rfl
            have u5 := HX2.out.free 5
            have z5 := HX2.out.cell 5 _ rfl
            have lz := HX2.out.lt
            go_wp2
            refine bodyPost_ret (v := .tuple #[.agg #[.string ⟨#[]⟩, .string ⟨#[]⟩, .string ⟨#[]⟩, .string ⟨#[]⟩, .string ⟨#[]⟩, .int .i64 0], .bool false]) (by simp [results, Tryd.results29, go_sem, z0, z1, z2, z3, z4, z5]) rfl ?_
            rw [HN.out]
            exact PinOut.no ((((((HB2.out.setCell (by simp) _).setCell (by simp) _).setCell (by simp) _).setCell (by simp) _).setCell (by simp) _).setCell (by simp) _)
          | false =>
            have hpd : rd ≠ [] := by have := HDZ.out; simpa using this.symm
            rw [if_neg hpd] at HR
            clear hpd
            go_upto_region 7 with fail
            go_big_region
            go_upto_region 8 with fail
            refine wp_world ?_
            intro W3 hW3
            have x5 : Box W3 w2.heap.size [.string ya, .string yb, .string yc, .string ⟨#[]⟩, .string xc, .int .i64 0] := by rw [hW3]; exact (Box.new w2 [.string ya, .string yb, .string yc, .string ⟨#[]⟩, .string xc, .int .i64 0] _ _ rfl).drewN 1
            have hb3 : Below w2.heap.size w2 W3 := by rw [hW3]; exact belowN ((Below.refl _ w2).alloc (Nat.le_refl _) _) 1
            clear hW3
            have HX3 := Lib.hid (HX2.out.below hb3 HX2.out.lt)
            have HB3 := Lib.hid (HB2.out.trans (hb3.mono s2))
            have s3 := HB3.out.size
            have q3' := Lib.hid ((hb3.cell (p := ⟨g, 3, none⟩) (by exact hgw)).trans q3)
            have hlA := HX2.out.lt
            clear q2 q3 HX2
            have k3' := (hb3.cell (p := ⟨g2, 3, none⟩) (by exact hg2)).trans k3
            have HX5 := Lib.hid x5
            clear k0 k1 k2 k3 x5 hb3
            have v3 := HX5.out.free 3
            have v0 := HX5.out.cell 3 _ rfl
            have lv := HX5.out.lt
            go_upto_region 10 with fail
            refine wp_world ?_
            intro W4 hW4
            obtain ⟨pB, hpB⟩ : ∃ b, b = w2.heap.size := ⟨_, rfl⟩
            have HXP : Hid (Box W4 pB [.string ya, .string yb, .string yc, .string yd, .string xc, .int .i64 0]) := by show Box _ _ _; rw [hW4, hpB]; exact HX5.out.set 3 (.string yd)
            have HXA : Hid (Box W4 w.heap.size [.string ⟨#[]⟩, .string ⟨#[]⟩, .string ⟨#[]⟩, .string ⟨#[]⟩, .string ⟨#[]⟩, .int .i64 0]) := by show Box _ _ _; rw [hW4]; exact HX3.out.grown (setCell_grown W3 w2.heap.size 3 (.string yd)) (by simp; omega)
            have HBV : Hid (Below w.heap.size w W4) := by show Below _ _ _; rw [hW4]; exact HB3.out.setCell (p := ⟨w2.heap.size, 3, none⟩) (by show _ ≤ _; omega) _
            have hq3 : Hid (W4.cell? ⟨g, 3, none⟩ = some (.string xd)) := by show _ = _; rw [hW4, World.cell?_setCell_far _ _ _ _ (by simp; omega)]; exact q3'.out
            have hBA : w.heap.size < pB := by omega
            have hgB : g < pB := by omega
            rw [← hpB]
            clear hW4 k3' v3 v0 lv HX5 HX3 HB3 hpB
            go_upto_region 11 with fail
            go_loopw [7] (fun iv wr => ∃ i : Nat, 1 ≤ i ∧ i ≤ 6 ∧ iv = .int .i64 i ∧ Box wr pB [.string ya, .string yb, .string yc, .string yd, .string xc, .int .i64 (scUp pd i)] ∧ Box wr w.heap.size [.string ⟨#[]⟩, .string ⟨#[]⟩, .string ⟨#[]⟩, .string ⟨#[]⟩, .string ⟨#[]⟩, .int .i64 0] ∧ Below w.heap.size w wr ∧ wr.cell? ⟨g, 3, none⟩ = some (.string xd)) (fun iv _ => 6 - (intOf iv).toNat)
            case atStart => exact ⟨1, by omega, by omega, rfl, by rw [scUp_one]; exact HXP.out, HXA.out, HBV.out, hq3.out⟩
            case round =>
              obtain ⟨i, hi1, hi6, rfl, hx, hxa, hbw, hcg⟩ := hrel
              by_cases hi : i ≤ 5
              · have hiI : (i : Int) ≤ 5 := by omega
                have HWD := Lib.hid (fun V => refWord_any (i : Int) V)
                have hgi : g < wr.heap.size := World.block_lt_of_cell? _ _ hcg
                have HXI := Lib.hid hx
                have HXAI := Lib.hid hxa
                have HBI := Lib.hid hbw
                have HCG := Lib.hid hcg
                obtain ⟨bq, hbq⟩ : ∃ b, b = decide (wordB i = pd) := ⟨_, rfl⟩
                have he := HEQ.out i
                rw [← hbq] at he
                have HQ := Lib.hid hbq
                clear hx hxa hbw hbq
                have HWL : Hid (∀ x : Later wr, Calls Tryd.prog 42 #[.int .i64 i] x.at_ fun e w'' => e = .returned (.string (bs (wordB i))) ∧ ∃ y : Later wr, w'' = y.at_) := fun x => Later.call (HWD.out x.at_)
                have hLC := @Later.cells wr
                clear HWD
                generalize hwb : bs (wordB (i : Int)) = wx at *
                clear hwb
                cases bq with
                | true =>
                  have HY : Hid (scUp pd (i + 1) = i) := scUp_yes hi1 hi (of_decide_eq_true HQ.out.symm)
                  go_wp2_with fail
                  refine region_later (by kernel_rfl) (by kernel_rfl) ?_
                  repeat (go_big_quiet_step ((go_at_call 42; exact HWL.out _)))
                  refine wpQuiet_nil ?_
                  rintro _ ⟨nx, rfl⟩
                  have HXN := Lib.hid (HXI.out.below nx.below HXI.out.lt)
                  have HAN := Lib.hid (HXAI.out.below nx.below HXAI.out.lt)
                  have HBN := Lib.hid (HBI.out.trans (nx.below.mono HBI.out.size))
                  have HCN := Lib.hid ((nx.below.cell (p := ⟨g, 3, none⟩) (by exact hgi)).trans HCG.out)
                  clear hLC hcg
                  generalize nx.at_ = wn at *
                  have v5 := HXN.out.free 5
                  have v0 := HXN.out.cell 5 _ rfl
                  have lv := HXN.out.lt
                  go_wp2
                  go_roundw
                  case rel => exact ⟨i + 1, by omega, by omega, by go_num, by rw [HY.out]; exact HXN.out.set 5 (.int .i64 i), HAN.out.grown (setCell_grown wn pB 5 _) (by simp; omega), HBN.out.setCell (p := ⟨pB, 5, none⟩) (by exact Nat.le_of_lt hBA) _, by rw [World.cell?_setCell_far _ _ _ _ (by simp; omega)]; exact HCN.out⟩
                  case measure => simp [intOf]; omega
                | false =>
                  have HY : Hid (scUp pd (i + 1) = scUp pd i) := scUp_no hi1 hi (of_decide_eq_false HQ.out.symm)
                  go_wp2_with fail
                  refine region_later (by kernel_rfl) (by kernel_rfl) ?_
                  repeat (go_big_quiet_step ((go_at_call 42; exact HWL.out _)))
                  refine wpQuiet_nil ?_
                  rintro _ ⟨nx, rfl⟩
                  have HXN := Lib.hid (HXI.out.below nx.below HXI.out.lt)
                  have HAN := Lib.hid (HXAI.out.below nx.below HXAI.out.lt)
                  have HBN := Lib.hid (HBI.out.trans (nx.below.mono HBI.out.size))
                  have HCN := Lib.hid ((nx.below.cell (p := ⟨g, 3, none⟩) (by exact hgi)).trans HCG.out)
                  clear hLC hcg
                  generalize nx.at_ = wn at *
                  go_wp2
                  go_roundw
                  case rel => exact ⟨i + 1, by omega, by omega, by go_num, by rw [HY.out]; exact HXN.out, HAN.out, HBN.out, HCN.out⟩
                  case measure => simp [intOf]; omega
              · obtain rfl : i = 6 := by omega
                rw [scUp_six] at hx
                have HXI := Lib.hid hx
                have HXAI := Lib.hid hxa
                have HBI := Lib.hid hbw
                have HMP := Lib.hid (fun V => refMayPin_any ⟨⟨ya, yb, yc, yd⟩, xc, scopeN pd⟩ V ⟨HG.out, HSC.out⟩)
                have HLW : Hid ((pinP s.data.toList).isSome = pinMay ⟨⟨ya, yb, yc, yd⟩, xc, scopeN pd⟩ ∧ ∀ q, pinP s.data.toList = some q → (⟨⟨ya, yb, yc, yd⟩, xc, scopeN pd⟩ : Pin) = q) := by
                  show _ ∧ _
                  rw [HPF.out, HR.out]
                  simp only
                  by_cases hpm : pinMay ⟨⟨ya, yb, yc, yd⟩, xc, scopeN pd⟩ = true
                  · rw [if_pos hpm, hpm]; exact ⟨rfl, fun q h => Option.some.inj h⟩
                  · rw [if_neg hpm, Bool.not_eq_true] at *
                    rw [hpm]; exact ⟨rfl, fun q h => by cases h⟩
                clear hx hxa hbw hcg
                generalize scopeN pd = sc at *
                generalize pinMay ⟨⟨ya, yb, yc, yd⟩, xc, sc⟩ = ok at *
                have lv := HXI.out.lt
                have hnA : ¬ pB = w.heap.size := by omega
                go_wp2_with fail
                refine wp_region_flags0 (rpJ ya yb yc yd xc sc ok pB w wr _ _ _ _ _ _ _ _ _ _ _ _ _ _ _ _ _ _ _ _ _ _ _ _ _ _ _ _ _ _ _ _ _ _ _ _ _ _ _ _ _ _ _ _ _ _ _ _ _ _ _ _ _ _ _ _ _ _ _ _ _ _ _ _ _ _ _ _ _ _ _ _) (by kernel_rfl) 5 rfl (by kernel_rfl) ⟨false, false, false, false, false, rfl, rfl, belowN HBI.out 1, Nat.le_refl _, fun _ => rfl, HXAI.out.drewN 1⟩ ?fin ?step
                case fin =>
                  rintro a' w' ⟨f0, f1, f2, f3, f4, hl, rfl, hB, hs, hc, hx⟩
                  have hl' : [true, true, true, true, true] = [f0, f1, f2, f3, f4] := congrArg Array.toList hl
                  simp only [List.cons.injEq, and_true] at hl'
                  obtain ⟨rfl, rfl, rfl, rfl, rfl⟩ := hl'
                  unfold rpUpd
                  simp only [cond_true]
                  have HXX := Lib.hid hx
                  have HBB := Lib.hid hB
                  clear hB hs hc hx
                  have z0 := HXX.out.cell 0 _ rfl
                  have z1 := HXX.out.cell 1 _ rfl
                  have z2 := HXX.out.cell 2 _ rfl
                  have z3 := HXX.out.cell 3 _ rfl
                  have z4 := HXX.out.cell 4 _ rfl
                  have z5 := HXX.out.cell 5 _ rfl
                  go_wp2
                  refine bodyPost_ret (v := .tuple #[.agg #[.string ya, .string yb, .string yc, .string yd, .string xc, .int .i64 sc], .bool ok]) (by simp [results, Tryd.results29, go_sem, z0, z1, z2, z3, z4, z5]) rfl ?_
                  refine ⟨⟨⟨ya, yb, yc, yd⟩, xc, sc⟩, ?_, HLW.out.2, HBB.out⟩
                  rw [HLW.out.1]
                case step =>
                  rintro listed a' w' ⟨f0, f1, f2, f3, f4, rfl, rfl, hB, hs, hc, hx⟩ i hi
                  rw [mem_ready] at hi
                  obtain ⟨hu, o, ho, ha⟩ := hi
                  have hi8 : i < 5 := (Array.getElem?_eq_some_iff.1 ho).1
                  rcases (by omega : i = 0 ∨ i = 1 ∨ i = 2 ∨ i = 3 ∨ i = 4) with rfl | rfl | rfl | rfl | rfl
                  · have ho' := ho
                    simp at hu ho
                    subst hu ho
                    clear ha
                    unfold rpUpd
                    refine wpOp_do ho' (by rfl) ?_
                    refine wp_load_mid 51 (.tmp 6) rfl pB 0 rfl [.string ya, .string yb, .string yc, .string yd, .string xc, .int .i64 sc] _ (fun j v hv => by rw [Nat.zero_add, hc]; exact HXI.out.cell j v hv) Tryd.underlying51 rfl size_pin6 ?_
                    simp only [Act.put, List.setIfInBounds_toArray, List.set_cons_succ, List.set_cons_zero]
                    exact ⟨true, f1, f2, f3, f4, rfl, rfl, hB, hs, hc, hx⟩
                  · have ho' := ho
                    simp at hu ho
                    subst hu ho
                    clear ha
                    unfold rpUpd
                    refine wpOp_do ho' (by rfl) ?_
                    refine wp_load_mid 51 (.tmp 6) rfl pB 0 rfl [.string ya, .string yb, .string yc, .string yd, .string xc, .int .i64 sc] _ (fun j v hv => by rw [Nat.zero_add, hc]; exact HXI.out.cell j v hv) Tryd.underlying51 rfl size_pin6 ?_
                    simp only [Act.put, List.setIfInBounds_toArray, List.set_cons_succ, List.set_cons_zero]
                    exact ⟨f0, true, f2, f3, f4, rfl, rfl, hB, hs, hc, hx⟩
                  · have ho' := ho
                    simp at hu ho
                    subst hu ho
                    simp [Region.binds] at ha
                    obtain rfl : f1 = true := by first | exact ha | exact ha.1 | exact ha.2.1 | exact ha.2.2.1 | exact ha.2.2.2.1 | exact ha.2.2.2.2.1 | exact ha.2.2.2.2.2.1 | exact ha.2.2.2.2.2.2.1 | exact ha.2.2.2.2.2.2.2.1 | exact ha.2.2.2.2.2.2.2.2.1 | exact ha.2.2.2.2.2.2.2.2.2.1 | exact ha.2.2.2.2.2.2.2.2.2.2.1 | exact ha.2.2.2.2.2.2.2.2.2.2.2.1 | exact ha.2.2.2.2.2.2.2.2.2.2.2.2.1 | exact ha.2 | exact ha.2.2 | exact ha.2.2.2 | exact ha.2.2.2.2 | exact ha.2.2.2.2.2 | exact ha.2.2.2.2.2.2 | exact ha.2.2.2.2.2.2.2 | exact ha.2.2.2.2.2.2.2.2 | exact ha.2.2.2.2.2.2.2.2.2 | exact ha.2.2.2.2.2.2.2.2.2.2 | exact ha.2.2.2.2.2.2.2.2.2.2.2 | exact ha.2.2.2.2.2.2.2.2.2.2.2.2 | exact ha.2.2.2.2.2.2.2.2.2.2.2.2.2
                    clear ha
                    unfold rpUpd
                    refine wpOp_do ho' (by rfl) ?_
                    unfold Oper.wp
                    go_simp
                    refine (HMP.out w').mono ?_
                    rintro e w7 ⟨rfl, hb⟩
                    exact ⟨f0, true, true, f3, f4, rfl, rfl, hB.trans (hb.mono hB.size), Nat.le_trans hs hb.size, fun o => (hb.cell (by exact Nat.lt_of_lt_of_le lv hs)).trans (hc o), hx.below hb hx.lt⟩
                  · have ho' := ho
                    simp at hu ho
                    subst hu ho
                    simp [Region.binds] at ha
                    obtain rfl : f0 = true := by first | exact ha | exact ha.1 | exact ha.2.1 | exact ha.2.2.1 | exact ha.2.2.2.1 | exact ha.2.2.2.2.1 | exact ha.2.2.2.2.2.1 | exact ha.2.2.2.2.2.2.1 | exact ha.2.2.2.2.2.2.2.1 | exact ha.2.2.2.2.2.2.2.2.1 | exact ha.2.2.2.2.2.2.2.2.2.1 | exact ha.2.2.2.2.2.2.2.2.2.2.1 | exact ha.2.2.2.2.2.2.2.2.2.2.2.1 | exact ha.2.2.2.2.2.2.2.2.2.2.2.2.1 | exact ha.2 | exact ha.2.2 | exact ha.2.2.2 | exact ha.2.2.2.2 | exact ha.2.2.2.2.2 | exact ha.2.2.2.2.2.2 | exact ha.2.2.2.2.2.2.2 | exact ha.2.2.2.2.2.2.2.2 | exact ha.2.2.2.2.2.2.2.2.2 | exact ha.2.2.2.2.2.2.2.2.2.2 | exact ha.2.2.2.2.2.2.2.2.2.2.2 | exact ha.2.2.2.2.2.2.2.2.2.2.2.2 | exact ha.2.2.2.2.2.2.2.2.2.2.2.2.2
                    obtain rfl : f2 = true := by first | exact ha | exact ha.1 | exact ha.2.1 | exact ha.2.2.1 | exact ha.2.2.2.1 | exact ha.2.2.2.2.1 | exact ha.2.2.2.2.2.1 | exact ha.2.2.2.2.2.2.1 | exact ha.2.2.2.2.2.2.2.1 | exact ha.2.2.2.2.2.2.2.2.1 | exact ha.2.2.2.2.2.2.2.2.2.1 | exact ha.2.2.2.2.2.2.2.2.2.2.1 | exact ha.2.2.2.2.2.2.2.2.2.2.2.1 | exact ha.2.2.2.2.2.2.2.2.2.2.2.2.1 | exact ha.2 | exact ha.2.2 | exact ha.2.2.2 | exact ha.2.2.2.2 | exact ha.2.2.2.2.2 | exact ha.2.2.2.2.2.2 | exact ha.2.2.2.2.2.2.2 | exact ha.2.2.2.2.2.2.2.2 | exact ha.2.2.2.2.2.2.2.2.2 | exact ha.2.2.2.2.2.2.2.2.2.2 | exact ha.2.2.2.2.2.2.2.2.2.2.2 | exact ha.2.2.2.2.2.2.2.2.2.2.2.2 | exact ha.2.2.2.2.2.2.2.2.2.2.2.2.2
                    clear ha
                    have HC := Lib.hid hc
                    have HBh := Lib.hid hB
                    have HXh := Lib.hid hx
                    clear hc hB hx
                    unfold rpUpd
                    refine wpOp_do ho' (by rfl) ?_
                    refine wp_store_own 51 (.tmp 2) (.tmp 73) rfl w.heap.size _ #[.string ya, .string yb, .string yc, .string yd, .string xc, .int .i64 sc] rfl rfl HXh.out (by rfl) size_pin6 (by simp [Value.oneCell']) ?_
                    intro V vx vB vs vc
                    simp only [Act.put, List.setIfInBounds_toArray, List.set_cons_succ, List.set_cons_zero]
                    exact ⟨true, f1, true, true, f4, rfl, rfl, vB _ _ (Nat.le_refl _) HBh.out, Nat.le_trans hs (Nat.le_of_eq vs.symm), fun o => (vc _ o hnA).trans (HC.out o), vx⟩
                  · have ho' := ho
                    simp at hu ho
                    subst hu ho
                    simp [Region.binds] at ha
                    obtain rfl : f2 = true := by first | exact ha | exact ha.1 | exact ha.2.1 | exact ha.2.2.1 | exact ha.2.2.2.1 | exact ha.2.2.2.2.1 | exact ha.2.2.2.2.2.1 | exact ha.2.2.2.2.2.2.1 | exact ha.2.2.2.2.2.2.2.1 | exact ha.2.2.2.2.2.2.2.2.1 | exact ha.2.2.2.2.2.2.2.2.2.1 | exact ha.2.2.2.2.2.2.2.2.2.2.1 | exact ha.2.2.2.2.2.2.2.2.2.2.2.1 | exact ha.2.2.2.2.2.2.2.2.2.2.2.2.1 | exact ha.2 | exact ha.2.2 | exact ha.2.2.2 | exact ha.2.2.2.2 | exact ha.2.2.2.2.2 | exact ha.2.2.2.2.2.2 | exact ha.2.2.2.2.2.2.2 | exact ha.2.2.2.2.2.2.2.2 | exact ha.2.2.2.2.2.2.2.2.2 | exact ha.2.2.2.2.2.2.2.2.2.2 | exact ha.2.2.2.2.2.2.2.2.2.2.2 | exact ha.2.2.2.2.2.2.2.2.2.2.2.2 | exact ha.2.2.2.2.2.2.2.2.2.2.2.2.2
                    obtain rfl : f3 = true := by first | exact ha | exact ha.1 | exact ha.2.1 | exact ha.2.2.1 | exact ha.2.2.2.1 | exact ha.2.2.2.2.1 | exact ha.2.2.2.2.2.1 | exact ha.2.2.2.2.2.2.1 | exact ha.2.2.2.2.2.2.2.1 | exact ha.2.2.2.2.2.2.2.2.1 | exact ha.2.2.2.2.2.2.2.2.2.1 | exact ha.2.2.2.2.2.2.2.2.2.2.1 | exact ha.2.2.2.2.2.2.2.2.2.2.2.1 | exact ha.2.2.2.2.2.2.2.2.2.2.2.2.1 | exact ha.2 | exact ha.2.2 | exact ha.2.2.2 | exact ha.2.2.2.2 | exact ha.2.2.2.2.2 | exact ha.2.2.2.2.2.2 | exact ha.2.2.2.2.2.2.2 | exact ha.2.2.2.2.2.2.2.2 | exact ha.2.2.2.2.2.2.2.2.2 | exact ha.2.2.2.2.2.2.2.2.2.2 | exact ha.2.2.2.2.2.2.2.2.2.2.2 | exact ha.2.2.2.2.2.2.2.2.2.2.2.2 | exact ha.2.2.2.2.2.2.2.2.2.2.2.2.2
                    clear ha
                    refine .inl ?_
                    unfold rpUpd Oper.wp
                    go_simp
                    exact ⟨f0, f1, true, true, true, rfl, rfl, hB, hs, hc, hx⟩
      · skip
        obtain ⟨ra, rb, rc, hp⟩ := three (l := piecesB 58 pb) (by simpa [piecesS] using hl3)
        have hps : piecesS 58 pb = [bs ra, bs rb, bs rc] := by unfold piecesS; rw [hp]; rfl
        have HG : Hid (keySm ⟨bs ra, bs rb, bs rc, bs []⟩) := ⟨HPS.out _ (by rw [hp]; simp), HPS.out _ (by rw [hp]; simp), HPS.out _ (by rw [hp]; simp), by show (0 : Nat) ≤ _; omega⟩
        have HR : Hid (keyP pb = some ⟨bs ra, bs rb, bs rc, ⟨#[]⟩⟩) := keyP_three hp
        rw [hps] at hc2
        rw [hps]
        have k0 := hc2 0 _ rfl
        have k1 := hc2 1 _ rfl
        have k2 := hc2 2 _ rfl
        clear hl3 hc2 hps hp
        generalize bs ra = ya at *
        generalize bs rb = yb at *
        generalize bs rc = yc at *
        go_upto_region 7 with fail
        go_big_region
        go_upto_region 8 with fail
        refine wp_world ?_
        intro W3 hW3
        have x5 : Box W3 w2.heap.size [.string ya, .string yb, .string yc, .string ⟨#[]⟩, .string xc, .int .i64 0] := by rw [hW3]; exact (Box.new w2 [.string ya, .string yb, .string yc, .string ⟨#[]⟩, .string xc, .int .i64 0] _ _ rfl).drewN 1
        have hb3 : Below w2.heap.size w2 W3 := by rw [hW3]; exact belowN ((Below.refl _ w2).alloc (Nat.le_refl _) _) 1
        clear hW3
        have HX3 := Lib.hid (HX2.out.below hb3 HX2.out.lt)
        have HB3 := Lib.hid (HB2.out.trans (hb3.mono s2))
        have s3 := HB3.out.size
        have q3' := Lib.hid ((hb3.cell (p := ⟨g, 3, none⟩) (by exact hgw)).trans q3)
        have hlA := HX2.out.lt
        clear q2 q3 HX2
        obtain ⟨pB, hpB⟩ : ∃ b, b = w2.heap.size := ⟨_, rfl⟩
        rw [← hpB] at x5
        have HXP := Lib.hid x5
        have HXA := HX3
        have HBV := HB3
        have hq3 := q3'
        have hBA : w.heap.size < pB := by omega
        have hgB : g < pB := by omega
        rw [← hpB]
        clear x5 hb3 k0 k1 k2 hpB
        go_upto_region 10 with fail
        go_upto_region 11 with fail
        go_loopw [7] (fun iv wr => ∃ i : Nat, 1 ≤ i ∧ i ≤ 6 ∧ iv = .int .i64 i ∧ Box wr pB [.string ya, .string yb, .string yc, .string ⟨#[]⟩, .string xc, .int .i64 (scUp pd i)] ∧ Box wr w.heap.size [.string ⟨#[]⟩, .string ⟨#[]⟩, .string ⟨#[]⟩, .string ⟨#[]⟩, .string ⟨#[]⟩, .int .i64 0] ∧ Below w.heap.size w wr ∧ wr.cell? ⟨g, 3, none⟩ = some (.string xd)) (fun iv _ => 6 - (intOf iv).toNat)
        case atStart => exact ⟨1, by omega, by omega, rfl, by rw [scUp_one]; exact HXP.out, HXA.out, HBV.out, hq3.out⟩
        case round =>
          obtain ⟨i, hi1, hi6, rfl, hx, hxa, hbw, hcg⟩ := hrel
          by_cases hi : i ≤ 5
          · have hiI : (i : Int) ≤ 5 := by omega
            have HWD := Lib.hid (fun V => refWord_any (i : Int) V)
            have hgi : g < wr.heap.size := World.block_lt_of_cell? _ _ hcg
            have HXI := Lib.hid hx
            have HXAI := Lib.hid hxa
            have HBI := Lib.hid hbw
            have HCG := Lib.hid hcg
            obtain ⟨bq, hbq⟩ : ∃ b, b = decide (wordB i = pd) := ⟨_, rfl⟩
            have he := HEQ.out i
            rw [← hbq] at he
            have HQ := Lib.hid hbq
            clear hx hxa hbw hbq
            have HWL : Hid (∀ x : Later wr, Calls Tryd.prog 42 #[.int .i64 i] x.at_ fun e w'' => e = .returned (.string (bs (wordB i))) ∧ ∃ y : Later wr, w'' = y.at_) := fun x => Later.call (HWD.out x.at_)
            have hLC := @Later.cells wr
            clear HWD
            generalize hwb : bs (wordB (i : Int)) = wx at *
            clear hwb
            cases bq with
            | true =>
              have HY : Hid (scUp pd (i + 1) = i) := scUp_yes hi1 hi (of_decide_eq_true HQ.out.symm)
              go_wp2_with fail
              refine region_later (by kernel_rfl) (by kernel_rfl) ?_
              repeat (go_big_quiet_step ((go_at_call 42; exact HWL.out _)))
              refine wpQuiet_nil ?_
              rintro _ ⟨nx, rfl⟩
              have HXN := Lib.hid (HXI.out.below nx.below HXI.out.lt)
              have HAN := Lib.hid (HXAI.out.below nx.below HXAI.out.lt)
              have HBN := Lib.hid (HBI.out.trans (nx.below.mono HBI.out.size))
              have HCN := Lib.hid ((nx.below.cell (p := ⟨g, 3, none⟩) (by exact hgi)).trans HCG.out)
              clear hLC hcg
              generalize nx.at_ = wn at *
              have v5 := HXN.out.free 5
              have v0 := HXN.out.cell 5 _ rfl
              have lv := HXN.out.lt
              go_wp2
              go_roundw
              case rel => exact ⟨i + 1, by omega, by omega, by go_num, by rw [HY.out]; exact HXN.out.set 5 (.int .i64 i), HAN.out.grown (setCell_grown wn pB 5 _) (by simp; omega), HBN.out.setCell (p := ⟨pB, 5, none⟩) (by exact Nat.le_of_lt hBA) _, by rw [World.cell?_setCell_far _ _ _ _ (by simp; omega)]; exact HCN.out⟩
              case measure => simp [intOf]; omega
            | false =>
              have HY : Hid (scUp pd (i + 1) = scUp pd i) := scUp_no hi1 hi (of_decide_eq_false HQ.out.symm)
              go_wp2_with fail
              refine region_later (by kernel_rfl) (by kernel_rfl) ?_
              repeat (go_big_quiet_step ((go_at_call 42; exact HWL.out _)))
              refine wpQuiet_nil ?_
              rintro _ ⟨nx, rfl⟩
              have HXN := Lib.hid (HXI.out.below nx.below HXI.out.lt)
              have HAN := Lib.hid (HXAI.out.below nx.below HXAI.out.lt)
              have HBN := Lib.hid (HBI.out.trans (nx.below.mono HBI.out.size))
              have HCN := Lib.hid ((nx.below.cell (p := ⟨g, 3, none⟩) (by exact hgi)).trans HCG.out)
              clear hLC hcg
              generalize nx.at_ = wn at *
              go_wp2
              go_roundw
              case rel => exact ⟨i + 1, by omega, by omega, by go_num, by rw [HY.out]; exact HXN.out, HAN.out, HBN.out, HCN.out⟩
              case measure => simp [intOf]; omega
          · obtain rfl : i = 6 := by omega
            rw [scUp_six] at hx
            have HXI := Lib.hid hx
            have HXAI := Lib.hid hxa
            have HBI := Lib.hid hbw
            have HMP := Lib.hid (fun V => refMayPin_any ⟨⟨ya, yb, yc, ⟨#[]⟩⟩, xc, scopeN pd⟩ V ⟨HG.out, HSC.out⟩)
            have HLW : Hid ((pinP s.data.toList).isSome = pinMay ⟨⟨ya, yb, yc, ⟨#[]⟩⟩, xc, scopeN pd⟩ ∧ ∀ q, pinP s.data.toList = some q → (⟨⟨ya, yb, yc, ⟨#[]⟩⟩, xc, scopeN pd⟩ : Pin) = q) := by
              show _ ∧ _
              rw [HPF.out, HR.out]
              simp only
              by_cases hpm : pinMay ⟨⟨ya, yb, yc, ⟨#[]⟩⟩, xc, scopeN pd⟩ = true
              · rw [if_pos hpm, hpm]; exact ⟨rfl, fun q h => Option.some.inj h⟩
              · rw [if_neg hpm, Bool.not_eq_true] at *
                rw [hpm]; exact ⟨rfl, fun q h => by cases h⟩
            clear hx hxa hbw hcg
            generalize scopeN pd = sc at *
            generalize pinMay ⟨⟨ya, yb, yc, ⟨#[]⟩⟩, xc, sc⟩ = ok at *
            have lv := HXI.out.lt
            have hnA : ¬ pB = w.heap.size := by omega
            go_wp2_with fail
            refine wp_region_flags0 (rpJ ya yb yc ⟨#[]⟩ xc sc ok pB w wr _ _ _ _ _ _ _ _ _ _ _ _ _ _ _ _ _ _ _ _ _ _ _ _ _ _ _ _ _ _ _ _ _ _ _ _ _ _ _ _ _ _ _ _ _ _ _ _ _ _ _ _ _ _ _ _ _ _ _ _ _ _ _ _ _ _ _ _ _ _ _ _) (by kernel_rfl) 5 rfl (by kernel_rfl) ⟨false, false, false, false, false, rfl, rfl, belowN HBI.out 1, Nat.le_refl _, fun _ => rfl, HXAI.out.drewN 1⟩ ?fin ?step
            case fin =>
              rintro a' w' ⟨f0, f1, f2, f3, f4, hl, rfl, hB, hs, hc, hx⟩
              have hl' : [true, true, true, true, true] = [f0, f1, f2, f3, f4] := congrArg Array.toList hl
              simp only [List.cons.injEq, and_true] at hl'
              obtain ⟨rfl, rfl, rfl, rfl, rfl⟩ := hl'
              unfold rpUpd
              simp only [cond_true]
              have HXX := Lib.hid hx
              have HBB := Lib.hid hB
              clear hB hs hc hx
              have z0 := HXX.out.cell 0 _ rfl
              have z1 := HXX.out.cell 1 _ rfl
              have z2 := HXX.out.cell 2 _ rfl
              have z3 := HXX.out.cell 3 _ rfl
              have z4 := HXX.out.cell 4 _ rfl
              have z5 := HXX.out.cell 5 _ rfl
              go_wp2
              refine bodyPost_ret (v := .tuple #[.agg #[.string ya, .string yb, .string yc, .string ⟨#[]⟩, .string xc, .int .i64 sc], .bool ok]) (by simp [results, Tryd.results29, go_sem, z0, z1, z2, z3, z4, z5]) rfl ?_
              refine ⟨⟨⟨ya, yb, yc, ⟨#[]⟩⟩, xc, sc⟩, ?_, HLW.out.2, HBB.out⟩
              rw [HLW.out.1]
            case step =>
              rintro listed a' w' ⟨f0, f1, f2, f3, f4, rfl, rfl, hB, hs, hc, hx⟩ i hi
              rw [mem_ready] at hi
              obtain ⟨hu, o, ho, ha⟩ := hi
              have hi8 : i < 5 := (Array.getElem?_eq_some_iff.1 ho).1
              rcases (by omega : i = 0 ∨ i = 1 ∨ i = 2 ∨ i = 3 ∨ i = 4) with rfl | rfl | rfl | rfl | rfl
              · have ho' := ho
                simp at hu ho
                subst hu ho
                clear ha
                unfold rpUpd
                refine wpOp_do ho' (by rfl) ?_
                refine wp_load_mid 51 (.tmp 6) rfl pB 0 rfl [.string ya, .string yb, .string yc, .string ⟨#[]⟩, .string xc, .int .i64 sc] _ (fun j v hv => by rw [Nat.zero_add, hc]; exact HXI.out.cell j v hv) Tryd.underlying51 rfl size_pin6 ?_
                simp only [Act.put, List.setIfInBounds_toArray, List.set_cons_succ, List.set_cons_zero]
                exact ⟨true, f1, f2, f3, f4, rfl, rfl, hB, hs, hc, hx⟩
              · have ho' := ho
                simp at hu ho
                subst hu ho
                clear ha
                unfold rpUpd
                refine wpOp_do ho' (by rfl) ?_
                refine wp_load_mid 51 (.tmp 6) rfl pB 0 rfl [.string ya, .string yb, .string yc, .string ⟨#[]⟩, .string xc, .int .i64 sc] _ (fun j v hv => by rw [Nat.zero_add, hc]; exact HXI.out.cell j v hv) Tryd.underlying51 rfl size_pin6 ?_
                simp only [Act.put, List.setIfInBounds_toArray, List.set_cons_succ, List.set_cons_zero]
                exact ⟨f0, true, f2, f3, f4, rfl, rfl, hB, hs, hc, hx⟩
              · have ho' := ho
                simp at hu ho
                subst hu ho
                simp [Region.binds] at ha
                obtain rfl : f1 = true := by first | exact ha | exact ha.1 | exact ha.2.1 | exact ha.2.2.1 | exact ha.2.2.2.1 | exact ha.2.2.2.2.1 | exact ha.2.2.2.2.2.1 | exact ha.2.2.2.2.2.2.1 | exact ha.2.2.2.2.2.2.2.1 | exact ha.2.2.2.2.2.2.2.2.1 | exact ha.2.2.2.2.2.2.2.2.2.1 | exact ha.2.2.2.2.2.2.2.2.2.2.1 | exact ha.2.2.2.2.2.2.2.2.2.2.2.1 | exact ha.2.2.2.2.2.2.2.2.2.2.2.2.1 | exact ha.2 | exact ha.2.2 | exact ha.2.2.2 | exact ha.2.2.2.2 | exact ha.2.2.2.2.2 | exact ha.2.2.2.2.2.2 | exact ha.2.2.2.2.2.2.2 | exact ha.2.2.2.2.2.2.2.2 | exact ha.2.2.2.2.2.2.2.2.2 | exact ha.2.2.2.2.2.2.2.2.2.2 | exact ha.2.2.2.2.2.2.2.2.2.2.2 | exact ha.2.2.2.2.2.2.2.2.2.2.2.2 | exact ha.2.2.2.2.2.2.2.2.2.2.2.2.2
                clear ha
                unfold rpUpd
                refine wpOp_do ho' (by rfl) ?_
                unfold Oper.wp
                go_simp
                refine (HMP.out w').mono ?_
                rintro e w7 ⟨rfl, hb⟩
                exact ⟨f0, true, true, f3, f4, rfl, rfl, hB.trans (hb.mono hB.size), Nat.le_trans hs hb.size, fun o => (hb.cell (by exact Nat.lt_of_lt_of_le lv hs)).trans (hc o), hx.below hb hx.lt⟩
              · have ho' := ho
                simp at hu ho
                subst hu ho
                simp [Region.binds] at ha
                obtain rfl : f0 = true := by first | exact ha | exact ha.1 | exact ha.2.1 | exact ha.2.2.1 | exact ha.2.2.2.1 | exact ha.2.2.2.2.1 | exact ha.2.2.2.2.2.1 | exact ha.2.2.2.2.2.2.1 | exact ha.2.2.2.2.2.2.2.1 | exact ha.2.2.2.2.2.2.2.2.1 | exact ha.2.2.2.2.2.2.2.2.2.1 | exact ha.2.2.2.2.2.2.2.2.2.2.1 | exact ha.2.2.2.2.2.2.2.2.2.2.2.1 | exact ha.2.2.2.2.2.2.2.2.2.2.2.2.1 | exact ha.2 | exact ha.2.2 | exact ha.2.2.2 | exact ha.2.2.2.2 | exact ha.2.2.2.2.2 | exact ha.2.2.2.2.2.2 | exact ha.2.2.2.2.2.2.2 | exact ha.2.2.2.2.2.2.2.2 | exact ha.2.2.2.2.2.2.2.2.2 | exact ha.2.2.2.2.2.2.2.2.2.2 | exact ha.2.2.2.2.2.2.2.2.2.2.2 | exact ha.2.2.2.2.2.2.2.2.2.2.2.2 | exact ha.2.2.2.2.2.2.2.2.2.2.2.2.2
                obtain rfl : f2 = true := by first | exact ha | exact ha.1 | exact ha.2.1 | exact ha.2.2.1 | exact ha.2.2.2.1 | exact ha.2.2.2.2.1 | exact ha.2.2.2.2.2.1 | exact ha.2.2.2.2.2.2.1 | exact ha.2.2.2.2.2.2.2.1 | exact ha.2.2.2.2.2.2.2.2.1 | exact ha.2.2.2.2.2.2.2.2.2.1 | exact ha.2.2.2.2.2.2.2.2.2.2.1 | exact ha.2.2.2.2.2.2.2.2.2.2.2.1 | exact ha.2.2.2.2.2.2.2.2.2.2.2.2.1 | exact ha.2 | exact ha.2.2 | exact ha.2.2.2 | exact ha.2.2.2.2 | exact ha.2.2.2.2.2 | exact ha.2.2.2.2.2.2 | exact ha.2.2.2.2.2.2.2 | exact ha.2.2.2.2.2.2.2.2 | exact ha.2.2.2.2.2.2.2.2.2 | exact ha.2.2.2.2.2.2.2.2.2.2 | exact ha.2.2.2.2.2.2.2.2.2.2.2 | exact ha.2.2.2.2.2.2.2.2.2.2.2.2 | exact ha.2.2.2.2.2.2.2.2.2.2.2.2.2
                clear ha
                have HC := Lib.hid hc
                have HBh := Lib.hid hB
                have HXh := Lib.hid hx
                clear hc hB hx
                unfold rpUpd
                refine wpOp_do ho' (by rfl) ?_
                refine wp_store_own 51 (.tmp 2) (.tmp 73) rfl w.heap.size _ #[.string ya, .string yb, .string yc, .string ⟨#[]⟩, .string xc, .int .i64 sc] rfl rfl HXh.out (by rfl) size_pin6 (by simp [Value.oneCell']) ?_
                intro V vx vB vs vc
                simp only [Act.put, List.setIfInBounds_toArray, List.set_cons_succ, List.set_cons_zero]
                exact ⟨true, f1, true, true, f4, rfl, rfl, vB _ _ (Nat.le_refl _) HBh.out, Nat.le_trans hs (Nat.le_of_eq vs.symm), fun o => (vc _ o hnA).trans (HC.out o), vx⟩
              · have ho' := ho
                simp at hu ho
                subst hu ho
                simp [Region.binds] at ha
                obtain rfl : f2 = true := by first | exact ha | exact ha.1 | exact ha.2.1 | exact ha.2.2.1 | exact ha.2.2.2.1 | exact ha.2.2.2.2.1 | exact ha.2.2.2.2.2.1 | exact ha.2.2.2.2.2.2.1 | exact ha.2.2.2.2.2.2.2.1 | exact ha.2.2.2.2.2.2.2.2.1 | exact ha.2.2.2.2.2.2.2.2.2.1 | exact ha.2.2.2.2.2.2.2.2.2.2.1 | exact ha.2.2.2.2.2.2.2.2.2.2.2.1 | exact ha.2.2.2.2.2.2.2.2.2.2.2.2.1 | exact ha.2 | exact ha.2.2 | exact ha.2.2.2 | exact ha.2.2.2.2 | exact ha.2.2.2.2.2 | exact ha.2.2.2.2.2.2 | exact ha.2.2.2.2.2.2.2 | exact ha.2.2.2.2.2.2.2.2 | exact ha.2.2.2.2.2.2.2.2.2 | exact ha.2.2.2.2.2.2.2.2.2.2 | exact ha.2.2.2.2.2.2.2.2.2.2.2 | exact ha.2.2.2.2.2.2.2.2.2.2.2.2 | exact ha.2.2.2.2.2.2.2.2.2.2.2.2.2
                obtain rfl : f3 = true := by first | exact ha | exact ha.1 | exact ha.2.1 | exact ha.2.2.1 | exact ha.2.2.2.1 | exact ha.2.2.2.2.1 | exact ha.2.2.2.2.2.1 | exact ha.2.2.2.2.2.2.1 | exact ha.2.2.2.2.2.2.2.1 | exact ha.2.2.2.2.2.2.2.2.1 | exact ha.2.2.2.2.2.2.2.2.2.1 | exact ha.2.2.2.2.2.2.2.2.2.2.1 | exact ha.2.2.2.2.2.2.2.2.2.2.2.1 | exact ha.2.2.2.2.2.2.2.2.2.2.2.2.1 | exact ha.2 | exact ha.2.2 | exact ha.2.2.2 | exact ha.2.2.2.2 | exact ha.2.2.2.2.2 | exact ha.2.2.2.2.2.2 | exact ha.2.2.2.2.2.2.2 | exact ha.2.2.2.2.2.2.2.2 | exact ha.2.2.2.2.2.2.2.2.2 | exact ha.2.2.2.2.2.2.2.2.2.2 | exact ha.2.2.2.2.2.2.2.2.2.2.2 | exact ha.2.2.2.2.2.2.2.2.2.2.2.2 | exact ha.2.2.2.2.2.2.2.2.2.2.2.2.2
                clear ha
                refine .inl ?_
                unfold rpUpd Oper.wp
                go_simp
                exact ⟨f0, f1, true, true, true, rfl, rfl, hB, hs, hc, hx⟩

end Go.Proofs.YtmcjpmogjmnfpaaDoor
