/- Walks: the law of DiffEdits; its conditions stand in the theorem. -/
import Derived.Test.YtmcjpmogjmnfpaaL16
import Derived.Test.YtmcjpmogjmnfpaaL19
namespace Go.Proofs.Ytmcjpmogjmnfpaa
open Go Go.RowKit

theorem rise_of_may {l : Lock} (h : lockMay l = true) : RiseP l.pins := by
  unfold lockMay at h
  simp only [Bool.and_eq_true] at h
  exact (rise_iff _).1 h.1.1.2
theorem law_edits (a b : Lock) : refEditsR a b = editsR a b ∧ mayE (editsR a b) = true := by
  unfold refEditsR editsR
  cases h : lockMay a && lockMay b with
  | false => exact ⟨rfl, rfl⟩
  | true =>
    rw [Bool.and_eq_true] at h
    rw [if_pos rfl, if_pos rfl]
    exact ⟨(edits_same (rise_of_may h.1) (rise_of_may h.2)).symm, edits_may (rise_of_may h.1) (rise_of_may h.2)⟩

set_option maxRecDepth 100000 in
set_option maxHeartbeats 8000000 in
theorem diffEdits_any (a b : Lock) (av bv : Value) (w : World) (hav : SliceOf 6 pinC w av a.pins) (hbv : SliceOf 6 pinC w bv b.pins) (hsa : lockSm a) (hsb : lockSm b) :
    Calls Try.prog 3 #[.agg (lockC a av).toArray, .agg (lockC b bv).toArray] w fun e w' => e = .returned (.bool true) ∧ Below w.heap.size w w' := by
  obtain ⟨ao, ac, rfl⟩ := hav.shape
  obtain ⟨bo, bc, rfl⟩ := hbv.shape
  have HA := Lib.hid hav
  have HB := Lib.hid hbv
  have HSA := Lib.hid hsa
  have HSB := Lib.hid hsb
  obtain ⟨hl1, hl2⟩ := law_edits a b
  have HL1 := Lib.hid hl1
  have HL2 := Lib.hid hl2
  clear hav hbv hsa hsb hl1 hl2
  unfold lockC
  go_enter Try.func3, Try.ntmps3
  go_upto_region 1 with fail
  refine wp_world ?_
  intro W hW
  have x2 : Box W w.heap.size [.string a.root.group, .string a.root.artifact, .string a.root.version, .slice ao a.pins.length ac] := by rw [hW]; exact (Box.new w _ _ _ rfl).alloc _
  have x3 : Box W (w.heap.size + 1) [.string b.root.group, .string b.root.artifact, .string b.root.version, .slice bo b.pins.length bc] := by rw [hW]; exact Box.new _ _ _ _ (by simp)
  have hB : Below w.heap.size w W := by rw [hW]; exact ((Below.refl _ w).alloc (Nat.le_refl _) _).alloc (by simp) _
  clear hW
  have HX2 := Lib.hid x2
  have HX3 := Lib.hid x3
  have HBW := Lib.hid hB
  have hs := hB.size
  have y0 := x2.cell 0 _ rfl
  have y1 := x2.cell 1 _ rfl
  have y2 := x2.cell 2 _ rfl
  have y3 := x2.cell 3 _ rfl
  clear x2 x3 hB
  go_wp2_with fail
  refine (light_any a (.slice ao a.pins.length ac) W (HA.out.below HBW.out)).mono ?_
  rintro e w1 ⟨b1, rfl, hb1t, hb1⟩
  have HX2' := Lib.hid (HX2.out.below hb1 HX2.out.lt)
  have HX3' := Lib.hid (HX3.out.below hb1 HX3.out.lt)
  have HB1 := Lib.hid (HBW.out.trans (hb1.mono hs))
  have s1 := HB1.out.size
  have q0 := HX3'.out.cell 0 _ rfl
  have q1 := HX3'.out.cell 1 _ rfl
  have q2 := HX3'.out.cell 2 _ rfl
  have q3 := HX3'.out.cell 3 _ rfl
  have HT1 := Lib.hid hb1t
  clear hb1 hb1t y0 y1 y2 y3 HX2 HX3
  cases b1 with
  | false =>
    go_wp2_with fail
    refine (lives_any _).mono ?_
    rintro e w9 ⟨rfl, hb9⟩
    have HB9 := Lib.hid (HB1.out.trans (hb9.mono s1))
    clear hb9
    go_wp2
    go_ret
    exact ⟨rfl, HB9.out⟩
  | true =>
  have HN1 := Lib.hid (HT1.out (by trivial))
  go_wp2_with fail
  refine (light_any b (.slice bo b.pins.length bc) w1 (HB.out.below HB1.out)).mono ?_
  rintro e w2 ⟨b2, rfl, hb2t, hb2⟩
  have HX2 := Lib.hid (HX2'.out.below hb2 HX2'.out.lt)
  have HX3 := Lib.hid (HX3'.out.below hb2 HX3'.out.lt)
  have HB2 := Lib.hid (HB1.out.trans (hb2.mono s1))
  have s2 := HB2.out.size
  have HT2 := Lib.hid hb2t
  clear hb2 hb2t q0 q1 q2 q3 HX2' HX3'
  cases b2 with
  | false =>
    go_wp2_with fail
    refine (lives_any _).mono ?_
    rintro e w9 ⟨rfl, hb9⟩
    have HB9 := Lib.hid (HB2.out.trans (hb9.mono s2))
    clear hb9
    go_wp2
    go_ret
    exact ⟨rfl, HB9.out⟩
  | true =>
  have HN2 := Lib.hid (HT2.out (by trivial))
  have HLE : Hid (a.pins.length + b.pins.length ≤ 1000) := by have h1 := HN1.out; have h2 := HN2.out; show _ ≤ _; omega
  have y0 := HX2.out.cell 0 _ rfl
  have y1 := HX2.out.cell 1 _ rfl
  have y2 := HX2.out.cell 2 _ rfl
  have y3 := HX2.out.cell 3 _ rfl
  have q0 := HX3.out.cell 0 _ rfl
  have q1 := HX3.out.cell 1 _ rfl
  have q2 := HX3.out.cell 2 _ rfl
  have q3 := HX3.out.cell 3 _ rfl
  go_wp2_with fail
  refine (edits_any a b (.slice ao a.pins.length ac) (.slice bo b.pins.length bc) w2 (HA.out.below HB2.out) (HB.out.below HB2.out) HSA.out HSB.out HLE.out).mono ?_
  rintro e w3 ⟨v3, rfl, ho3, hb3⟩
  obtain ⟨vo, vc, rfl⟩ := ho3.shape
  have HE3 := Lib.hid (ho3.slice editC_len)
  have HX2' := Lib.hid (HX2.out.below hb3 HX2.out.lt)
  have HX3' := Lib.hid (HX3.out.below hb3 HX3.out.lt)
  have HB3 := Lib.hid (HB2.out.trans (hb3.mono s2))
  have s3 := HB3.out.size
  clear y0 y1 y2 y3 q0 q1 q2 q3 ho3 hb3 HX2 HX3
  have y0 := HX2'.out.cell 0 _ rfl
  have y1 := HX2'.out.cell 1 _ rfl
  have y2 := HX2'.out.cell 2 _ rfl
  have y3 := HX2'.out.cell 3 _ rfl
  have q0 := HX3'.out.cell 0 _ rfl
  have q1 := HX3'.out.cell 1 _ rfl
  have q2 := HX3'.out.cell 2 _ rfl
  have q3 := HX3'.out.cell 3 _ rfl
  go_wp2_with fail
  refine (refEdits_any a b (.slice ao a.pins.length ac) (.slice bo b.pins.length bc) w3 (HA.out.below HB3.out) (HB.out.below HB3.out) HSA.out HSB.out HLE.out).mono ?_
  rintro e w4 ⟨v4, rfl, ho4, hb4⟩
  rw [HL1.out] at ho4
  have HE4 := Lib.hid (ho4.slice editC_len)
  have HE34 := Lib.hid (HE3.out.below hb4)
  have HB4 := Lib.hid (HB3.out.trans (hb4.mono s3))
  have s4 := HB4.out.size
  clear y0 y1 y2 y3 q0 q1 q2 q3 ho4 hb4
  go_wp2_with fail
  refine (refSame_any (editsR a b) (editsR a b) _ v4 w4 HE34.out HE4.out).mono ?_
  rintro e w5 ⟨rfl, hb5⟩
  rw [decide_eq_true (rfl : editsR a b = editsR a b)]
  have HE5 := Lib.hid (HE34.out.below hb5)
  have HB5 := Lib.hid (HB4.out.trans (hb5.mono s4))
  have s5 := HB5.out.size
  clear hb5
  go_wp2_with fail
  refine (may_any (editsR a b) _ w5 HE5.out).mono ?_
  rintro e w6 ⟨rfl, hb6⟩
  rw [HL2.out]
  have HB6 := Lib.hid (HB5.out.trans (hb6.mono s5))
  have s6 := HB6.out.size
  clear hb6
  go_wp2_with fail
  refine (lives_any _).mono ?_
  rintro e w9 ⟨rfl, hb9⟩
  have HB9 := Lib.hid (HB6.out.trans (hb9.mono s6))
  clear hb9
  go_wp2
  go_ret
  exact ⟨rfl, HB9.out⟩

end Go.Proofs.Ytmcjpmogjmnfpaa
