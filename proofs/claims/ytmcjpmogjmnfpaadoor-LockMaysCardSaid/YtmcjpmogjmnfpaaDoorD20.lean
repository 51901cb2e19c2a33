/- Walk: the law LockMays returns true at locks whose texts are no longer than a reading gives; the conditions stand in the theorem. -/
import Derived.Test.YtmcjpmogjmnfpaaDoorD19
namespace Go.Proofs.YtmcjpmogjmnfpaaDoor
open Go Go.RowKit

set_option maxRecDepth 100000 in
set_option maxHeartbeats 16000000 in
theorem lockMays_any (a b : Lock) (av bv : Value) (m : Int) (w : World) (hm : w.cell? ⟨0, 0, none⟩ = some (.int .i64 m)) (ha : SliceOf 6 pinC w av a.pins) (hb : SliceOf 6 pinC w bv b.pins) (za : lockZ a) (zb : lockZ b) :
    Calls Tryd.prog 6 #[.agg #[.string a.root.group, .string a.root.artifact, .string a.root.version, av], .agg #[.string b.root.group, .string b.root.artifact, .string b.root.version, bv]] w fun e w' => e = .returned (.bool true) ∧ Below w.heap.size w w' := by
  have hw0 : 0 < w.heap.size := World.block_lt_of_cell? w _ hm
  have HM := Lib.hid hm
  have HSA := Lib.hid ha
  have HSB := Lib.hid hb
  have HZA := Lib.hid za
  have HZB := Lib.hid zb
  obtain ⟨ao, ac, rfl⟩ := ha.shape
  obtain ⟨bo, bc, rfl⟩ := hb.shape
  have HLV := Lib.hid (fun V h => lives_any m V h)
  clear hm ha hb za zb
  go_enter Tryd.func6, Tryd.ntmps6
  go_upto_region 1 with fail
  refine wp_world ?_
  intro W hW
  have x2 : Box W w.heap.size [.string a.root.group, .string a.root.artifact, .string a.root.version, .slice ao a.pins.length ac] := by rw [hW]; exact (Box.new w [.string a.root.group, .string a.root.artifact, .string a.root.version, .slice ao a.pins.length ac] _ _ rfl).alloc _
  have x3 : Box W (w.heap.size + 1) [.string b.root.group, .string b.root.artifact, .string b.root.version, .slice bo b.pins.length bc] := by rw [hW]; exact Box.new _ [.string b.root.group, .string b.root.artifact, .string b.root.version, .slice bo b.pins.length bc] _ _ (by simp)
  have hB : Below w.heap.size w W := by rw [hW]; exact ((Below.refl _ w).alloc (Nat.le_refl _) _).alloc (by simp) _
  clear hW
  have X2 := Lib.hid x2
  have X3 := Lib.hid x3
  have HB := Lib.hid hB
  have HA1 := Lib.hid (HSA.out.below hB)
  have HB1 := Lib.hid (HSB.out.below hB)
  clear x2 x3 hB HSA HSB
  generalize hq : w.heap.size + 1 = q at *
  clear hq
  have y0 := X2.out.cell 0 _ rfl
  have y1 := X2.out.cell 1 _ rfl
  have y2 := X2.out.cell 2 _ rfl
  have y3 := X2.out.cell 3 _ rfl
  have ly := X2.out.lt
  go_wp2_with fail
  refine (light_any a _ W HA1.out HZA.out).mono ?_
  rintro e w1 ⟨l1, rfl, hl1, hb1⟩
  have L1 := Lib.hid hl1
  have X21 := Lib.hid (X2.out.below hb1 X2.out.lt)
  have X31 := Lib.hid (X3.out.below hb1 X3.out.lt)
  have HBa := Lib.hid (HB.out.trans (hb1.mono HB.out.size))
  have HA2 := Lib.hid (HA1.out.below hb1)
  have HB2 := Lib.hid (HB1.out.below hb1)
  clear hb1 hl1 y0 y1 y2 y3 ly X2 X3 HB HA1 HB1
  cases l1 with
  | false =>
    have hm1 : w1.cell? ⟨0, 0, none⟩ = some (.int .i64 m) := (HBa.out.cell (p := ⟨0, 0, none⟩) (by exact hw0)).trans HM.out
    have HL1 := Lib.hid (HLV.out w1 hm1)
    clear hm1 HLV
    go_wp2_with fail
    refine HL1.out.mono ?_
    rintro e w6 ⟨rfl, hb6⟩
    have HB6 := Lib.hid (HBa.out.trans (hb6.mono HBa.out.size))
    clear hb6
    go_wp2
    go_ret
    exact ⟨rfl, HB6.out⟩
  | true =>
    have SA := Lib.hid (L1.out rfl)
    have y0 := X31.out.cell 0 _ rfl
    have y1 := X31.out.cell 1 _ rfl
    have y2 := X31.out.cell 2 _ rfl
    have y3 := X31.out.cell 3 _ rfl
    have ly := X31.out.lt
    go_wp2_with fail
    refine (light_any b _ w1 HB2.out HZB.out).mono ?_
    rintro e w2 ⟨l2, rfl, hl2, hb2⟩
    have L2 := Lib.hid hl2
    have X22 := Lib.hid (X21.out.below hb2 X21.out.lt)
    have X32 := Lib.hid (X31.out.below hb2 X31.out.lt)
    have HBb := Lib.hid (HBa.out.trans (hb2.mono HBa.out.size))
    have HA3 := Lib.hid (HA2.out.below hb2)
    have HB3 := Lib.hid (HB2.out.below hb2)
    clear hb2 hl2 y0 y1 y2 y3 ly X21 X31 HBa HA2 HB2
    cases l2 with
    | false =>
      have hm1 : w2.cell? ⟨0, 0, none⟩ = some (.int .i64 m) := (HBb.out.cell (p := ⟨0, 0, none⟩) (by exact hw0)).trans HM.out
      have HL1 := Lib.hid (HLV.out w2 hm1)
      clear hm1 HLV
      go_wp2_with fail
      refine HL1.out.mono ?_
      rintro e w6 ⟨rfl, hb6⟩
      have HB6 := Lib.hid (HBb.out.trans (hb6.mono HBb.out.size))
      clear hb6
      go_wp2
      go_ret
      exact ⟨rfl, HB6.out⟩
    | true =>
      have z0 := X22.out.cell 0 _ rfl
      have z1 := X22.out.cell 1 _ rfl
      have z2 := X22.out.cell 2 _ rfl
      have z3 := X22.out.cell 3 _ rfl
      have lz := X22.out.lt
      have q0 := X32.out.cell 0 _ rfl
      have q1 := X32.out.cell 1 _ rfl
      have q2 := X32.out.cell 2 _ rfl
      have q3 := X32.out.cell 3 _ rfl
      have lq := X32.out.lt
      have HMY := Lib.hid (fun V (h : SliceOf 6 pinC V (.slice ao a.pins.length ac) a.pins) => lockMay_any a _ V h (sm_of_Z HZA.out))
      have HMR := Lib.hid (fun V (h : SliceOf 6 pinC V (.slice ao a.pins.length ac) a.pins) => refLockMay_any a _ V h (sm_of_Z HZA.out))
      have HPR := Lib.hid (fun V (h : SliceOf 6 pinC V (.slice ao a.pins.length ac) a.pins) => print_any a _ V h SA.out)
      have HPF := Lib.hid (fun V (h : SliceOf 6 pinC V (.slice ao a.pins.length ac) a.pins) => refPrint_any a _ V h SA.out)
      have HS1 := Lib.hid (fun V (h : SliceOf 6 pinC V (.slice ao a.pins.length ac) a.pins) (h' : SliceOf 6 pinC V (.slice bo b.pins.length bc) b.pins) => lockSame_any a b _ _ V h h')
      have HS2 := Lib.hid (fun V (h : SliceOf 6 pinC V (.slice ao a.pins.length ac) a.pins) (h' : SliceOf 6 pinC V (.slice bo b.pins.length bc) b.pins) => sameLock_any a b _ _ V h h')
      have HS3 := Lib.hid (fun V (h : SliceOf 6 pinC V (.slice ao a.pins.length ac) a.pins) => lockSame_any a a _ _ V h h)
      have HAA : Hid (decide (a = a) = true) := decide_eq_true rfl
      rw [HAA.out] at HS3
      have hm2 : Hid (∀ V, Below w2.heap.size w2 V → V.cell? ⟨0, 0, none⟩ = some (.int .i64 m)) := fun V h => (h.cell (p := ⟨0, 0, none⟩) (by have := HBb.out.size; show 0 < _; omega)).trans ((HBb.out.cell (p := ⟨0, 0, none⟩) (by exact hw0)).trans HM.out)
      generalize lockMay a = ma at *
      generalize bs (printB a) = pa at *
      generalize decide (a = b) = dab at *
      go_wp2_with fail
      cases ma <;> cases dab
      all_goals
        go_region_held3 (fun w' => ∀ b o, b < w2.heap.size → w'.cell? ⟨b, o, none⟩ = w2.cell? ⟨b, o, none⟩) (first | (intro b o h; rfl) | exact fun b o h => hb3.cell h | exact fun b o h => hb4.cell h | exact fun b o h => hb5.cell h | exact fun b o h => hb6.cell h | exact fun b o h => hb7.cell h | exact fun b o h => hb8.cell h | exact fun b o h => hb9.cell h | exact fun b o h => hb10.cell h) (first | (have _x := hb9; go_at_call 10; refine (HLV.out _ (hm2.out _ hb9)).mono ?_; rintro e w10 ⟨rfl, hb10'⟩; have hb10 := hb9.trans (hb10'.mono hb9.size)) | (have _x := hb8; go_at_call 16; refine (HS3.out _ (HA3.out.below hb8)).mono ?_; rintro e w9 ⟨rfl, hb9'⟩; have hb9 := hb8.trans (hb9'.mono hb8.size)) | (have _x := hb7; go_at_call 9; refine (HS2.out _ (HA3.out.below hb7) (HB3.out.below hb7)).mono ?_; rintro e w8 ⟨rfl, hb8'⟩; have hb8 := hb7.trans (hb8'.mono hb7.size)) | (have _x := hb6; go_at_call 16; refine (HS1.out _ (HA3.out.below hb6) (HB3.out.below hb6)).mono ?_; rintro e w7 ⟨rfl, hb7'⟩; have hb7 := hb6.trans (hb7'.mono hb6.size)) | (have _x := hb5; go_at_call 15; refine (HPF.out _ (HA3.out.below hb5)).mono ?_; rintro e w6 ⟨rfl, hb6'⟩; have hb6 := hb5.trans (hb6'.mono hb5.size)) | (have _x := hb4; go_at_call 13; refine (HPR.out _ (HA3.out.below hb4)).mono ?_; rintro e w5 ⟨rfl, hb5'⟩; have hb5 := hb4.trans (hb5'.mono hb4.size)) | (have _x := hb3; go_at_call 12; refine (HMR.out _ (HA3.out.below hb3)).mono ?_; rintro e w4 ⟨rfl, hb4'⟩; have hb4 := hb3.trans (hb4'.mono hb3.size)) | (go_at_call 14; refine (HMY.out _ (HA3.out.below ((Below.refl _ w2).drew))).mono ?_; rintro e w3 ⟨rfl, hb3'⟩; have hb3 : Below w2.heap.size w2 _ := (belowN (Below.refl _ w2) 1).trans hb3'))
      all_goals
        have HZ := Lib.hid (HBb.out.trans (hb10.mono HBb.out.size))
        clear hb10 hb10' hb9 hb9' hb8 hb8' hb7 hb7' hb6 hb6' hb5 hb5' hb4 hb4' hb3 hb3' z0 z1 z2 z3 q0 q1 q2 q3
        go_wp2
        go_ret
        exact ⟨rfl, HZ.out⟩

end Go.Proofs.YtmcjpmogjmnfpaaDoor
