/- Walks: may it be a dependency, by pom and by the document; the conditions stand in the theorems. -/
import Derived.Test.YtbbbfjcikhpmbaaGreatJE13
import Derived.Test.YtbbbfjcikhpmbaaGreatProg
import Derived.Deep.CutRange
import Derived.Test.YtbbbfjcikhpmbaaGreatJE11
import Derived.Test.YtbbbfjcikhpmbaaGreatJE02
import Derived.Deep.RegionLaw
import Derived.Deep.RegionLawGrows
import Derived.Deep.AppendLies
import Derived.Deep.RegionHeld3
import Derived.IntWalk
namespace Go.Proofs.YtbbbfjcikhpmbaaGreat
open Go Go.RowKit

def patB (x : Id) : Bool := isPartS x.group && isPartS x.artifact
/-- May it be a dependency, of a scope up to most? -/
def mayD (most : Int) (d : Dep) : Bool := okW d.version true && (okW d.type true && (okW d.classifier true && (d.excl.all patB && (okW d.group false && (okW d.artifact false && (decide (0 ≤ d.scope) && (decide (d.scope ≤ most) && (decide (0 ≤ d.opt) && (decide (d.opt ≤ 2) && decide (d.excl.length ≤ 1024))))))))))
theorem all_take2 {α : Type} {p : α → Bool} {l : List α} {k : Nat} (h : k < l.length) : (l.take (k + 1)).all p = ((l.take k).all p && p l[k]) := by
 rw [List.take_succ_eq_append_getElem h, List.all_append]; simp
theorem all_no2 {α : Type} {p : α → Bool} {l : List α} {k : Nat} (h : k < l.length) (hp : p l[k] = false) : l.all p = false := by
 rw [Bool.eq_false_iff]
 intro e
 rw [List.all_eq_true] at e
 rw [e _ (List.getElem_mem h)] at hp
 cases hp
set_option maxRecDepth 100000 in
set_option maxHeartbeats 8000000 in
theorem mayDepD_any (d : Dep) (ex : Value) (most : Int) (w : World) (hx : SliceOf 2 idC w ex d.excl) (hs : ∀ s ∈ [d.group, d.artifact, d.version, d.type, d.classifier], s.size ≤ 1000000) (hxs : ∀ y ∈ d.excl, y.group.size ≤ 1000000 ∧ y.artifact.size ≤ 1000000) :
    Calls Tryz.prog 63 #[.agg (depC (d, ex)).toArray, .int .i64 most] w fun e w' => e = .returned (.bool (mayD most d)) ∧ Below w.heap.size w w' := by
 obtain ⟨r, hr⟩ : ∃ r, r = mayD most d := ⟨_, rfl⟩
 have HR0 : Hid (r = mayD most d) := hr
 rw [← hr]
 clear hr
 obtain ⟨dg, da, dv, dt, dc, ds, dp, dx⟩ := d
 simp only [depC]
 simp only at hx hs hxs
 have hlx : dx.length ≤ 9223372036854775807 := by obtain ⟨a, c, e, h2, h3, -⟩ := hx; exact Nat.le_trans h2 (Nat.le_trans h3 (by decide))
 obtain ⟨xo, xc, rfl⟩ := hx.shape
 have HX := Lib.hid hx
 have HXS := Lib.hid hxs
 obtain ⟨bv, hbv⟩ : ∃ b, b = okW dv true := ⟨_, rfl⟩
 obtain ⟨bt, hbt⟩ : ∃ b, b = okW dt true := ⟨_, rfl⟩
 obtain ⟨bc, hbc⟩ : ∃ b, b = okW dc true := ⟨_, rfl⟩
 obtain ⟨bg, hbg⟩ : ∃ b, b = okW dg false := ⟨_, rfl⟩
 obtain ⟨ba, hba⟩ : ∃ b, b = okW da false := ⟨_, rfl⟩
 obtain ⟨bx, hbx⟩ : ∃ b, b = dx.all patB := ⟨_, rfl⟩
 have HBX := Lib.hid hbx
 have Hbv : Hid (∀ W, Calls Tryz.prog 61 #[.string dv, .bool true] W fun e w' => e = .returned (.bool bv) ∧ Below W.heap.size W w') := fun W => by rw [hbv]; exact plainD_any dv true W (hs _ (by simp))
 have Hbt : Hid (∀ W, Calls Tryz.prog 61 #[.string dt, .bool true] W fun e w' => e = .returned (.bool bt) ∧ Below W.heap.size W w') := fun W => by rw [hbt]; exact plainD_any dt true W (hs _ (by simp))
 have Hbc : Hid (∀ W, Calls Tryz.prog 61 #[.string dc, .bool true] W fun e w' => e = .returned (.bool bc) ∧ Below W.heap.size W w') := fun W => by rw [hbc]; exact plainD_any dc true W (hs _ (by simp))
 have Hbg : Hid (∀ W, Calls Tryz.prog 61 #[.string dg, .bool false] W fun e w' => e = .returned (.bool bg) ∧ Below W.heap.size W w') := fun W => by rw [hbg]; exact plainD_any dg false W (hs _ (by simp))
 have Hba : Hid (∀ W, Calls Tryz.prog 61 #[.string da, .bool false] W fun e w' => e = .returned (.bool ba) ∧ Below W.heap.size W w') := fun W => by rw [hba]; exact plainD_any da false W (hs _ (by simp))
 have HR : Hid (r = (bv && (bt && (bc && (bx && (bg && (ba && (decide (0 ≤ ds) && (decide (ds ≤ most) && (decide (0 ≤ dp) && (decide (dp ≤ 2) && decide (dx.length ≤ 1024)))))))))))) := by show _ = _; rw [HR0.out, hbv, hbt, hbc, hbg, hba, hbx]; rfl
 clear hbv hbt hbc hbg hba hbx HR0 hx hs hxs
 go_enter Tryz.func63, Tryz.ntmps63
 go_upto_region 1 with fail
 refine wp_world ?_
 intro W hW
 have x2 : Box W w.heap.size [.string dg, .string da, .string dv, .string dt, .string dc, .int .i64 ds, .int .i64 dp, .slice xo dx.length xc] := by rw [hW]; exact Box.new w [.string dg, .string da, .string dv, .string dt, .string dc, .int .i64 ds, .int .i64 dp, .slice xo dx.length xc] _ _ rfl
 have hb2 : Below w.heap.size w W := by rw [hW]; exact (Below.refl _ _).alloc (Nat.le_refl _) _
 clear hW
 have HD0 := Lib.hid x2
 have HB0 := Lib.hid hb2
 clear x2 hb2
 have d7 := HD0.out.cell 7 _ rfl
 have dl := HD0.out.lt
 go_wp2
 clear d7 dl
 go_loopw [10] (fun i wr => ∃ k : Nat, k ≤ dx.length ∧ i = .int .i64 k ∧ Hid ((dx.take k).all patB = true ∧ Below w.heap.size w wr ∧ Box wr w.heap.size [.string dg, .string da, .string dv, .string dt, .string dc, .int .i64 ds, .int .i64 dp, .slice xo dx.length xc])) (fun i _ => dx.length - (intOf i).toNat)
 case atStart => exact ⟨0, Nat.zero_le _, rfl, rfl, HB0.out, HD0.out⟩
 case round =>
  obtain ⟨k, hk, rfl, HRR⟩ := hrel
  clear HD0 HB0
  by_cases hlt : k < dx.length
  · have HTK := Lib.hid (all_take2 (p := patB) hlt)
    have HNO := Lib.hid (fun h => all_no2 (p := patB) hlt h)
    have HYS := Lib.hid (HXS.out dx[k] (List.getElem_mem hlt))
    obtain ⟨g, o, rfl, hg, c0, c1⟩ := (HX.out.below HRR.out.2.1).atId hlt
    have hsr := HRR.out.2.1.size
    generalize dx[k] = y at *
    obtain ⟨y1, y2⟩ := y
    simp only at c0 c1
    have HI1 : Hid (∀ W, Calls Tryz.prog 92 #[.string y1] W fun e w' => e = .returned (.bool (isIdB y1)) ∧ Below W.heap.size W w') := fun W => (refIsId_any y1 W (by have := HYS.out.1; simp only at this; omega)).mono fun _ _ ⟨h1, h2⟩ => ⟨h1, by rw [← h2]; exact Below.refl _ _⟩
    have HI2 : Hid (∀ W, Calls Tryz.prog 92 #[.string y2] W fun e w' => e = .returned (.bool (isIdB y2)) ∧ Below W.heap.size W w') := fun W => (refIsId_any y2 W (by have := HYS.out.2; simp only at this; omega)).mono fun _ _ ⟨h1, h2⟩ => ⟨h1, by rw [← h2]; exact Below.refl _ _⟩
    have HPB : Hid (patB ⟨y1, y2⟩ = (((y1.toList == [42]) || isIdB y1) && ((y2.toList == [42]) || isIdB y2))) := rfl
    obtain ⟨i1, hi1⟩ : ∃ i, i = isIdB y1 := ⟨_, rfl⟩
    obtain ⟨i2, hi2⟩ : ∃ i, i = isIdB y2 := ⟨_, rfl⟩
    rw [← hi1] at HI1 HPB
    rw [← hi2] at HI2 HPB
    obtain ⟨s1, hs1⟩ : ∃ i, i = (y1.toList == [42]) := ⟨_, rfl⟩
    obtain ⟨s2, hs2⟩ : ∃ i, i = (y2.toList == [42]) := ⟨_, rfl⟩
    rw [← hs1, ← hs2] at HPB
    have k1 : (y1.toList == [42]) = s1 := hs1.symm
    have k2 : (y2.toList == [42]) = s2 := hs2.symm
    clear hi1 hi2 hs1 hs2 HYS
    go_upto_region 4 with fail
    refine wp_world ?_
    intro W4 hW4
    have x4 : Box W4 wr.heap.size [.string y1, .string y2] := by rw [hW4]; exact Box.new wr [.string y1, .string y2] _ _ rfl
    have hb4 : Below wr.heap.size wr W4 := by rw [hW4]; exact (Below.refl _ _).alloc (Nat.le_refl _) _
    clear hW4 c0 c1
    have HY := Lib.hid x4
    have HB := Lib.hid (HRR.out.2.1.trans (hb4.mono hsr))
    have HD := Lib.hid (HRR.out.2.2.below (hb4) HRR.out.2.2.lt)
    clear x4 hb4
    have a0 := HY.out.cell 0 _ rfl
    have a1 := HY.out.cell 1 _ rfl
    have al := HY.out.lt
    cases s1 with
    | true =>
     cases s2 with
     | true =>
      have HT2 : Hid ((dx.take (k + 1)).all patB = true) := by show _ = _; rw [HTK.out, HRR.out.1, HPB.out]; rfl
      clear HTK HNO HPB
      go_wp2
      go_roundw
      case rel => exact ⟨k + 1, hlt, by go_num, HT2.out, HB.out, HD.out⟩
      case measure => simp [intOf]; omega
     | false =>
      go_wp2_with fail
      refine (HI2.out _).mono ?_
      rintro e w8 ⟨rfl, hb7⟩
      have HY1 := Lib.hid (HY.out.below hb7 HY.out.lt)
      have HD1 := Lib.hid (HD.out.below hb7 HD.out.lt)
      have HB1 := Lib.hid (HB.out.trans (hb7.mono HB.out.size))
      clear a0 a1 al hb7 HD HB HY
      have HD := HD1
      have HB := HB1
      have HY := HY1
      clear HD1 HB1 HY1
      have a0 := HY.out.cell 0 _ rfl
      have a1 := HY.out.cell 1 _ rfl
      have al := HY.out.lt
      cases i2 with
      | false =>
       have HN : Hid (r = false) := by
        show _ = _
        rw [HR.out, HBX.out, HNO.out (by rw [HPB.out]; simp)]
        simp
       clear HTK HNO HPB
       go_wp2
       go_ret
       exact ⟨by rw [HN.out]; rfl, HB.out⟩
      | true =>
       have HT2 : Hid ((dx.take (k + 1)).all patB = true) := by show _ = _; rw [HTK.out, HRR.out.1, HPB.out]; rfl
       clear HTK HNO HPB
       go_wp2
       go_roundw
       case rel => exact ⟨k + 1, hlt, by go_num, HT2.out, HB.out, HD.out⟩
       case measure => simp [intOf]; omega
    | false =>
     go_wp2_with fail
     refine (HI1.out _).mono ?_
     rintro e w7 ⟨rfl, hb7⟩
     have HY1 := Lib.hid (HY.out.below hb7 HY.out.lt)
     have HD1 := Lib.hid (HD.out.below hb7 HD.out.lt)
     have HB1 := Lib.hid (HB.out.trans (hb7.mono HB.out.size))
     clear a0 a1 al hb7 HD HB HY
     have HD := HD1
     have HB := HB1
     have HY := HY1
     clear HD1 HB1 HY1
     have a0 := HY.out.cell 0 _ rfl
     have a1 := HY.out.cell 1 _ rfl
     have al := HY.out.lt
     cases i1 with
     | false =>
      have HN : Hid (r = false) := by
       show _ = _
       rw [HR.out, HBX.out, HNO.out (by rw [HPB.out]; simp)]
       simp
      clear HTK HNO HPB
      go_wp2
      go_ret
      exact ⟨by rw [HN.out]; rfl, HB.out⟩
     | true =>
      cases s2 with
      | true =>
       have HT2 : Hid ((dx.take (k + 1)).all patB = true) := by show _ = _; rw [HTK.out, HRR.out.1, HPB.out]; rfl
       clear HTK HNO HPB
       go_wp2
       go_roundw
       case rel => exact ⟨k + 1, hlt, by go_num, HT2.out, HB.out, HD.out⟩
       case measure => simp [intOf]; omega
      | false =>
       go_wp2_with fail
       refine (HI2.out _).mono ?_
       rintro e w8 ⟨rfl, hb7⟩
       have HY1 := Lib.hid (HY.out.below hb7 HY.out.lt)
       have HD1 := Lib.hid (HD.out.below hb7 HD.out.lt)
       have HB1 := Lib.hid (HB.out.trans (hb7.mono HB.out.size))
       clear a0 a1 al hb7 HD HB HY
       have HD := HD1
       have HB := HB1
       have HY := HY1
       clear HD1 HB1 HY1
       have a0 := HY.out.cell 0 _ rfl
       have a1 := HY.out.cell 1 _ rfl
       have al := HY.out.lt
       cases i2 with
       | false =>
        have HN : Hid (r = false) := by
         show _ = _
         rw [HR.out, HBX.out, HNO.out (by rw [HPB.out]; simp)]
         simp
        clear HTK HNO HPB
        go_wp2
        go_ret
        exact ⟨by rw [HN.out]; rfl, HB.out⟩
       | true =>
        have HT2 : Hid ((dx.take (k + 1)).all patB = true) := by show _ = _; rw [HTK.out, HRR.out.1, HPB.out]; rfl
        clear HTK HNO HPB
        go_wp2
        go_roundw
        case rel => exact ⟨k + 1, hlt, by go_num, HT2.out, HB.out, HD.out⟩
        case measure => simp [intOf]; omega
  · obtain rfl : k = dx.length := by omega
    have HB := Lib.hid HRR.out.2.1
    have HD := Lib.hid HRR.out.2.2
    have hbx1 : bx = true := by rw [HBX.out]; have h1 := HRR.out.1; rwa [List.take_length] at h1
    have HR1 := Lib.hid (HR.out.trans (by rw [hbx1]))
    clear HR HBX hbx1 hlt HX HXS HRR
    have HR := HR1
    clear HR1
    obtain ⟨d0, d1, d2, d3, d4, d5, d6, d7⟩ := bxc8 HD.out
    have dl := HD.out.lt
    go_wp2_with fail
    refine (Hbg.out _).mono ?_
    rintro e w7 ⟨rfl, hb7⟩
    have HD1 := Lib.hid (HD.out.below hb7 HD.out.lt)
    have HB1 := Lib.hid (HB.out.trans (hb7.mono HB.out.size))
    clear d0 d1 d2 d3 d4 d5 d6 d7 dl hb7 HD HB Hbg
    have HD := HD1
    have HB := HB1
    clear HD1 HB1
    cases bg with
    | false =>
     obtain ⟨d0, d1, d2, d3, d4, d5, d6, d7⟩ := bxc8 HD.out
     have dl := HD.out.lt
     go_wp2
     go_ret
     exact ⟨by rw [HR.out]; simp, HB.out⟩
    | true =>
     obtain ⟨d0, d1, d2, d3, d4, d5, d6, d7⟩ := bxc8 HD.out
     have dl := HD.out.lt
     go_wp2_with fail
     refine (Hba.out _).mono ?_
     rintro e w7 ⟨rfl, hb7⟩
     have HD1 := Lib.hid (HD.out.below hb7 HD.out.lt)
     have HB1 := Lib.hid (HB.out.trans (hb7.mono HB.out.size))
     clear d0 d1 d2 d3 d4 d5 d6 d7 dl hb7 HD HB Hba
     have HD := HD1
     have HB := HB1
     clear HD1 HB1
     cases ba with
     | false =>
      obtain ⟨d0, d1, d2, d3, d4, d5, d6, d7⟩ := bxc8 HD.out
      have dl := HD.out.lt
      go_wp2
      go_ret
      exact ⟨by rw [HR.out]; simp, HB.out⟩
     | true =>
      obtain ⟨d0, d1, d2, d3, d4, d5, d6, d7⟩ := bxc8 HD.out
      have dl := HD.out.lt
      go_wp2_with fail
      refine (Hbv.out _).mono ?_
      rintro e w7 ⟨rfl, hb7⟩
      have HD1 := Lib.hid (HD.out.below hb7 HD.out.lt)
      have HB1 := Lib.hid (HB.out.trans (hb7.mono HB.out.size))
      clear d0 d1 d2 d3 d4 d5 d6 d7 dl hb7 HD HB Hbv
      have HD := HD1
      have HB := HB1
      clear HD1 HB1
      cases bv with
      | false =>
       obtain ⟨d0, d1, d2, d3, d4, d5, d6, d7⟩ := bxc8 HD.out
       have dl := HD.out.lt
       go_wp2
       go_ret
       exact ⟨by rw [HR.out]; simp, HB.out⟩
      | true =>
       obtain ⟨d0, d1, d2, d3, d4, d5, d6, d7⟩ := bxc8 HD.out
       have dl := HD.out.lt
       go_wp2_with fail
       refine (Hbt.out _).mono ?_
       rintro e w7 ⟨rfl, hb7⟩
       have HD1 := Lib.hid (HD.out.below hb7 HD.out.lt)
       have HB1 := Lib.hid (HB.out.trans (hb7.mono HB.out.size))
       clear d0 d1 d2 d3 d4 d5 d6 d7 dl hb7 HD HB Hbt
       have HD := HD1
       have HB := HB1
       clear HD1 HB1
       cases bt with
       | false =>
        obtain ⟨d0, d1, d2, d3, d4, d5, d6, d7⟩ := bxc8 HD.out
        have dl := HD.out.lt
        go_wp2
        go_ret
        exact ⟨by rw [HR.out]; simp, HB.out⟩
       | true =>
        obtain ⟨d0, d1, d2, d3, d4, d5, d6, d7⟩ := bxc8 HD.out
        have dl := HD.out.lt
        go_wp2_with fail
        refine (Hbc.out _).mono ?_
        rintro e w7 ⟨rfl, hb7⟩
        have HD1 := Lib.hid (HD.out.below hb7 HD.out.lt)
        have HB1 := Lib.hid (HB.out.trans (hb7.mono HB.out.size))
        clear d0 d1 d2 d3 d4 d5 d6 d7 dl hb7 HD HB Hbc
        have HD := HD1
        have HB := HB1
        clear HD1 HB1
        cases bc with
        | false =>
         obtain ⟨d0, d1, d2, d3, d4, d5, d6, d7⟩ := bxc8 HD.out
         have dl := HD.out.lt
         go_wp2
         go_ret
         exact ⟨by rw [HR.out]; simp, HB.out⟩
        | true =>
         by_cases hq : 0 ≤ ds
         rotate_left
         · have hq1 : ¬ 0 ≤ ds := hq
           have HN : Hid (r = false) := by show _ = _; rw [HR.out, decide_eq_false hq]; simp
           clear hq
           obtain ⟨d0, d1, d2, d3, d4, d5, d6, d7⟩ := bxc8 HD.out
           have dl := HD.out.lt
           go_wp2
           go_ret
           refine ⟨?_, HB.out⟩
           rw [HN.out]
           first | rfl | exact ret_bool (decide_eq_false (by omega))
         have hq5 : 0 ≤ ds := hq
         have HR1 := Lib.hid (HR.out.trans (by rw [decide_eq_true hq]))
         clear HR hq
         have HR := HR1
         clear HR1
         by_cases hq : ds ≤ most
         rotate_left
         · have hq1 : ¬ ds ≤ most := hq
           have HN : Hid (r = false) := by show _ = _; rw [HR.out, decide_eq_false hq]; simp
           clear hq
           obtain ⟨d0, d1, d2, d3, d4, d5, d6, d7⟩ := bxc8 HD.out
           have dl := HD.out.lt
           go_wp2
           go_ret
           refine ⟨?_, HB.out⟩
           rw [HN.out]
           first | rfl | exact ret_bool (decide_eq_false (by omega))
         have hq6 : ds ≤ most := hq
         have HR1 := Lib.hid (HR.out.trans (by rw [decide_eq_true hq]))
         clear HR hq
         have HR := HR1
         clear HR1
         by_cases hq : 0 ≤ dp
         rotate_left
         · have hq1 : ¬ 0 ≤ dp := hq
           have HN : Hid (r = false) := by show _ = _; rw [HR.out, decide_eq_false hq]; simp
           clear hq
           obtain ⟨d0, d1, d2, d3, d4, d5, d6, d7⟩ := bxc8 HD.out
           have dl := HD.out.lt
           go_wp2
           go_ret
           refine ⟨?_, HB.out⟩
           rw [HN.out]
           first | rfl | exact ret_bool (decide_eq_false (by omega))
         have hq2 : 0 ≤ dp := hq
         have HR1 := Lib.hid (HR.out.trans (by rw [decide_eq_true hq]))
         clear HR hq
         have HR := HR1
         clear HR1
         by_cases hq : dp ≤ 2
         rotate_left
         · have hq1 : ¬ dp ≤ 2 := hq
           have HN : Hid (r = false) := by show _ = _; rw [HR.out, decide_eq_false hq]; simp
           clear hq
           obtain ⟨d0, d1, d2, d3, d4, d5, d6, d7⟩ := bxc8 HD.out
           have dl := HD.out.lt
           go_wp2
           go_ret
           refine ⟨?_, HB.out⟩
           rw [HN.out]
           first | rfl | exact ret_bool (decide_eq_false (by omega))
         have hq3 : dp ≤ 2 := hq
         have HR1 := Lib.hid (HR.out.trans (by rw [decide_eq_true hq]))
         clear HR hq
         have HR := HR1
         clear HR1
         by_cases hq : dx.length ≤ 1024
         rotate_left
         · have hq1 : ¬ (dx.length : Int) ≤ 1024 := by omega
           have HN : Hid (r = false) := by show _ = _; rw [HR.out, decide_eq_false hq]; simp
           clear hq
           obtain ⟨d0, d1, d2, d3, d4, d5, d6, d7⟩ := bxc8 HD.out
           have dl := HD.out.lt
           go_wp2
           go_ret
           refine ⟨?_, HB.out⟩
           rw [HN.out]
           first | rfl | exact ret_bool (decide_eq_false (by omega))
         have hq4 : (dx.length : Int) ≤ 1024 := by omega
         have HR1 := Lib.hid (HR.out.trans (by rw [decide_eq_true hq]))
         clear HR hq
         have HR := HR1
         clear HR1
         obtain ⟨d0, d1, d2, d3, d4, d5, d6, d7⟩ := bxc8 HD.out
         have dl := HD.out.lt
         go_wp2
         go_ret
         refine ⟨?_, HB.out⟩
         rw [HR.out]
         first | rfl | exact ret_bool (decide_eq_true hq4)
set_option maxRecDepth 100000 in
set_option maxHeartbeats 8000000 in
theorem isDepQ_any (d : Dep) (ex : Value) (m : Bool) (w : World) (hx : SliceOf 2 idC w ex d.excl) (hs : ∀ s ∈ [d.group, d.artifact, d.version, d.type, d.classifier], s.size ≤ 1000000) (hxs : ∀ y ∈ d.excl, y.group.size ≤ 1000000 ∧ y.artifact.size ≤ 1000000) :
    Calls Tryz.prog 104 #[.agg (depC (d, ex)).toArray, .bool m] w fun e w' => e = .returned (.bool (mayD (if m then 6 else 5) d)) ∧ Below w.heap.size w w' := by
 obtain ⟨r, hr⟩ : ∃ r, r = mayD (if m then 6 else 5) d := ⟨_, rfl⟩
 have HR0 : Hid (r = mayD (if m then 6 else 5) d) := hr
 rw [← hr]
 clear hr
 obtain ⟨dg, da, dv, dt, dc, ds, dp, dx⟩ := d
 simp only [depC]
 simp only at hx hs hxs
 have hlx : dx.length ≤ 9223372036854775807 := by obtain ⟨a, c, e, h2, h3, -⟩ := hx; exact Nat.le_trans h2 (Nat.le_trans h3 (by decide))
 obtain ⟨xo, xc, rfl⟩ := hx.shape
 have HX := Lib.hid hx
 have HXS := Lib.hid hxs
 obtain ⟨bv, hbv⟩ : ∃ b, b = okW dv true := ⟨_, rfl⟩
 obtain ⟨bt, hbt⟩ : ∃ b, b = okW dt true := ⟨_, rfl⟩
 obtain ⟨bc, hbc⟩ : ∃ b, b = okW dc true := ⟨_, rfl⟩
 obtain ⟨bg, hbg⟩ : ∃ b, b = okW dg false := ⟨_, rfl⟩
 obtain ⟨ba, hba⟩ : ∃ b, b = okW da false := ⟨_, rfl⟩
 obtain ⟨bx, hbx⟩ : ∃ b, b = dx.all patB := ⟨_, rfl⟩
 have HBX := Lib.hid hbx
 have Hbg : Hid (∀ W, Calls Tryz.prog 67 #[.string dg, .bool false] W fun e w' => e = .returned (.bool bg) ∧ Below W.heap.size W w') := fun W => by rw [hbg]; exact isTextQ_any dg false W (hs _ (by simp))
 have Hba : Hid (∀ W, Calls Tryz.prog 67 #[.string da, .bool false] W fun e w' => e = .returned (.bool ba) ∧ Below W.heap.size W w') := fun W => by rw [hba]; exact isTextQ_any da false W (hs _ (by simp))
 have HTX : Hid (∀ (W : World) (s : S), s ∈ [dv, dt, dc] → Calls Tryz.prog 67 #[.string s, .bool true] W fun e w' => e = .returned (.bool (okW s true)) ∧ Below W.heap.size W w') := fun W s h => isTextQ_any s true W (hs s (by simp only [List.mem_cons, List.not_mem_nil, or_false] at h ⊢; rcases h with rfl | rfl | rfl <;> simp))
 have HMP : Hid (∀ (W : World) (y : Id), y ∈ dx → Calls Tryz.prog 132 #[.agg #[.string y.group, .string y.artifact]] W fun e w' => e = .returned (.bool (patB y)) ∧ Below W.heap.size W w') := fun W y h => mayPattern_any y W (by have := (hxs y h).1; omega) (by have := (hxs y h).2; omega)
 obtain ⟨sc, hsc⟩ : ∃ sc, sc = (decide (0 ≤ ds) && decide (ds ≤ (if m then 6 else 5))) := ⟨_, rfl⟩
 have HR : Hid (r = (bv && (bt && (bc && (bx && (bg && (ba && (sc && (decide (0 ≤ dp) && (decide (dp ≤ 2) && decide (dx.length ≤ 1024))))))))))) := by show _ = _; rw [HR0.out, hbv, hbt, hbc, hbg, hba, hbx, hsc, Bool.and_assoc]; rfl
 have HSC := Lib.hid hsc
 have HBV : Hid ([dv, dt, dc].all (fun s => okW s true) = (bv && (bt && bc))) := by show _ = _; rw [hbv, hbt, hbc]; simp
 clear hbv hbt hbc hbg hba hbx hsc HR0 hx hs hxs
 go_enter Tryz.func104, Tryz.ntmps104
 go_upto_region 1 with fail
 refine wp_world ?_
 intro W hW
 have x2 : Box W w.heap.size [.string dg, .string da, .string dv, .string dt, .string dc, .int .i64 ds, .int .i64 dp, .slice xo dx.length xc] := by rw [hW]; exact Box.new w [.string dg, .string da, .string dv, .string dt, .string dc, .int .i64 ds, .int .i64 dp, .slice xo dx.length xc] _ _ rfl
 have hb2 : Below w.heap.size w W := by rw [hW]; exact (Below.refl _ _).alloc (Nat.le_refl _) _
 clear hW
 have HD := Lib.hid x2
 have HB := Lib.hid hb2
 clear x2 hb2
 obtain ⟨d0, d1, d2, d3, d4, d5, d6, d7⟩ := bxc8 HD.out
 have dl := HD.out.lt
 go_upto_region 2 with fail
 have HD0 := Lib.hid (HD.out.alloc (.cells #[.string dv, .string dt, .string dc] 9))
 have HB0 := Lib.hid (HB.out.alloc HB.out.size (.cells #[.string dv, .string dt, .string dc] 9))
 have HL0 := Lib.hid (Box.new W [.string dv, .string dt, .string dc] 9 _ rfl)
 clear d0 d1 d2 d3 d4 d5 d6 d7 dl HD HB
 go_loopw [6, 18] (fun _ i wr => ∃ k : Nat, k ≤ 3 ∧ i = .int .i64 k ∧ Hid (([dv, dt, dc].take k).all (fun s => okW s true) = true ∧ Below w.heap.size w wr ∧ Box wr w.heap.size [.string dg, .string da, .string dv, .string dt, .string dc, .int .i64 ds, .int .i64 dp, .slice xo dx.length xc] ∧ Box wr W.heap.size [.string dv, .string dt, .string dc])) (fun _ i _ => 3 - (intOf i).toNat)
 case atStart => exact ⟨0, Nat.zero_le _, rfl, rfl, HB0.out, HD0.out, HL0.out⟩
 case round =>
  obtain ⟨k, hk, rfl, HRR⟩ := hrel
  clear HD0 HB0 HL0
  by_cases hlt : k < 3
  · obtain ⟨s, hks⟩ : ∃ s, [dv, dt, dc][k]? = some s := ⟨[dv, dt, dc][k], by simp [hlt]⟩
    have hkc : wr.cell? ⟨W.heap.size, k, none⟩ = some (.string s) := HRR.out.2.2.2.cell k (.string s) (by rcases (by omega : k = 0 ∨ k = 1 ∨ k = 2) with rfl | rfl | rfl <;> (simp at hks; subst hks; rfl))
    have hll := HRR.out.2.2.2.lt
    have hsr := HRR.out.2.1.size
    have HCT := Lib.hid (fun W => HTX.out W s (List.mem_of_getElem? hks))
    have hkl : k < [dv, dt, dc].length := hlt
    have hsk : [dv, dt, dc][k] = s := by have := List.getElem?_eq_getElem hkl; rw [hks] at this; exact (Option.some.inj this).symm
    have HTK : Hid (([dv, dt, dc].take (k + 1)).all (fun s => okW s true) = okW s true) := by show _ = _; rw [List.take_succ_eq_append_getElem hkl, List.all_append, HRR.out.1, hsk]; simp
    have HNO : Hid (okW s true = false → (bv && (bt && bc)) = false) := fun h => by
     rw [← HBV.out, Bool.eq_false_iff]
     intro e
     rw [List.all_eq_true] at e
     have h1 := e s (List.mem_of_getElem? hks)
     rw [h] at h1; cases h1
    have hkI : (k : Int) < 3 := by omega
    clear hks hkl hsk
    generalize okW s true = q at *
    go_wp2_with fail
    refine (HCT.out _).mono ?_
    rintro e w7 ⟨rfl, hb7⟩
    have HB := Lib.hid (HRR.out.2.1.trans (hb7.mono hsr))
    have HD := Lib.hid (HRR.out.2.2.1.below hb7 HRR.out.2.2.1.lt)
    have HL := Lib.hid (HRR.out.2.2.2.below hb7 HRR.out.2.2.2.lt)
    clear hkc hb7
    cases q with
    | false =>
     have HN : Hid (r = false) := by
      show _ = _
      have h1 := HNO.out rfl
      rw [HR.out, ← Bool.and_assoc bt, ← Bool.and_assoc bv, h1]
      rfl
     clear HTK HNO
     go_wp2
     go_ret
     exact ⟨by rw [HN.out]; rfl, HB.out⟩
    | true =>
     clear HNO
     go_wp2
     go_roundw
     case rel => exact ⟨k + 1, hlt, by go_num, HTK.out, HB.out, HD.out, HL.out⟩
     case measure => simp [intOf]; omega
  · have hk3 : k = 3 := by omega
    have e3 : (k : Int) = 3 := by omega
    rw [e3]
    have HB0 := Lib.hid HRR.out.2.1
    have HD0 := Lib.hid HRR.out.2.2.1
    have hb3 := HRR.out.1
    rw [hk3, show [dv, dt, dc].take 3 = [dv, dt, dc] from rfl, HBV.out] at hb3
    obtain ⟨rfl, rfl, rfl⟩ : bv = true ∧ bt = true ∧ bc = true := by cases bv <;> cases bt <;> cases bc <;> simp_all
    clear hb3 hlt HRR HTX HBV e3 hk3 hk
    have d7 := HD0.out.cell 7 _ rfl
    have dl := HD0.out.lt
    go_wp2
    clear d7 dl
    obtain ⟨wo, rfl⟩ : ∃ wo : World, wo = wr := ⟨_, rfl⟩
    go_loopw [29] (fun i wr => ∃ k : Nat, k ≤ dx.length ∧ i = .int .i64 k ∧ Hid ((dx.take k).all patB = true ∧ Below w.heap.size w wr ∧ Box wr w.heap.size [.string dg, .string da, .string dv, .string dt, .string dc, .int .i64 ds, .int .i64 dp, .slice xo dx.length xc])) (fun i _ => dx.length - (intOf i).toNat)
    case atStart => exact ⟨0, Nat.zero_le _, rfl, rfl, HB0.out, HD0.out⟩
    case round =>
     obtain ⟨k, hk, rfl, HRR⟩ := hrel
     clear HD0 HB0
     by_cases hlt : k < dx.length
     · have HTK := Lib.hid (all_take2 (p := patB) hlt)
       have HNO := Lib.hid (fun h => all_no2 (p := patB) hlt h)
       have HMY := Lib.hid (fun W => HMP.out W dx[k] (List.getElem_mem hlt))
       obtain ⟨g, o, rfl, hg, c0, c1⟩ := (HX.out.below HRR.out.2.1).atId hlt
       have hsr := HRR.out.2.1.size
       generalize dx[k] = y at *
       obtain ⟨y1, y2⟩ := y
       simp only at c0 c1 HMY
       generalize patB ⟨y1, y2⟩ = q at *
       go_upto_region 10 with fail
       refine wp_world ?_
       intro W4 hW4
       have x4 : Box W4 wr.heap.size [.string y1, .string y2] := by rw [hW4]; exact Box.new wr [.string y1, .string y2] _ _ rfl
       have hb4 : Below wr.heap.size wr W4 := by rw [hW4]; exact (Below.refl _ _).alloc (Nat.le_refl _) _
       clear hW4 c0 c1
       have a0 := x4.cell 0 _ rfl
       have a1 := x4.cell 1 _ rfl
       have al := x4.lt
       have HB4 := Lib.hid (HRR.out.2.1.trans (hb4.mono hsr))
       have HD4 := Lib.hid (HRR.out.2.2.below hb4 HRR.out.2.2.lt)
       clear x4 hb4
       go_wp2_with fail
       refine (HMY.out _).mono ?_
       rintro e w7 ⟨rfl, hb7⟩
       have HB := Lib.hid (HB4.out.trans (hb7.mono HB4.out.size))
       have HD := Lib.hid (HD4.out.below hb7 HD4.out.lt)
       clear a0 a1 al hb7 HMY HB4 HD4
       cases q with
       | false =>
        have HN : Hid (r = false) := by show _ = _; rw [HR.out, HBX.out, HNO.out rfl]; simp
        clear HTK HNO
        go_wp2
        go_ret
        exact ⟨by rw [HN.out]; rfl, HB.out⟩
       | true =>
        have HT2 : Hid ((dx.take (k + 1)).all patB = true) := by show _ = _; rw [HTK.out, HRR.out.1]; rfl
        clear HTK HNO
        go_wp2
        go_roundw
        case rel => exact ⟨k + 1, hlt, by go_num, HT2.out, HB.out, HD.out⟩
        case measure => simp [intOf]; omega
     · obtain rfl : k = dx.length := by omega
       have HB := Lib.hid HRR.out.2.1
       have HD := Lib.hid HRR.out.2.2
       have hbx1 : bx = true := by rw [HBX.out]; have h1 := HRR.out.1; rwa [List.take_length] at h1
       have HR1 := Lib.hid (HR.out.trans (by rw [hbx1]))
       clear HR HBX hbx1 hlt HX HRR HMP
       have HR := HR1
       clear HR1
       obtain ⟨wq, rfl⟩ : ∃ wq : World, wq = wr := ⟨_, rfl⟩
       obtain ⟨d0, d1, d2, d3, d4, d5, d6, d7⟩ := bxc8 HD.out
       have dl := HD.out.lt
       go_upto_region 13 with fail
       go_cut [9] from 37 to 52 (fun v wx => v = .bool sc ∧ wx = wq)
       case first =>
        by_cases h0 : 0 ≤ ds
        · by_cases h5 : ds ≤ 5
          · have HS : Hid (sc = true) := by show _ = _; rw [HSC.out]; cases m <;> simp <;> omega
            go_wp2
            go_meet
            case rel => exact ⟨by rw [HS.out], rfl⟩
          · cases m with
            | false =>
             have HS : Hid (sc = false) := by show _ = _; rw [HSC.out]; simp; omega
             go_wp2
             go_meet
             case rel => exact ⟨by rw [HS.out], rfl⟩
            | true =>
             by_cases h6 : ds = 6
             · have HS : Hid (sc = true) := by show _ = _; rw [HSC.out]; simp; omega
               have hk6 : (ds == 6) = true := by rw [h6]; rfl
               clear h6
               go_wp2
               go_meet
               case rel => exact ⟨by rw [HS.out], rfl⟩
             · have HS : Hid (sc = false) := by show _ = _; rw [HSC.out]; simp; omega
               have hk6 : (ds == 6) = false := beq_eq_false_iff_ne.2 h6
               go_wp2
               go_meet
               case rel => exact ⟨by rw [HS.out], rfl⟩
        · have HS : Hid (sc = false) := by show _ = _; rw [HSC.out]; simp; omega
          go_wp2
          go_meet
          case rel => exact ⟨by rw [HS.out], rfl⟩
       case rest =>
        obtain ⟨rfl, hwx⟩ := hcut
        subst hwx
        clear d0 d1 d2 d3 d4 d5 d6 d7 dl HSC
        obtain ⟨d0, d1, d2, d3, d4, d5, d6, d7⟩ := bxc8 HD.out
        have dl := HD.out.lt
        go_wp2_with fail
        refine (Hbg.out _).mono ?_
        rintro e w7 ⟨rfl, hb7⟩
        have HD1 := Lib.hid (HD.out.below hb7 HD.out.lt)
        have HB1 := Lib.hid (HB.out.trans (hb7.mono HB.out.size))
        clear d0 d1 d2 d3 d4 d5 d6 d7 dl hb7 HD HB Hbg
        have HD := HD1
        have HB := HB1
        clear HD1 HB1
        cases bg with
        | false =>
         obtain ⟨d0, d1, d2, d3, d4, d5, d6, d7⟩ := bxc8 HD.out
         have dl := HD.out.lt
         go_wp2
         go_ret
         exact ⟨by rw [HR.out]; simp, HB.out⟩
        | true =>
         obtain ⟨d0, d1, d2, d3, d4, d5, d6, d7⟩ := bxc8 HD.out
         have dl := HD.out.lt
         go_wp2_with fail
         refine (Hba.out _).mono ?_
         rintro e w7 ⟨rfl, hb7⟩
         have HD1 := Lib.hid (HD.out.below hb7 HD.out.lt)
         have HB1 := Lib.hid (HB.out.trans (hb7.mono HB.out.size))
         clear d0 d1 d2 d3 d4 d5 d6 d7 dl hb7 HD HB Hba
         have HD := HD1
         have HB := HB1
         clear HD1 HB1
         cases ba with
         | false =>
          obtain ⟨d0, d1, d2, d3, d4, d5, d6, d7⟩ := bxc8 HD.out
          have dl := HD.out.lt
          go_wp2
          go_ret
          exact ⟨by rw [HR.out]; simp, HB.out⟩
         | true =>
          cases sc with
          | false =>
           obtain ⟨d0, d1, d2, d3, d4, d5, d6, d7⟩ := bxc8 HD.out
           have dl := HD.out.lt
           go_wp2
           go_ret
           exact ⟨by rw [HR.out]; simp, HB.out⟩
          | true =>
           by_cases hq : 0 ≤ dp
           rotate_left
           · have hq1 : ¬ 0 ≤ dp := hq
             have HN : Hid (r = false) := by show _ = _; rw [HR.out, decide_eq_false hq]; simp
             clear hq
             obtain ⟨d0, d1, d2, d3, d4, d5, d6, d7⟩ := bxc8 HD.out
             have dl := HD.out.lt
             go_wp2
             go_ret
             refine ⟨?_, HB.out⟩
             rw [HN.out]
             first | rfl | exact ret_bool (decide_eq_false (by omega))
           have hq2 : 0 ≤ dp := hq
           have HR1 := Lib.hid (HR.out.trans (by rw [decide_eq_true hq]))
           clear HR hq
           have HR := HR1
           clear HR1
           by_cases hq : dp ≤ 2
           rotate_left
           · have hq1 : ¬ dp ≤ 2 := hq
             have HN : Hid (r = false) := by show _ = _; rw [HR.out, decide_eq_false hq]; simp
             clear hq
             obtain ⟨d0, d1, d2, d3, d4, d5, d6, d7⟩ := bxc8 HD.out
             have dl := HD.out.lt
             go_wp2
             go_ret
             refine ⟨?_, HB.out⟩
             rw [HN.out]
             first | rfl | exact ret_bool (decide_eq_false (by omega))
           have hq3 : dp ≤ 2 := hq
           have HR1 := Lib.hid (HR.out.trans (by rw [decide_eq_true hq]))
           clear HR hq
           have HR := HR1
           clear HR1
           by_cases hq : dx.length ≤ 1024
           rotate_left
           · have hq1 : ¬ (dx.length : Int) ≤ 1024 := by omega
             have HN : Hid (r = false) := by show _ = _; rw [HR.out, decide_eq_false hq]; simp
             clear hq
             obtain ⟨d0, d1, d2, d3, d4, d5, d6, d7⟩ := bxc8 HD.out
             have dl := HD.out.lt
             go_wp2
             go_ret
             refine ⟨?_, HB.out⟩
             rw [HN.out]
             first | rfl | exact ret_bool (decide_eq_false (by omega))
           have hq4 : (dx.length : Int) ≤ 1024 := by omega
           have HR1 := Lib.hid (HR.out.trans (by rw [decide_eq_true hq]))
           clear HR hq
           have HR := HR1
           clear HR1
           obtain ⟨d0, d1, d2, d3, d4, d5, d6, d7⟩ := bxc8 HD.out
           have dl := HD.out.lt
           go_wp2
           go_ret
           refine ⟨?_, HB.out⟩
           rw [HR.out]
           first | rfl | exact ret_bool (decide_eq_true hq4)

end Go.Proofs.YtbbbfjcikhpmbaaGreat

/- Walks: the program's text of a number; the conditions stand in the theorem. -/

namespace Go.Proofs.YtbbbfjcikhpmbaaGreat
open Go Go.RowKit

def digQ (n : Nat) : UInt8 := UInt8.ofNat (48 + n)
def numD (k : Nat) (P : Bs) : Bs := if k = 0 then P else numP k ++ P
theorem numD_step {k : Nat} (P : Bs) (h : 0 < k) : numD k P = numD (k / 10) (digQ (k % 10) :: P) := by
 unfold numD
 rw [if_neg (by omega)]
 by_cases h10 : k < 10
 · rw [numP, if_pos h10, if_pos (by omega), Nat.mod_eq_of_lt h10]; rfl
 · rw [numP, if_neg h10, if_neg (by omega)]
   simp [digQ]
def digitsS : S := ⟨#[48, 49, 50, 51, 52, 53, 54, 55, 56, 57]⟩
theorem digits_at (d : Nat) (h : d < 10) : digitsS.extract d (d + 1) = bs [digQ d] := by
 rcases (by omega : d = 0 ∨ d = 1 ∨ d = 2 ∨ d = 3 ∨ d = 4 ∨ d = 5 ∨ d = 6 ∨ d = 7 ∨ d = 8 ∨ d = 9) with rfl | rfl | rfl | rfl | rfl | rfl | rfl | rfl | rfl | rfl <;> decide +kernel
theorem numP_len (n : Nat) : (numP n).length ≤ n + 1 := by
 induction n using Nat.strongRecOn with
 | ind n ih =>
  rw [numP]
  split
  · simp
  · rename_i h
    have := ih (n / 10) (by omega)
    simp only [List.length_append, List.length_cons, List.length_nil]
    omega
set_option maxRecDepth 100000 in
set_option maxHeartbeats 4000000 in
theorem numberQ_any (n : Nat) (w : World) (h0 : 0 < n) (hn : n ≤ 1000000) : Calls Tryz.prog 123 #[.int .i64 n] w fun e w' => e = .returned (.string (bs (numP n))) ∧ w = w' := by
 go_enter Tryz.func123, Tryz.ntmps123
 go_wp2
 go_loopw [3, 0] (fun s i wr => ∃ (k : Nat) (P : Bs) (Z : S), s = .string Z ∧ i = .int .i64 k ∧ wr = w ∧ k ≤ n ∧ Hid (Z = bs P ∧ numD k P = numP n ∧ P.length + k ≤ n)) (fun _ i _ => (intOf i).toNat)
 case atStart => exact ⟨n, [], ⟨#[]⟩, rfl, rfl, rfl, Nat.le_refl _, rfl, by unfold numD; rw [if_neg (by omega)]; simp, by simp⟩
 case round =>
  obtain ⟨k, P, Z, rfl, rfl, hw, hk, HR⟩ := hrel
  subst hw
  by_cases hk0 : 0 < k
  · have hki : (0 : Int) < (k : Int) := by omega
    have hm : (k : Int).tmod 10 = ((k % 10 : Nat) : Int) := by rw [Int.tmod_eq_emod_of_nonneg (by omega)]; rfl
    have hd : (k : Int).tdiv 10 = ((k / 10 : Nat) : Int) := by rw [Int.tdiv_eq_ediv_of_nonneg (by omega)]; rfl
    have hlt : k % 10 < 10 := Nat.mod_lt _ (by decide)
    have hle := HR.out.2.2
    have hzs : Z.size = P.length := by rw [HR.out.1, bs_size]
    have hxs : (ByteArray.extract ⟨#[48, 49, 50, 51, 52, 53, 54, 55, 56, 57]⟩ (k % 10) (k % 10 + 1)).size = 1 := by
     have := digits_at _ hlt
     unfold digitsS at this
     rw [this, bs_size]; rfl
    have hz : ¬ 9223372036854775807 < 1 + Z.size := by omega
    clear hle hzs
    go_wp2
    refine ⟨⟨k / 10, digQ (k % 10) :: P, _, rfl, by congr 1, trivial, by omega, ?_, ?_, ?_⟩, ?_⟩
    · have := digits_at _ hlt
      unfold digitsS at this
      rw [this, HR.out.1, bs_append]; rfl
    · rw [← numD_step P hk0]; exact HR.out.2.1
    · have := HR.out.2.2
      simp only [List.length_cons]; omega
    · simp [intOf]; omega
  · obtain rfl : k = 0 := by omega
    go_wp2
    go_ret
    have h1 : P = numP n := by have := HR.out.2.1; unfold numD at this; simpa using this
    exact ⟨by rw [← h1, ← HR.out.1]; rfl, rfl⟩

end Go.Proofs.YtbbbfjcikhpmbaaGreat

/- append of slices that read as lists, as a step of a region that draws its order; no program in sight. -/
namespace Go.Proofs.YtbbbfjcikhpmbaaGreat
open Go Go.RowKit

/-- append of any slice to one of the call's own. -/
theorem wp_append_slice {α : Type} {P : Program} (w : World) {o : Oper} {a : Act} {K : Act → World → Prop} {Q : Exit → Act → World → Prop} (s x : Operand) (t : TypeId)
    (ho : o.op = .call { callee := .builtin .append, args := #[s, x], argTypes := #[t, t] })
    (base : Nat) (e : TypeId) {z : Value} {size bytes : Nat} (ht : P.underlying t = some (.slice e)) (hinfo : (P.info? e).map (fun i => (i.zero, i.size, i.bytes)) = some (some z, size, bytes)) (hzs : z.cells.size = size) (hsz : 0 < size) {C : α → List Value} (hC : ∀ y, (C y).length = size)
    (v : Value) (l : List α) (hs : a.eval s = v) (hown : Owns base e size C w v l) (v2 : Value) (l2 : List α) (hx : a.eval x = v2) (hsl : SliceOf size C w v2 l2) (h1 : ∀ y ∈ l2, ∀ u ∈ C y, u.oneCell' = true)
    (hbytes : (l.length + l2.length) * bytes ≤ 140737488355328) (hb0 : 0 < bytes) (hbase : base ≤ w.heap.size)
    (h : ∀ v' w', Owns base e size C w' v' (l ++ l2) → w.grownBy w' v.ownBlock → (v'.ownBlock = v.ownBlock ∨ v'.ownBlock = some w.heap.size) → K (a.put o.dst v') w') : o.wp P a w K Q := by
 have hlen63 : l.length + l2.length ≤ maxLen := by
  have : l.length + l2.length ≤ (l.length + l2.length) * bytes := Nat.le_mul_of_pos_right _ hb0
  unfold maxLen; omega
 obtain ⟨i, hi, hz, hsize, hby⟩ := info_parts hinfo
 obtain ⟨ao, cap, rfl, hcap, hm, hn, hc⟩ := hsl
 cases ao with
 | none =>
  have h0 : cap = 0 := hn rfl
  subst h0
  obtain rfl := List.eq_nil_of_length_eq_zero (Nat.le_zero.1 hcap)
  have hrun := run_append_owned_none (P := P) (w := w) base t o.type e i size ht hi v l.length (l.flatMap C) hown
  unfold Oper.wp
  simp [execOp, ho, resolve, invoke, builtin, hs, hx, hrun, Result.andThen]
  exact h v w (by simpa using hown) (World.grownBy.refl _ _) (.inl rfl)
 | some ad =>
  have hnews : ∀ j u, (l2.flatMap C)[j]? = some u → w.cell? (ad.add j) = some u := by
   intro j u hu
   obtain ⟨y, hy, hyu⟩ := flat_split hC hsz hu
   obtain ⟨b, o', ha, _, hcell⟩ := hc _ _ hy
   cases ha
   rw [Addr.add_lit]
   have := hcell _ _ hyu
   rwa [Nat.add_assoc, Nat.div_add_mod' j size] at this
  obtain ⟨v', w', hr, h2, h3, h4, hloc⟩ := run_append_own_at (P := P) w base t o.type e i z size bytes ht hi hz hsize hby hzs hsz v l.length (l.flatMap C) hown ad l2.length cap (l2.flatMap C) (by rw [flat_len hC]) hnews
   (by intro u hu; obtain ⟨y, hy, huy⟩ := List.mem_flatMap.1 hu; exact h1 y hy u huy) hlen63 hbytes hbase
  unfold Oper.wp execOp
  simp only [ho, resolve, invoke, builtin, Sem.run_bind, Sem.run_pure, Result.andThen_ok, List.map_toArray, List.map_cons, List.map_nil, hs, hx, hr]
  exact h v' w' (by unfold Owns; rw [List.length_append, List.flatMap_append]; exact h2) h3 hloc
theorem step_append_slice {α : Type} {P : Program} {ops : Array Oper} {E : Prop} (w : World) {o : Oper} {a : Act} {K : Act → World → Prop} {Q : Exit → Act → World → Prop} (hgd : o.guard = none) (s x : Operand) (t : TypeId)
    (ho : o.op = .call { callee := .builtin .append, args := #[s, x], argTypes := #[t, t] })
    (base : Nat) (e : TypeId) {z : Value} {size bytes : Nat} (ht : P.underlying t = some (.slice e)) (hinfo : (P.info? e).map (fun i => (i.zero, i.size, i.bytes)) = some (some z, size, bytes)) (hzs : z.cells.size = size) (hsz : 0 < size) {C : α → List Value} (hC : ∀ y, (C y).length = size)
    (v : Value) (l : List α) (hs : a.eval s = v) (hown : Owns base e size C w v l) (v2 : Value) (l2 : List α) (hx : a.eval x = v2) (hsl : SliceOf size C w v2 l2) (h1 : ∀ y ∈ l2, ∀ u ∈ C y, u.oneCell' = true)
    (hbytes : (l.length + l2.length) * bytes ≤ 140737488355328) (hb0 : 0 < bytes) (hbase : base ≤ w.heap.size)
    (h : ∀ ao n cap w', Owns base e size C w' (.slice ao n cap) (l ++ l2) → w.grownBy w' v.ownBlock → K (a.put o.dst (.slice ao n cap)) w') :
    if Region.wanted o (yielded ops a.tmps) = true then Oper.wp P o a w K Q else E := by
 have hw : Region.wanted o (yielded ops a.tmps) = true := by simp [Region.wanted, hgd]
 rw [if_pos hw]
 refine wp_append_slice w s x t ho base e ht hinfo hzs hsz hC v l hs hown v2 l2 hx hsl h1 hbytes hb0 hbase fun v' w' h2 h3 _ => ?_
 obtain ⟨ao, cap, rfl⟩ := h2.shape
 exact h ao _ cap w' h2 h3

end Go.Proofs.YtbbbfjcikhpmbaaGreat

/- The walk of a list of pom's reader; the conditions stand in the theorem. -/
namespace Go.Proofs.YtbbbfjcikhpmbaaGreat
open Go Go.RowKit

abbrev ElV := TrV × Bs
def elC (x : ElV) : List Value := [.string (bs x.1.1.name), x.1.2.1, x.1.2.2, .string (bs x.1.1.text), .string (bs x.2)]
theorem elC_len (x : ElV) : (elC x).length = 5 := rfl
theorem info_el : (Tryz.prog.info? 68).map (fun i => (i.zero, i.size, i.bytes)) = some (some (.agg #[.string ⟨#[]⟩, .slice none 0 0, .slice none 0 0, .string ⟨#[]⟩, .string ⟨#[]⟩]), 5, 96) := by kernel_rfl
/-- The elements of a list and where each is. -/
def elsQ (w : Bs) : List Tr → Nat → List (Tr × Bs)
 | [], _ => []
 | t :: r, i => (t, atI w (i + 1)) :: elsQ w r (i + 1)
theorem elsQ_snoc (w : Bs) : ∀ (l : List Tr) (t : Tr) (i : Nat), elsQ w (l ++ [t]) i = elsQ w l i ++ [(t, atI w (i + l.length + 1))]
 | [], t, i => rfl
 | x :: l, t, i => by
  rw [List.cons_append, elsQ, elsQ, elsQ_snoc w l t (i + 1)]
  simp only [List.cons_append, List.length_cons]
  rw [show i + 1 + l.length + 1 = i + (l.length + 1) + 1 by omega]
def bigE (n : Nat) (w : Bs) : Option Er := if 1024 < n then some (2, w) else none
/-- The post of list: the elements in a row of its own, none in blocks of the caller's from B on. -/
def ListP (X : Nat → Prop) (w : World) (l : List (Tr × Bs)) (e : Ending) (w' : World) : Prop := ∃ v L, e = .returned v ∧ L.map (fun x : ElV => (x.1.1, x.2)) = l ∧ Owns w.heap.size 68 5 elC w' v L ∧ ∀ y ∈ L, NodeX (fun j => X j ∨ w.heap.size ≤ j) w' y.1.1 y.1.2.1 y.1.2.2
theorem elC_one (t : Tr) (a1 a3 : Option Addr) (l1 l3 a2 a4 : Nat) (b : Bs) : ∀ y ∈ [(((t, .slice a1 l1 a2, .slice a3 l3 a4), b) : ElV)], ∀ u ∈ elC y, u.oneCell' = true := by
 intro y hy u hu
 obtain rfl := List.mem_singleton.1 hy
 simp only [elC, List.mem_cons, List.not_mem_nil, or_false] at hu
 rcases hu with rfl | rfl | rfl | rfl | rfl <;> rfl
theorem el_lit (y : ElV) (W : World) (H : Nat) (hH : W.heap.size = H) : SliceOf 5 elC (W.alloc (.cells (elC y).toArray 68)) (.slice (some ⟨H, 0, none⟩) 1 1) [y] := by
 have h := sliceLit elC_len W [y] 68 H 1 hH rfl (by unfold maxLen; simp)
 simpa using h
theorem below_thenQ {B : Nat} {w V w8 : World} {v : Value} (h : Below B w V) (hB : B ≤ w.heap.size) (hg : V.grownBy w8 v.ownBlock) (hX : ∀ g, v.ownBlock = some g → B ≤ g) : Below B w w8 :=
 h.trans ⟨hg.os, hg.tape, hg.output, by have := hg.size; have := h.size; omega, fun k hk => hg.block k (by have := h.size; omega) (fun e => by have := hX k e.symm; omega)⟩
theorem keptQ {X : Nat → Prop} {B : Nat} {w w' : World} (h : Below B w w') (hs : w.heap.size ≤ w'.heap.size) (hX : ∀ k, ¬ X k → k < B) : KeptX X w w' := ⟨hs, fun k j _ hx => h.cell (p := ⟨k, j, none⟩) (hX k hx)⟩
set_option maxRecDepth 100000 in
set_option maxHeartbeats 8000000 in
theorem listQ_any (Z : Nat → Prop) (t : Tr) (wh m : Bs) (w : World) (av kv : Value) (ht : NodeX Z w t av kv) (hkl : t.kids.length ≤ 100000) (hl : wh.length + m.length ≤ 1000000000000) :
    Calls Tryz.prog 90 #[elemV t av kv wh, .string (bs m)] w (Ret (bigE (kidsF m t.kids).length wh) (ListP Z w (elsQ (sl wh m) (kidsF m t.kids) 0)) w) := by
 obtain ⟨ao, ac, ko, kc, rfl, rfl, hal, -⟩ := ht.shape
 obtain ⟨K, hK⟩ : ∃ K, K = kidsF m t.kids := ⟨_, rfl⟩
 obtain ⟨X, hX⟩ : ∃ X : S, X = bs wh := ⟨_, rfl⟩
 obtain ⟨M, hM⟩ : ∃ M : S, M = bs m := ⟨_, rfl⟩
 have HC : Hid (∀ W, Below w.heap.size w W → Calls Tryz.prog 83 #[.agg #[.string (bs t.name), .slice ao t.attrs.length ac, .slice ko t.kids.length kc, .string (bs t.text)], .string M] W fun e w' => ∃ v L, e = .returned v ∧ L.map (·.1) = K ∧ CollX (fun j => Z j ∨ w.heap.size ≤ j) W.heap.size W w' v L) := fun W h => by rw [hM, hK]; exact kids_x t m W _ _ (ht.freshX.later h) hkl
 have HW : Hid (∀ P : Bs, X ++ ⟨#[47]⟩ ++ M ++ ⟨#[91]⟩ ++ bs P ++ ⟨#[93]⟩ = bs (sl wh m ++ 91 :: (P ++ [93]))) := fun P => by
  rw [hX, hM]; show bs wh ++ bs [47] ++ bs m ++ bs [91] ++ bs P ++ bs [93] = _
  simp only [bs_append]; unfold sl; simp
 have hKL : K.length ≤ 100000 := by rw [hK]; exact Nat.le_trans (List.length_filter_le _ _) hkl
 have HXW : Hid ((bs wh : S) = X) := hX.symm
 have hzX : X.size = wh.length := by rw [hX, bs_size]
 have hzM : M.size = m.length := by rw [hM, bs_size]
 have HZ : Hid (X.size + M.size ≤ 1000000000000) := by show _ ≤ _; omega
 have HRB : Hid (1024 < K.length → bigE K.length wh = some (2, wh)) := fun h => if_pos h
 have HRG : Hid (¬ 1024 < K.length → bigE K.length wh = none) := fun h => if_neg h
 unfold elemV
 rw [← hK, ← hX, ← hM]
 generalize bigE K.length wh = r at *
 clear ht hX hM hzX hzM hK
 go_enter Tryz.func90, Tryz.ntmps90
 go_upto_region 1 with fail
 refine wp_world ?_
 intro W hW
 have x1 : Box W w.heap.size [.string (bs t.name), .slice ao t.attrs.length ac, .slice ko t.kids.length kc, .string (bs t.text), .string X] := by rw [hW]; exact Box.new w [.string (bs t.name), .slice ao t.attrs.length ac, .slice ko t.kids.length kc, .string (bs t.text), .string X] _ _ rfl
 have hb : Below w.heap.size w W := by rw [hW]; exact (Below.refl _ w).alloc (Nat.le_refl _) _
 clear hW
 have HX1 := Lib.hid x1
 have HB := Lib.hid hb
 clear x1 hb
 obtain ⟨a0, a1, a2, a3, a4⟩ := bxc5 HX1.out
 have al := HX1.out.lt
 go_wp2_with fail
 refine (HC.out _ HB.out).mono ?_
 rintro e w1 ⟨v, L, rfl, hL, hco⟩
 obtain ⟨la, lc, rfl⟩ := hco.own.shape
 have hb1 := hco.below
 have HB1 := Lib.hid (HB.out.trans (hb1.mono HB.out.size))
 have HY1 := Lib.hid (HX1.out.below hb1 HX1.out.lt)
 have HCO := Lib.hid (collQ hco (Below.refl _ _))
 have hLK : L.length = K.length := by rw [← hL]; simp
 rw [hLK] at HCO ⊢
 have HLM := Lib.hid hL
 have HLK := Lib.hid hLK
 clear a0 a1 a2 a3 a4 al hb1 hco HC HX1 hL hLK
 obtain ⟨a0, a1, a2, a3, a4⟩ := bxc5 HY1.out
 have al := HY1.out.lt
 by_cases hbig : 1024 < K.length
 · have hbI : (1024 : Int) < (K.length : Int) := by omega
   have HR : Hid (r = some (2, wh)) := HRB.out hbig
   clear hbig HRB HRG
   go_wp2_with fail
   refine (failQ_any _ _ _).mono ?_
   rintro e w3 ⟨rfl, rfl⟩
   go_wp2
   refine ⟨rfl, Ret.bad HR.out HB1.out ?_⟩
   unfold panE faultQ
   rw [HXW.out]
 · have hbI : ¬ (1024 : Int) < (K.length : Int) := by omega
   have HR : Hid (r = none) := HRG.out hbig
   clear HRB HRG
   have HKS : Hid (K.length ≤ 1024) := by show _ ≤ _; omega
   clear hbig
   go_wp2
   clear a0 a1 a2 a3 a4 al
   go_loopw [4, 20] (fun v i wr => ∃ (k : Nat) (O : List ElV) (oa : Option Addr) (oc : Nat), k ≤ K.length ∧ i = .int .i64 k ∧ v = .slice oa k oc ∧ Hid (Below w1.heap.size w1 wr ∧ Owns w1.heap.size 68 5 elC wr (.slice oa k oc) O ∧ O.map (fun x : ElV => (x.1.1, x.2)) = elsQ (sl wh m) (K.take k) 0 ∧ O.length = k ∧ ∀ y ∈ O, NodeX (fun j => Z j ∨ w.heap.size ≤ j) wr y.1.1 y.1.2.1 y.1.2.2)) (fun _ i _ => K.length - (intOf i).toNat)
   case atStart => exact ⟨0, [], none, 0, Nat.zero_le _, rfl, rfl, Below.refl _ _, Owns.nil, rfl, rfl, by simp⟩
   case round =>
    obtain ⟨k, O, oa, oc, hk, rfl, rfl, HRR⟩ := hrel
    by_cases hlt : k < K.length
    · have hb1r := HRR.out.1
      have hs1 := hb1r.size
      have HCW := Lib.hid (And.intro (HCO.out.1.below hb1r) (fun y hy => (HCO.out.2 y hy).later hb1r))
      rw [← HLK.out] at HCW
      obtain ⟨g, o1, p1, p2, p3, p4, hla, hg, c0, c1, c2, c3, hn⟩ := nodesQ HCW.out.1 HCW.out.2 k (by rw [HLK.out]; exact hlt)
      subst hla
      have HZ1 := Lib.hid (HY1.out.below hb1r HY1.out.lt)
      have hki : (k : Int) < (K.length : Int) := by omega
      have hkL : k < L.length := by rw [HLK.out]; exact hlt
      have hyk : K[k] = L[k].1 := by simp only [← HLM.out, List.getElem_map]
      have HTK := Lib.hid (by rw [List.take_succ_eq_append_getElem hlt, hyk] : K.take (k + 1) = K.take k ++ [L[k].1])
      have HNN := Lib.hid hn
      clear hn hyk
      generalize L[k] = y at *
      obtain ⟨t1, ya, yk⟩ := y
      simp only at c0 c1 c2 c3 HNN HTK
      obtain ⟨N, hN⟩ : ∃ N : S, N = bs (numP (k + 1)) := ⟨_, rfl⟩
      have hNz : N.size ≤ 1027 := by rw [hN, bs_size]; have h1 := numP_len (k + 1); have h2 := HKS.out; omega
      have HNU : Hid (∀ W, Calls Tryz.prog 123 #[.int .i64 ((k : Int) + 1)] W fun e w' => e = .returned (.string N) ∧ W = w') := fun W => by rw [hN]; exact numberQ_any (k + 1) W (by omega) (by have := HKS.out; omega)
      have HPA : Hid (X ++ ⟨#[47]⟩ ++ M ++ ⟨#[91]⟩ ++ N ++ ⟨#[93]⟩ = bs (atI (sl wh m) (k + 1))) := by rw [hN]; exact HW.out _
      have hz := HZ.out
      have hs1' : ¬ 9223372036854775807 < X.size + 1 := by omega
      have hs2' : ¬ 9223372036854775807 < X.size + 1 + M.size := by omega
      have hs3' : ¬ 9223372036854775807 < X.size + 1 + M.size + 1 := by omega
      have hs4' : ¬ 9223372036854775807 < X.size + 1 + M.size + 1 + N.size := by omega
      have hs5' : ¬ 9223372036854775807 < X.size + 1 + M.size + 1 + N.size + 1 := by omega
      have hw1 : IntKind.i64.wrap ((k : Int) + 1) = (k : Int) + 1 := IntWalk.i64_in _ (by have := HKS.out; omega)
      clear hN hNz hz
      have HOR := Lib.hid HRR.out.2.1
      have HR1 := Lib.hid hb1r
      clear hb1r
      go_upto_region 7 with fail
      refine wp_world ?_
      intro W7 hW7
      have x7 : Box W7 wr.heap.size [.string (bs t1.name), .slice p1 t1.attrs.length p2, .slice p3 t1.kids.length p4, .string (bs t1.text)] := by rw [hW7]; exact Box.new wr [.string (bs t1.name), .slice p1 t1.attrs.length p2, .slice p3 t1.kids.length p4, .string (bs t1.text)] _ _ rfl
      have hb7 : Below wr.heap.size wr W7 := by rw [hW7]; exact (Below.refl _ wr).alloc (Nat.le_refl _) _
      clear hW7
      have HX7 := Lib.hid x7
      have HB7 := Lib.hid hb7
      have HZ7 := Lib.hid (HZ1.out.below hb7 HZ1.out.lt)
      have HO7 := Lib.hid (HOR.out.below hb7)
      clear x7 hb7 c0 c1 c2 c3
      obtain ⟨c0, c1, c2, c3⟩ := bxc4 HX7.out
      have cl := HX7.out.lt
      have d4 := HZ7.out.cell 4 _ rfl
      have dl := HZ7.out.lt
      have HOA : Hid (∀ (o : Obj), Owns w1.heap.size 68 5 elC (W7.drew.alloc o) (.slice oa k oc) O) := fun o => Owns.alloc (w := W7.drew) (show Owns w1.heap.size 68 5 elC W7 (.slice oa k oc) O from HO7.out) o
      have HXA : Hid (∀ (o : Obj), Box (W7.drew.alloc o) wr.heap.size [.string (bs t1.name), .slice p1 t1.attrs.length p2, .slice p3 t1.kids.length p4, .string (bs t1.text)]) := fun o => Box.alloc (w := W7.drew) ⟨HX7.out.lt, HX7.out.cell, HX7.out.free⟩ o
      have HYA : Hid (∀ (o : Obj), Box (W7.drew.alloc o) w.heap.size [.string (bs t.name), .slice ao t.attrs.length ac, .slice ko t.kids.length kc, .string (bs t.text), .string X]) := fun o => Box.alloc (w := W7.drew) ⟨HZ7.out.lt, HZ7.out.cell, HZ7.out.free⟩ o
      have HSL : Hid (∀ V : World, SliceOf 5 elC (V.alloc (.cells #[.string (bs t1.name), .slice p1 t1.attrs.length p2, .slice p3 t1.kids.length p4, .string (bs t1.text), .string (X ++ ⟨#[47]⟩ ++ M ++ ⟨#[91]⟩ ++ N ++ ⟨#[93]⟩)] 68)) (.slice (some ⟨V.heap.size, 0, none⟩) 1 1) [(((t1, .slice p1 t1.attrs.length p2, .slice p3 t1.kids.length p4), atI (sl wh m) (k + 1)) : ElV)]) := fun V => by rw [HPA.out]; exact el_lit ((t1, .slice p1 t1.attrs.length p2, .slice p3 t1.kids.length p4), atI (sl wh m) (k + 1)) V _ rfl
      have HBY : Hid ((O.length + [(((t1, .slice p1 t1.attrs.length p2, .slice p3 t1.kids.length p4), atI (sl wh m) (k + 1)) : ElV)].length) * 96 ≤ 140737488355328) := by show _ ≤ _; have := HRR.out.2.2.2.1; have := HKS.out; simp only [List.length_cons, List.length_nil]; omega
      have HBS : Hid (∀ o : Obj, w1.heap.size ≤ (W7.drew.alloc o).heap.size) := fun o => by have h1 := HB7.out.size; have h2 := hs1; show _ ≤ (W7.heap.push o).size; simp only [Array.size_push]; omega
      have HNE : Hid (some wr.heap.size ≠ (Value.slice oa k oc).ownBlock ∧ some w.heap.size ≠ (Value.slice oa k oc).ownBlock) := ⟨fun h => by have := (HOR.out.lt _ h.symm).2; omega, fun h => by have := (HOR.out.lt _ h.symm).1; have := HY1.out.lt; omega⟩
      have HBA : Hid (∀ (o : Obj), Below w1.heap.size wr (W7.drew.alloc o)) := fun o => ((HB7.out.mono hs1).trans (belowN (Below.refl _ _) 1)).alloc (by have := HB7.out.size; show _ ≤ W7.heap.size; omega) o
      have HNB : Hid (∀ g, (Value.slice oa k oc).ownBlock = some g → w1.heap.size ≤ g) := fun g h => (HOR.out.lt _ h).1
      go_region_held3 (fun w' => w'.cell? ⟨wr.heap.size, 0, none⟩ = some (.string (bs t1.name)) ∧ w'.cell? ⟨wr.heap.size, 1, none⟩ = some (.slice p1 t1.attrs.length p2) ∧ w'.cell? ⟨wr.heap.size, 2, none⟩ = some (.slice p3 t1.kids.length p4) ∧ w'.cell? ⟨wr.heap.size, 3, none⟩ = some (.string (bs t1.text)) ∧ w'.cell? ⟨w.heap.size, 4, none⟩ = some (.string X)) (first | exact ⟨c0, c1, c2, c3, d4⟩ | exact ⟨hX8.out.cell 0 _ rfl, hX8.out.cell 1 _ rfl, hX8.out.cell 2 _ rfl, hX8.out.cell 3 _ rfl, hY8.out.cell 4 _ rfl⟩ | (go_keep; done)) (first | (go_at_call 123; refine (HNU.out _).mono ?_; rintro e w9 ⟨rfl, rfl⟩) | (refine step_append_slice _ rfl (.tmp 25) (.tmp 39) 134 rfl w1.heap.size 68 Tryz.underlying134 info_el rfl (by decide) elC_len (.slice oa k oc) O (by simp [Act.eval]) (HOA.out _) _ [(((t1, .slice p1 t1.attrs.length p2, .slice p3 t1.kids.length p4), atI (sl wh m) (k + 1)) : ElV)] (by simp [Act.eval]) (HSL.out _) (elC_one _ _ _ _ _ _ _ _) HBY.out (by decide) (HBS.out _) ?_; intro a8 n8 c8 w8 hown8 hgrow8; have hx8 := (HXA.out _).grown hgrow8 HNE.out.1; have hy8 := (HYA.out _).grown hgrow8 HNE.out.2; have hB8 := Lib.hid (below_thenQ (HBA.out _) hs1 hgrow8 HNB.out); have hO8 := Lib.hid hown8; have hG8 := Lib.hid hgrow8.size; have hX8 := Lib.hid hx8; have hY8 := Lib.hid hy8; clear hown8 hgrow8 hx8 hy8))
      obtain ⟨_, _, he8⟩ := hO8.out.shape
      simp only [Value.slice.injEq, List.length_append, List.length_cons, List.length_nil, HRR.out.2.2.2.1, Nat.zero_add] at he8
      obtain ⟨-, he8, -⟩ := he8
      subst he8
      go_wp2
      go_roundw
      case rel =>
       have h1 := HRR.out
       have hW1 : w.heap.size ≤ w1.heap.size := HB1.out.size
       have hk8 : KeptX (fun j => Z j ∨ w.heap.size ≤ j) wr w8 := keptQ hB8.out hB8.out.size (fun k hk => by have h2 : ¬ w.heap.size ≤ k := fun h => hk (.inr h); omega)
       refine ⟨k + 1, O ++ [(((t1, .slice p1 t1.attrs.length p2, .slice p3 t1.kids.length p4), atI (sl wh m) (k + 1)) : ElV)], a8, c8, hlt, by go_num, rfl, h1.1.trans hB8.out, hO8.out, ?_, by simp [h1.2.2.2.1], ?_⟩
       · rw [List.map_append, h1.2.2.1, HTK.out, elsQ_snoc]
         have hl2 : (K.take k).length = k := by rw [List.length_take]; omega
         rw [hl2, Nat.zero_add]
         rfl
       · intro y hy
         rcases List.mem_append.1 hy with hy | hy
         · exact (h1.2.2.2.2 y hy).keep hk8 (fun _ _ h => h)
         · obtain rfl := List.mem_singleton.1 hy
           exact (HNN.out.keep (keptQ hB8.out hB8.out.size (fun k hk => by have h2 : ¬ w.heap.size ≤ k := fun h => hk (.inl (.inr h)); omega)) (fun _ _ h => .inl h))
      case measure => simp [intOf]; omega
    · obtain rfl : k = K.length := by omega
      go_wp2
      go_ret
      have h1 := HRR.out
      refine Ret.good HR.out (HB1.out.trans (h1.1.mono HB1.out.size)) ⟨_, O, rfl, by rw [h1.2.2.1, List.take_length], h1.2.1.base_mono HB1.out.size, h1.2.2.2.2⟩

end Go.Proofs.YtbbbfjcikhpmbaaGreat
