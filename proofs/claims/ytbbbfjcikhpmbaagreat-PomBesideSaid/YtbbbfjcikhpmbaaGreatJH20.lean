/- Walks: may it be a dependency, by pom and by the document; the conditions stand in the theorems. -/
import Derived.Test.YtbbbfjcikhpmbaaGreatJH19
import Derived.Test.YtbbbfjcikhpmbaaGreatJH18
import Derived.Deep.CutRange
import Derived.Test.YtbbbfjcikhpmbaaGreatJH14
import Derived.Laws.EntriesVeiled
import Derived.Test.YtbbbfjcikhpmbaaGreatJH12
import Derived.Deep.RegionHeld3
namespace Go.Proofs.YtbbbfjcikhpmbaaGreat
open Go Go.RowKit

def patB (x : Id) : Bool := isPartS x.group && isPartS x.artifact
/-- May it be a dependency, of a scope up to most? -/
def mayD (most : Int) (d : Dep) : Bool := okW d.version true && (okW d.type true && (okW d.classifier true && (d.excl.all patB && (okW d.group false && (okW d.artifact false && (decide (0 ≤ d.scope) && (decide (d.scope ≤ most) && (decide (0 ≤ d.opt) && (decide (d.opt ≤ 2) && decide (d.excl.length ≤ 1024))))))))))
theorem all_take2 {α : Type} {p : α → Bool} {l : List α} {k : Nat} (h : k < l.length) : (l.take (k + 1)).all p = ((l.take k).all p && p l[k]) := by
 rw [List.take_succ_eq_append_getElem h, List.all_append]; simp
theorem all_no2 {α : Type} {p : α → Bool} {l : List α} {k : Nat} (h : k < l.length) (hp : p l[k] = false) : l.all p = false := by
 rw [Bool.eq_false_iff]
 intro e
 rw [List.all_eq_true] at e
 rw [e _ (List.getElem_mem h)] at hp
 cases hp
set_option maxRecDepth 100000 in
set_option maxHeartbeats 8000000 in
theorem mayDepD_any (d : Dep) (ex : Value) (most : Int) (w : World) (hx : SliceOf 2 idC w ex d.excl) (hs : ∀ s ∈ [d.group, d.artifact, d.version, d.type, d.classifier], s.size ≤ 1000000) (hxs : ∀ y ∈ d.excl, y.group.size ≤ 1000000 ∧ y.artifact.size ≤ 1000000) :
    Calls Tryz.prog 63 #[.agg (depC (d, ex)).toArray, .int .i64 most] w fun e w' => e = .returned (.bool (mayD most d)) ∧ Below w.heap.size w w' := by
 obtain ⟨r, hr⟩ : ∃ r, r = mayD most d := ⟨_, rfl⟩
 have HR0 : Hid (r = mayD most d) := hr
 rw [← hr]
 clear hr
 obtain ⟨dg, da, dv, dt, dc, ds, dp, dx⟩ := d
 simp only [depC]
 simp only at hx hs hxs
 have hlx : dx.length ≤ 9223372036854775807 := by obtain ⟨a, c, e, h2, h3, -⟩ := hx; exact Nat.le_trans h2 (Nat.le_trans h3 (by decide))
 obtain ⟨xo, xc, rfl⟩ := hx.shape
 have HX := Lib.hid hx
 have HXS := Lib.hid hxs
 obtain ⟨bv, hbv⟩ : ∃ b, b = okW dv true := ⟨_, rfl⟩
 obtain ⟨bt, hbt⟩ : ∃ b, b = okW dt true := ⟨_, rfl⟩
 obtain ⟨bc, hbc⟩ : ∃ b, b = okW dc true := ⟨_, rfl⟩
 obtain ⟨bg, hbg⟩ : ∃ b, b = okW dg false := ⟨_, rfl⟩
 obtain ⟨ba, hba⟩ : ∃ b, b = okW da false := ⟨_, rfl⟩
 obtain ⟨bx, hbx⟩ : ∃ b, b = dx.all patB := ⟨_, rfl⟩
 have HBX := Lib.hid hbx
 have Hbv : Hid (∀ W, Calls Tryz.prog 61 #[.string dv, .bool true] W fun e w' => e = .returned (.bool bv) ∧ Below W.heap.size W w') := fun W => by rw [hbv]; exact plainD_any dv true W (hs _ (by simp))
 have Hbt : Hid (∀ W, Calls Tryz.prog 61 #[.string dt, .bool true] W fun e w' => e = .returned (.bool bt) ∧ Below W.heap.size W w') := fun W => by rw [hbt]; exact plainD_any dt true W (hs _ (by simp))
 have Hbc : Hid (∀ W, Calls Tryz.prog 61 #[.string dc, .bool true] W fun e w' => e = .returned (.bool bc) ∧ Below W.heap.size W w') := fun W => by rw [hbc]; exact plainD_any dc true W (hs _ (by simp))
 have Hbg : Hid (∀ W, Calls Tryz.prog 61 #[.string dg, .bool false] W fun e w' => e = .returned (.bool bg) ∧ Below W.heap.size W w') := fun W => by rw [hbg]; exact plainD_any dg false W (hs _ (by simp))
 have Hba : Hid (∀ W, Calls Tryz.prog 61 #[.string da, .bool false] W fun e w' => e = .returned (.bool ba) ∧ Below W.heap.size W w') := fun W => by rw [hba]; exact plainD_any da false W (hs _ (by simp))
 have HR : Hid (r = (bv && (bt && (bc && (bx && (bg && (ba && (decide (0 ≤ ds) && (decide (ds ≤ most) && (decide (0 ≤ dp) && (decide (dp ≤ 2) && decide (dx.length ≤ 1024)))))))))))) := by show _ = _; rw [HR0.out, hbv, hbt, hbc, hbg, hba, hbx]; rfl
 clear hbv hbt hbc hbg hba hbx HR0 hx hs hxs
 go_enter Tryz.func63, Tryz.ntmps63
 go_upto_region 1 with fail
 refine wp_world ?_
 intro W hW
 have x2 : Box W w.heap.size [.string dg, .string da, .string dv, .string dt, .string dc, .int .i64 ds, .int .i64 dp, .slice xo dx.length xc] := by rw [hW]; exact Box.new w [.string dg, .string da, .string dv, .string dt, .string dc, .int .i64 ds, .int .i64 dp, .slice xo dx.length xc] _ _ rfl
 have hb2 : Below w.heap.size w W := by rw [hW]; exact (Below.refl _ _).alloc (Nat.le_refl _) _
 clear hW
 have HD0 := Lib.hid x2
 have HB0 := Lib.hid hb2
 clear x2 hb2
 have d7 := HD0.out.cell 7 _ rfl
 have dl := HD0.out.lt
 go_wp2
 clear d7 dl
 go_loopw [10] (fun i wr => ∃ k : Nat, k ≤ dx.length ∧ i = .int .i64 k ∧ Hid ((dx.take k).all patB = true ∧ Below w.heap.size w wr ∧ Box wr w.heap.size [.string dg, .string da, .string dv, .string dt, .string dc, .int .i64 ds, .int .i64 dp, .slice xo dx.length xc])) (fun i _ => dx.length - (intOf i).toNat)
 case atStart => exact ⟨0, Nat.zero_le _, rfl, rfl, HB0.out, HD0.out⟩
 case round =>
  obtain ⟨k, hk, rfl, HRR⟩ := hrel
  clear HD0 HB0
  by_cases hlt : k < dx.length
  · have HTK := Lib.hid (all_take2 (p := patB) hlt)
    have HNO := Lib.hid (fun h => all_no2 (p := patB) hlt h)
    have HYS := Lib.hid (HXS.out dx[k] (List.getElem_mem hlt))
    obtain ⟨g, o, rfl, hg, c0, c1⟩ := (HX.out.below HRR.out.2.1).atId hlt
    have hsr := HRR.out.2.1.size
    generalize dx[k] = y at *
    obtain ⟨y1, y2⟩ := y
    simp only at c0 c1
    have HI1 : Hid (∀ W, Calls Tryz.prog 92 #[.string y1] W fun e w' => e = .returned (.bool (isIdB y1)) ∧ Below W.heap.size W w') := fun W => (refIsId_any y1 W (by have := HYS.out.1; simp only at this; omega)).mono fun _ _ ⟨h1, h2⟩ => ⟨h1, by rw [← h2]; exact Below.refl _ _⟩
    have HI2 : Hid (∀ W, Calls Tryz.prog 92 #[.string y2] W fun e w' => e = .returned (.bool (isIdB y2)) ∧ Below W.heap.size W w') := fun W => (refIsId_any y2 W (by have := HYS.out.2; simp only at this; omega)).mono fun _ _ ⟨h1, h2⟩ => ⟨h1, by rw [← h2]; exact Below.refl _ _⟩
    have HPB : Hid (patB ⟨y1, y2⟩ = (((y1.toList == [42]) || isIdB y1) && ((y2.toList == [42]) || isIdB y2))) := rfl
    obtain ⟨i1, hi1⟩ : ∃ i, i = isIdB y1 := ⟨_, rfl⟩
    obtain ⟨i2, hi2⟩ : ∃ i, i = isIdB y2 := ⟨_, rfl⟩
    rw [← hi1] at HI1 HPB
    rw [← hi2] at HI2 HPB
    obtain ⟨s1, hs1⟩ : ∃ i, i = (y1.toList == [42]) := ⟨_, rfl⟩
    obtain ⟨s2, hs2⟩ : ∃ i, i = (y2.toList == [42]) := ⟨_, rfl⟩
    rw [← hs1, ← hs2] at HPB
    have k1 : (y1.toList == [42]) = s1 := hs1.symm
    have k2 : (y2.toList == [42]) = s2 := hs2.symm
    clear hi1 hi2 hs1 hs2 HYS
    go_upto_region 4 with fail
    refine wp_world ?_
    intro W4 hW4
    have x4 : Box W4 wr.heap.size [.string y1, .string y2] := by rw [hW4]; exact Box.new wr [.string y1, .string y2] _ _ rfl
    have hb4 : Below wr.heap.size wr W4 := by rw [hW4]; exact (Below.refl _ _).alloc (Nat.le_refl _) _
    clear hW4 c0 c1
    have HY := Lib.hid x4
    have HB := Lib.hid (HRR.out.2.1.trans (hb4.mono hsr))
    have HD := Lib.hid (HRR.out.2.2.below (hb4) HRR.out.2.2.lt)
    clear x4 hb4
    have a0 := HY.out.cell 0 _ rfl
    have a1 := HY.out.cell 1 _ rfl
    have al := HY.out.lt
    cases s1 with
    | true =>
     cases s2 with
     | true =>
      have HT2 : Hid ((dx.take (k + 1)).all patB = true) := by show _ = _; rw [HTK.out, HRR.out.1, HPB.out]; rfl
      clear HTK HNO HPB
      go_wp2
      go_roundw
      case rel => exact ⟨k + 1, hlt, by go_num, HT2.out, HB.out, HD.out⟩
      case measure => simp [intOf]; omega
     | false =>
      go_wp2_with fail
      refine (HI2.out _).mono ?_
      rintro e w8 ⟨rfl, hb7⟩
      have HY1 := Lib.hid (HY.out.below hb7 HY.out.lt)
      have HD1 := Lib.hid (HD.out.below hb7 HD.out.lt)
      have HB1 := Lib.hid (HB.out.trans (hb7.mono HB.out.size))
      clear a0 a1 al hb7 HD HB HY
      have HD := HD1
      have HB := HB1
      have HY := HY1
      clear HD1 HB1 HY1
      have a0 := HY.out.cell 0 _ rfl
      have a1 := HY.out.cell 1 _ rfl
      have al := HY.out.lt
      cases i2 with
      | false =>
       have HN : Hid (r = false) := by
        show _ = _
        rw [HR.out, HBX.out, HNO.out (by rw [HPB.out]; simp)]
        simp
       clear HTK HNO HPB
       go_wp2
       go_ret
       exact ⟨by rw [HN.out]; rfl, HB.out⟩
      | true =>
       have HT2 : Hid ((dx.take (k + 1)).all patB = true) := by show _ = _; rw [HTK.out, HRR.out.1, HPB.out]; rfl
       clear HTK HNO HPB
       go_wp2
       go_roundw
       case rel => exact ⟨k + 1, hlt, by go_num, HT2.out, HB.out, HD.out⟩
       case measure => simp [intOf]; omega
    | false =>
     go_wp2_with fail
     refine (HI1.out _).mono ?_
     rintro e w7 ⟨rfl, hb7⟩
     have HY1 := Lib.hid (HY.out.below hb7 HY.out.lt)
     have HD1 := Lib.hid (HD.out.below hb7 HD.out.lt)
     have HB1 := Lib.hid (HB.out.trans (hb7.mono HB.out.size))
     clear a0 a1 al hb7 HD HB HY
     have HD := HD1
     have HB := HB1
     have HY := HY1
     clear HD1 HB1 HY1
     have a0 := HY.out.cell 0 _ rfl
     have a1 := HY.out.cell 1 _ rfl
     have al := HY.out.lt
     cases i1 with
     | false =>
      have HN : Hid (r = false) := by
       show _ = _
       rw [HR.out, HBX.out, HNO.out (by rw [HPB.out]; simp)]
       simp
      clear HTK HNO HPB
      go_wp2
      go_ret
      exact ⟨by rw [HN.out]; rfl, HB.out⟩
     | true =>
      cases s2 with
      | true =>
       have HT2 : Hid ((dx.take (k + 1)).all patB = true) := by show _ = _; rw [HTK.out, HRR.out.1, HPB.out]; rfl
       clear HTK HNO HPB
       go_wp2
       go_roundw
       case rel => exact ⟨k + 1, hlt, by go_num, HT2.out, HB.out, HD.out⟩
       case measure => simp [intOf]; omega
      | false =>
       go_wp2_with fail
       refine (HI2.out _).mono ?_
       rintro e w8 ⟨rfl, hb7⟩
       have HY1 := Lib.hid (HY.out.below hb7 HY.out.lt)
       have HD1 := Lib.hid (HD.out.below hb7 HD.out.lt)
       have HB1 := Lib.hid (HB.out.trans (hb7.mono HB.out.size))
       clear a0 a1 al hb7 HD HB HY
       have HD := HD1
       have HB := HB1
       have HY := HY1
       clear HD1 HB1 HY1
       have a0 := HY.out.cell 0 _ rfl
       have a1 := HY.out.cell 1 _ rfl
       have al := HY.out.lt
       cases i2 with
       | false =>
        have HN : Hid (r = false) := by
         show _ = _
         rw [HR.out, HBX.out, HNO.out (by rw [HPB.out]; simp)]
         simp
        clear HTK HNO HPB
        go_wp2
        go_ret
        exact ⟨by rw [HN.out]; rfl, HB.out⟩
       | true =>
        have HT2 : Hid ((dx.take (k + 1)).all patB = true) := by show _ = _; rw [HTK.out, HRR.out.1, HPB.out]; rfl
        clear HTK HNO HPB
        go_wp2
        go_roundw
        case rel => exact ⟨k + 1, hlt, by go_num, HT2.out, HB.out, HD.out⟩
        case measure => simp [intOf]; omega
  · obtain rfl : k = dx.length := by omega
    have HB := Lib.hid HRR.out.2.1
    have HD := Lib.hid HRR.out.2.2
    have hbx1 : bx = true := by rw [HBX.out]; have h1 := HRR.out.1; rwa [List.take_length] at h1
    have HR1 := Lib.hid (HR.out.trans (by rw [hbx1]))
    clear HR HBX hbx1 hlt HX HXS HRR
    have HR := HR1
    clear HR1
    obtain ⟨d0, d1, d2, d3, d4, d5, d6, d7⟩ := bxc8 HD.out
    have dl := HD.out.lt
    go_wp2_with fail
    refine (Hbg.out _).mono ?_
    rintro e w7 ⟨rfl, hb7⟩
    have HD1 := Lib.hid (HD.out.below hb7 HD.out.lt)
    have HB1 := Lib.hid (HB.out.trans (hb7.mono HB.out.size))
    clear d0 d1 d2 d3 d4 d5 d6 d7 dl hb7 HD HB Hbg
    have HD := HD1
    have HB := HB1
    clear HD1 HB1
    cases bg with
    | false =>
     obtain ⟨d0, d1, d2, d3, d4, d5, d6, d7⟩ := bxc8 HD.out
     have dl := HD.out.lt
     go_wp2
     go_ret
     exact ⟨by rw [HR.out]; simp, HB.out⟩
    | true =>
     obtain ⟨d0, d1, d2, d3, d4, d5, d6, d7⟩ := bxc8 HD.out
     have dl := HD.out.lt
     go_wp2_with fail
     refine (Hba.out _).mono ?_
     rintro e w7 ⟨rfl, hb7⟩
     have HD1 := Lib.hid (HD.out.below hb7 HD.out.lt)
     have HB1 := Lib.hid (HB.out.trans (hb7.mono HB.out.size))
     clear d0 d1 d2 d3 d4 d5 d6 d7 dl hb7 HD HB Hba
     have HD := HD1
     have HB := HB1
     clear HD1 HB1
     cases ba with
     | false =>
      obtain ⟨d0, d1, d2, d3, d4, d5, d6, d7⟩ := bxc8 HD.out
      have dl := HD.out.lt
      go_wp2
      go_ret
      exact ⟨by rw [HR.out]; simp, HB.out⟩
     | true =>
      obtain ⟨d0, d1, d2, d3, d4, d5, d6, d7⟩ := bxc8 HD.out
      have dl := HD.out.lt
      go_wp2_with fail
      refine (Hbv.out _).mono ?_
      rintro e w7 ⟨rfl, hb7⟩
      have HD1 := Lib.hid (HD.out.below hb7 HD.out.lt)
      have HB1 := Lib.hid (HB.out.trans (hb7.mono HB.out.size))
      clear d0 d1 d2 d3 d4 d5 d6 d7 dl hb7 HD HB Hbv
      have HD := HD1
      have HB := HB1
      clear HD1 HB1
      cases bv with
      | false =>
       obtain ⟨d0, d1, d2, d3, d4, d5, d6, d7⟩ := bxc8 HD.out
       have dl := HD.out.lt
       go_wp2
       go_ret
       exact ⟨by rw [HR.out]; simp, HB.out⟩
      | true =>
       obtain ⟨d0, d1, d2, d3, d4, d5, d6, d7⟩ := bxc8 HD.out
       have dl := HD.out.lt
       go_wp2_with fail
       refine (Hbt.out _).mono ?_
       rintro e w7 ⟨rfl, hb7⟩
       have HD1 := Lib.hid (HD.out.below hb7 HD.out.lt)
       have HB1 := Lib.hid (HB.out.trans (hb7.mono HB.out.size))
       clear d0 d1 d2 d3 d4 d5 d6 d7 dl hb7 HD HB Hbt
       have HD := HD1
       have HB := HB1
       clear HD1 HB1
       cases bt with
       | false =>
        obtain ⟨d0, d1, d2, d3, d4, d5, d6, d7⟩ := bxc8 HD.out
        have dl := HD.out.lt
        go_wp2
        go_ret
        exact ⟨by rw [HR.out]; simp, HB.out⟩
       | true =>
        obtain ⟨d0, d1, d2, d3, d4, d5, d6, d7⟩ := bxc8 HD.out
        have dl := HD.out.lt
        go_wp2_with fail
        refine (Hbc.out _).mono ?_
        rintro e w7 ⟨rfl, hb7⟩
        have HD1 := Lib.hid (HD.out.below hb7 HD.out.lt)
        have HB1 := Lib.hid (HB.out.trans (hb7.mono HB.out.size))
        clear d0 d1 d2 d3 d4 d5 d6 d7 dl hb7 HD HB Hbc
        have HD := HD1
        have HB := HB1
        clear HD1 HB1
        cases bc with
        | false =>
         obtain ⟨d0, d1, d2, d3, d4, d5, d6, d7⟩ := bxc8 HD.out
         have dl := HD.out.lt
         go_wp2
         go_ret
         exact ⟨by rw [HR.out]; simp, HB.out⟩
        | true =>
         by_cases hq : 0 ≤ ds
         rotate_left
         · have hq1 : ¬ 0 ≤ ds := hq
           have HN : Hid (r = false) := by show _ = _; rw [HR.out, decide_eq_false hq]; simp
           clear hq
           obtain ⟨d0, d1, d2, d3, d4, d5, d6, d7⟩ := bxc8 HD.out
           have dl := HD.out.lt
           go_wp2
           go_ret
           refine ⟨?_, HB.out⟩
           rw [HN.out]
           first | rfl | exact ret_bool (decide_eq_false (by omega))
         have hq5 : 0 ≤ ds := hq
         have HR1 := Lib.hid (HR.out.trans (by rw [decide_eq_true hq]))
         clear HR hq
         have HR := HR1
         clear HR1
         by_cases hq : ds ≤ most
         rotate_left
         · have hq1 : ¬ ds ≤ most := hq
           have HN : Hid (r = false) := by show _ = _; rw [HR.out, decide_eq_false hq]; simp
           clear hq
           obtain ⟨d0, d1, d2, d3, d4, d5, d6, d7⟩ := bxc8 HD.out
           have dl := HD.out.lt
           go_wp2
           go_ret
           refine ⟨?_, HB.out⟩
           rw [HN.out]
           first | rfl | exact ret_bool (decide_eq_false (by omega))
         have hq6 : ds ≤ most := hq
         have HR1 := Lib.hid (HR.out.trans (by rw [decide_eq_true hq]))
         clear HR hq
         have HR := HR1
         clear HR1
         by_cases hq : 0 ≤ dp
         rotate_left
         · have hq1 : ¬ 0 ≤ dp := hq
           have HN : Hid (r = false) := by show _ = _; rw [HR.out, decide_eq_false hq]; simp
           clear hq
           obtain ⟨d0, d1, d2, d3, d4, d5, d6, d7⟩ := bxc8 HD.out
           have dl := HD.out.lt
           go_wp2
           go_ret
           refine ⟨?_, HB.out⟩
           rw [HN.out]
           first | rfl | exact ret_bool (decide_eq_false (by omega))
         have hq2 : 0 ≤ dp := hq
         have HR1 := Lib.hid (HR.out.trans (by rw [decide_eq_true hq]))
         clear HR hq
         have HR := HR1
         clear HR1
         by_cases hq : dp ≤ 2
         rotate_left
         · have hq1 : ¬ dp ≤ 2 := hq
           have HN : Hid (r = false) := by show _ = _; rw [HR.out, decide_eq_false hq]; simp
           clear hq
           obtain ⟨d0, d1, d2, d3, d4, d5, d6, d7⟩ := bxc8 HD.out
           have dl := HD.out.lt
           go_wp2
           go_ret
           refine ⟨?_, HB.out⟩
           rw [HN.out]
           first | rfl | exact ret_bool (decide_eq_false (by omega))
         have hq3 : dp ≤ 2 := hq
         have HR1 := Lib.hid (HR.out.trans (by rw [decide_eq_true hq]))
         clear HR hq
         have HR := HR1
         clear HR1
         by_cases hq : dx.length ≤ 1024
         rotate_left
         · have hq1 : ¬ (dx.length : Int) ≤ 1024 := by omega
           have HN : Hid (r = false) := by show _ = _; rw [HR.out, decide_eq_false hq]; simp
           clear hq
           obtain ⟨d0, d1, d2, d3, d4, d5, d6, d7⟩ := bxc8 HD.out
           have dl := HD.out.lt
           go_wp2
           go_ret
           refine ⟨?_, HB.out⟩
           rw [HN.out]
           first | rfl | exact ret_bool (decide_eq_false (by omega))
         have hq4 : (dx.length : Int) ≤ 1024 := by omega
         have HR1 := Lib.hid (HR.out.trans (by rw [decide_eq_true hq]))
         clear HR hq
         have HR := HR1
         clear HR1
         obtain ⟨d0, d1, d2, d3, d4, d5, d6, d7⟩ := bxc8 HD.out
         have dl := HD.out.lt
         go_wp2
         go_ret
         refine ⟨?_, HB.out⟩
         rw [HR.out]
         first | rfl | exact ret_bool (decide_eq_true hq4)

end Go.Proofs.YtbbbfjcikhpmbaaGreat

/- Walks: the properties and the lists of dependencies that may be, by pom; the conditions stand in the theorems. -/
namespace Go.Proofs.YtbbbfjcikhpmbaaGreat
open Go Go.RowKit

/-- Texts that are not too long. -/
structure DepSm (d : Dep) : Prop where
 own : ∀ s ∈ [d.group, d.artifact, d.version, d.type, d.classifier], s.size ≤ 1000000
 ex : ∀ y ∈ d.excl, y.group.size ≤ 1000000 ∧ y.artifact.size ≤ 1000000
/-- May these be properties, behind some? -/
def propsGo : List Prp → List Prp → Bool
 | [], _ => true
 | p :: r, d => (!hasN d p.name && (okName p.name.data.toList && okW p.value true)) && propsGo r (d ++ [p])
theorem propsGo_at {l : List Prp} {k : Nat} (h : k < l.length) : propsGo (l.drop k) (l.take k) = ((!hasN (l.take k) l[k].name && (okName l[k].name.data.toList && okW l[k].value true)) && propsGo (l.drop (k + 1)) (l.take (k + 1))) := by
 rw [List.drop_eq_getElem_cons h, propsGo, List.take_succ_eq_append_getElem h]

end Go.Proofs.YtbbbfjcikhpmbaaGreat

/- The walk of pom.May; the conditions stand in the theorem. -/

namespace Go.Proofs.YtbbbfjcikhpmbaaGreat
open Go Go.RowKit

attribute [local go_sem ↓] eqg_prp neq_prp eqg_id neq_id eqg_gav eql_gav
/-- Texts of a project that are not too long. -/
structure PomSm (p : Pom) : Prop where
 own : ∀ s ∈ [p.group, p.artifact, p.version, p.packaging], s.size ≤ 1000000
 prp : ∀ y ∈ p.props, y.name.size ≤ 1000000 ∧ y.value.size ≤ 1000000
 man : ∀ d ∈ p.managed, DepSm d
 dep : ∀ d ∈ p.deps, DepSm d
 gav : gavSm p.parent
def parentB (hp : Bool) (g : Gav) : Bool := if hp then gavMay g else decide (g = ⟨⟨#[]⟩, ⟨#[]⟩, ⟨#[]⟩⟩)
/-- May it be a project? -/
def mayP (p : Pom) : Bool := parentB p.hasParent p.parent && ((okW p.group true && (okW p.artifact false && (okW p.version true && okW p.packaging true))) && (decide (p.props.length ≤ 1024) && (propsGo p.props [] && ((p.managed.all (mayD 6) && decide (p.managed.length ≤ 1024)) && (p.deps.all (mayD 5) && decide (p.deps.length ≤ 1024))))))

end Go.Proofs.YtbbbfjcikhpmbaaGreat

/- The walk of the document's May of projects; the conditions stand in the theorem. -/

namespace Go.Proofs.YtbbbfjcikhpmbaaGreat
open Go Go.RowKit

attribute [local go_sem ↓] eqg_prp neq_prp eqg_id neq_id eqg_gav eql_gav neq_gavQ
set_option maxRecDepth 100000 in
set_option maxHeartbeats 16000000 in
theorem mayPD_any (p : Pom) (pv mv dv : Value) (w : World) (hp : PomOf w (.agg (pomC p pv mv dv).toArray) p pv mv dv) (hs : PomSm p) :
    Calls Tryz.prog 20 #[.agg (pomC p pv mv dv).toArray] w fun e w' => e = .returned (.bool (mayP p)) ∧ Below w.heap.size w w' := by
 obtain ⟨r, hr⟩ : ∃ r, r = mayP p := ⟨_, rfl⟩
 have HR0 : Hid (r = mayP p) := hr
 rw [← hr]
 clear hr
 obtain ⟨-, p1, p2, p3⟩ := hp
 obtain ⟨hpo, hpp, hpm, hpd, hpg⟩ := hs
 obtain ⟨hp, ⟨px, py, pz⟩, dg, da, dv, dk, dp, dm, dd⟩ := p
 simp only [pomC]
 simp only at p1 p2 p3 hpo hpp hpm hpd hpg
 have hl1 : dp.length ≤ 9223372036854775807 := by obtain ⟨a, c, e, h2, h3, -⟩ := p1; exact Nat.le_trans h2 (Nat.le_trans h3 (by decide))
 obtain ⟨ao1, cap1, rfl⟩ := p1.shape
 obtain ⟨ml, hme, hm, hmo⟩ := p2
 obtain ⟨ao2, cap2, rfl⟩ := hm.shape
 obtain ⟨dl, hde, hd, hdo⟩ := p3
 obtain ⟨ao3, cap3, rfl⟩ := hd.shape
 obtain ⟨bg, hbg⟩ : ∃ b, b = okW dg true := ⟨_, rfl⟩
 obtain ⟨ba, hba⟩ : ∃ b, b = okW da false := ⟨_, rfl⟩
 obtain ⟨bv, hbv⟩ : ∃ b, b = okW dv true := ⟨_, rfl⟩
 obtain ⟨bk, hbk⟩ : ∃ b, b = okW dk true := ⟨_, rfl⟩
 obtain ⟨pb, hpb⟩ : ∃ b, b = parentB hp ⟨px, py, pz⟩ := ⟨_, rfl⟩
 have Hbg : Hid (∀ W, Calls Tryz.prog 61 #[.string dg, .bool true] W fun e w' => e = .returned (.bool bg) ∧ Below W.heap.size W w') := fun W => by rw [hbg]; exact plainD_any dg true W (hpo _ (by simp))
 have Hba : Hid (∀ W, Calls Tryz.prog 61 #[.string da, .bool false] W fun e w' => e = .returned (.bool ba) ∧ Below W.heap.size W w') := fun W => by rw [hba]; exact plainD_any da false W (hpo _ (by simp))
 have Hbv : Hid (∀ W, Calls Tryz.prog 61 #[.string dv, .bool true] W fun e w' => e = .returned (.bool bv) ∧ Below W.heap.size W w') := fun W => by rw [hbv]; exact plainD_any dv true W (hpo _ (by simp))
 have Hbk : Hid (∀ W, Calls Tryz.prog 61 #[.string dk, .bool true] W fun e w' => e = .returned (.bool bk) ∧ Below W.heap.size W w') := fun W => by rw [hbk]; exact plainD_any dk true W (hpo _ (by simp))

 obtain ⟨bq, hbq⟩ : ∃ b, b = propsGo dp [] := ⟨_, rfl⟩
 obtain ⟨bm, hbm⟩ : ∃ b, b = ml.all (fun q => mayD 6 q.1) := ⟨_, rfl⟩
 obtain ⟨bd, hbd⟩ : ∃ b, b = dl.all (fun q => mayD 5 q.1) := ⟨_, rfl⟩
 have HGV : Hid (hp = true → ∀ W, Calls Tryz.prog 60 #[.agg #[.string px, .string py, .string pz]] W fun e w' => e = .returned (.bool pb) ∧ Below W.heap.size W w') := fun h W => by
  rw [hpb, h]; exact refMayGav_any ⟨px, py, pz⟩ W (by have := hpg; exact this)
 have HZV : Hid (hp = false → pb = (decide (px = ⟨#[]⟩) && decide (py = ⟨#[]⟩) && decide (pz = ⟨#[]⟩))) := fun h => by rw [hpb, h]; unfold parentB; simp [Bool.and_assoc]
 have HR : Hid (r = (pb && ((bg && (ba && (bv && bk))) && (decide (dp.length ≤ 1024) && (bq && ((bm && decide (ml.length ≤ 1024)) && (bd && decide (dl.length ≤ 1024)))))))) := by
  show _ = _
  rw [HR0.out, hpb, hbg, hba, hbv, hbk, hbq, hbm, hbd]
  unfold mayP
  simp only
  rw [← hme, ← hde, List.all_map, List.all_map, List.length_map, List.length_map]
  rfl
 have HBB : Hid (∀ o, Below w.heap.size w (w.alloc o)) := fun o => (Below.refl _ _).alloc (Nat.le_refl _) _
 have HMS : Hid (∀ q ∈ ml, DepSm q.1) := fun q hq => hpm _ (by rw [← hme]; exact List.mem_map.2 ⟨q, hq, rfl⟩)
 have HDS : Hid (∀ q ∈ dl, DepSm q.1) := fun q hq => hpd _ (by rw [← hde]; exact List.mem_map.2 ⟨q, hq, rfl⟩)
 have HX1 := Lib.hid p1
 have HM := Lib.hid hm
 have HMO := Lib.hid hmo
 have HD := Lib.hid hd
 have HDO := Lib.hid hdo
 have HPS := Lib.hid hpp
 have HBQ := Lib.hid hbq
 have HBM := Lib.hid hbm
 have HBD := Lib.hid hbd
 have hlm : ml.length = dm.length := by rw [← hme, List.length_map]
 have hld : dl.length = dd.length := by rw [← hde, List.length_map]
 rw [hlm, hld] at HR ⊢
 rw [hlm] at HM
 rw [hld] at HD
 have HLM := Lib.hid hlm
 have HLD := Lib.hid hld
 clear hbg hba hbv hbk hpb hbq hbm hbd HR0 p1 hm hmo hd hdo hme hde hpo hpp hpm hpd hpg hlm hld
 have hcap1 : dp.length ≤ cap1 ∧ cap1 ≤ 9223372036854775807 := by obtain ⟨a, c, e, h2, h3, -⟩ := HX1.out; simp only [Value.slice.injEq] at e; obtain ⟨-, -, rfl⟩ := e; exact ⟨h2, h3⟩
 go_enter Tryz.func20, Tryz.ntmps20
 go_upto_region 1 with fail
 refine wp_world ?_
 intro W hW
 have x1 : Box W w.heap.size [.bool hp, .string px, .string py, .string pz, .string dg, .string da, .string dv, .string dk, .slice ao1 dp.length cap1, .slice ao2 dm.length cap2, .slice ao3 dd.length cap3] := by rw [hW]; exact Box.new w [.bool hp, .string px, .string py, .string pz, .string dg, .string da, .string dv, .string dk, .slice ao1 dp.length cap1, .slice ao2 dm.length cap2, .slice ao3 dd.length cap3] _ _ rfl
 have hb : Below w.heap.size w W := by rw [hW]; exact HBB.out _
 clear hW HBB
 have HX := Lib.hid x1
 have HB := Lib.hid hb
 clear x1 hb
 obtain ⟨c0, c1, c2, c3, c4, c5, c6, c7, c8, c9, c10⟩ := bxc11 HX.out
 have cl := HX.out.lt
 have HNP : Hid (pb = false → r = false) := fun h => by rw [HR.out, h]; rfl
 go_cut [29] from 11 to 29 (fun v wx => v = .bool (!pb) ∧ Hid (Below w.heap.size w wx ∧ Box wx w.heap.size [.bool hp, .string px, .string py, .string pz, .string dg, .string da, .string dv, .string dk, .slice ao1 dp.length cap1, .slice ao2 dm.length cap2, .slice ao3 dd.length cap3]))
 case first =>
  cases hp with
  | false =>
   have hz := HZV.out rfl
   by_cases e1 : px = ⟨#[]⟩
   · subst e1
     by_cases e2 : py = ⟨#[]⟩
     · subst e2
       by_cases e3 : pz = ⟨#[]⟩
       · subst e3
         have HZ : Hid (pb = true) := by show _ = _; rw [hz]; simp
         clear hz
         go_wp2
         go_meet
         case rel => exact ⟨by rw [HZ.out]; simp, HB.out, HX.out⟩
       · have hd : decide (pz = ⟨#[]⟩) = false := decide_eq_false e3
         have HZ : Hid (pb = false) := by show _ = _; rw [hz, hd]; simp
         clear hz e3
         go_wp2
         go_meet
         case rel => exact ⟨by rw [HZ.out]; simp, HB.out, HX.out⟩
     · have hd : decide (py = ⟨#[]⟩) = false := decide_eq_false e2
       have HZ : Hid (pb = false) := by show _ = _; rw [hz, hd]; simp
       clear hz e2
       go_wp2
       go_meet
       case rel => exact ⟨by rw [HZ.out]; simp, HB.out, HX.out⟩
   · have hd : decide (px = ⟨#[]⟩) = false := decide_eq_false e1
     have HZ : Hid (pb = false) := by show _ = _; rw [hz, hd]; simp
     clear hz e1
     go_wp2
     go_meet
     case rel => exact ⟨by rw [HZ.out]; simp, HB.out, HX.out⟩
  | true =>
   have HG := Lib.hid (HGV.out rfl)
   go_wp2_with fail
   refine (HG.out _).mono ?_
   rintro e w7 ⟨rfl, hb7⟩
   have HX' := Lib.hid (HX.out.below hb7 HX.out.lt)
   have HB' := Lib.hid (HB.out.trans (hb7.mono HB.out.size))
   clear c0 c1 c2 c3 c4 c5 c6 c7 c8 c9 c10 cl
   clear hb7 HX HB
   have HX := HX'
   have HB := HB'
   clear HX' HB'
   obtain ⟨c0, c1, c2, c3, c4, c5, c6, c7, c8, c9, c10⟩ := bxc11 HX.out
   have cl := HX.out.lt
   cases pb
   all_goals
    go_wp2
    go_meet
    case rel => exact ⟨rfl, HB.out, HX.out⟩
 case rest =>
  obtain ⟨rfl, hcc⟩ := hcut
  clear c0 c1 c2 c3 c4 c5 c6 c7 c8 c9 c10 cl
  clear HX HB HGV HZV
  have HB := Lib.hid hcc.out.1
  have HX := Lib.hid hcc.out.2
  clear hcc
  cases pb with
  | false =>
   have HN := Lib.hid (HNP.out rfl)
   go_wp2
   go_ret
   exact ⟨by rw [HN.out]; rfl, HB.out⟩
  | true =>
   clear HNP
   obtain ⟨c0, c1, c2, c3, c4, c5, c6, c7, c8, c9, c10⟩ := bxc11 HX.out
   have cl := HX.out.lt
   go_wp2_with fail
   refine (Hbg.out _).mono ?_
   rintro e w7 ⟨rfl, hb7⟩
   have HX' := Lib.hid (HX.out.below hb7 HX.out.lt)
   have HB' := Lib.hid (HB.out.trans (hb7.mono HB.out.size))
   clear c0 c1 c2 c3 c4 c5 c6 c7 c8 c9 c10 cl
   clear hb7 HX HB
   have HX := HX'
   have HB := HB'
   clear HX' HB'
   clear Hbg
   cases bg with
   | false =>
    obtain ⟨c0, c1, c2, c3, c4, c5, c6, c7, c8, c9, c10⟩ := bxc11 HX.out
    have cl := HX.out.lt
    go_wp2
    go_ret
    exact ⟨by rw [HR.out]; simp, HB.out⟩
   | true =>
    obtain ⟨c0, c1, c2, c3, c4, c5, c6, c7, c8, c9, c10⟩ := bxc11 HX.out
    have cl := HX.out.lt
    go_wp2_with fail
    refine (Hba.out _).mono ?_
    rintro e w7 ⟨rfl, hb7⟩
    have HX' := Lib.hid (HX.out.below hb7 HX.out.lt)
    have HB' := Lib.hid (HB.out.trans (hb7.mono HB.out.size))
    clear c0 c1 c2 c3 c4 c5 c6 c7 c8 c9 c10 cl
    clear hb7 HX HB
    have HX := HX'
    have HB := HB'
    clear HX' HB'
    clear Hba
    cases ba with
    | false =>
     obtain ⟨c0, c1, c2, c3, c4, c5, c6, c7, c8, c9, c10⟩ := bxc11 HX.out
     have cl := HX.out.lt
     go_wp2
     go_ret
     exact ⟨by rw [HR.out]; simp, HB.out⟩
    | true =>
     obtain ⟨c0, c1, c2, c3, c4, c5, c6, c7, c8, c9, c10⟩ := bxc11 HX.out
     have cl := HX.out.lt
     go_wp2_with fail
     refine (Hbv.out _).mono ?_
     rintro e w7 ⟨rfl, hb7⟩
     have HX' := Lib.hid (HX.out.below hb7 HX.out.lt)
     have HB' := Lib.hid (HB.out.trans (hb7.mono HB.out.size))
     clear c0 c1 c2 c3 c4 c5 c6 c7 c8 c9 c10 cl
     clear hb7 HX HB
     have HX := HX'
     have HB := HB'
     clear HX' HB'
     clear Hbv
     cases bv with
     | false =>
      obtain ⟨c0, c1, c2, c3, c4, c5, c6, c7, c8, c9, c10⟩ := bxc11 HX.out
      have cl := HX.out.lt
      go_wp2
      go_ret
      exact ⟨by rw [HR.out]; simp, HB.out⟩
     | true =>
      obtain ⟨c0, c1, c2, c3, c4, c5, c6, c7, c8, c9, c10⟩ := bxc11 HX.out
      have cl := HX.out.lt
      go_wp2_with fail
      refine (Hbk.out _).mono ?_
      rintro e w7 ⟨rfl, hb7⟩
      have HX' := Lib.hid (HX.out.below hb7 HX.out.lt)
      have HB' := Lib.hid (HB.out.trans (hb7.mono HB.out.size))
      clear c0 c1 c2 c3 c4 c5 c6 c7 c8 c9 c10 cl
      clear hb7 HX HB
      have HX := HX'
      have HB := HB'
      clear HX' HB'
      clear Hbk
      cases bk with
      | false =>
       obtain ⟨c0, c1, c2, c3, c4, c5, c6, c7, c8, c9, c10⟩ := bxc11 HX.out
       have cl := HX.out.lt
       go_wp2
       go_ret
       exact ⟨by rw [HR.out]; simp, HB.out⟩
      | true =>
       by_cases q1 : dp.length ≤ 1024
       rotate_left
       · have hI : (1024 : Int) < (dp.length : Int) := by omega
         have HN : Hid (r = false) := by show _ = _; rw [HR.out, decide_eq_false q1]; simp
         clear q1
         obtain ⟨c0, c1, c2, c3, c4, c5, c6, c7, c8, c9, c10⟩ := bxc11 HX.out
         have cl := HX.out.lt
         go_wp2
         go_ret
         exact ⟨by rw [HN.out]; rfl, HB.out⟩
       have hIq1 : ¬ (1024 : Int) < (dp.length : Int) := by omega
       by_cases q2 : dm.length ≤ 1024
       rotate_left
       · have hI : (1024 : Int) < (dm.length : Int) := by omega
         have HN : Hid (r = false) := by show _ = _; rw [HR.out, decide_eq_false q2]; simp
         clear q2
         obtain ⟨c0, c1, c2, c3, c4, c5, c6, c7, c8, c9, c10⟩ := bxc11 HX.out
         have cl := HX.out.lt
         go_wp2
         go_ret
         exact ⟨by rw [HN.out]; rfl, HB.out⟩
       have hIq2 : ¬ (1024 : Int) < (dm.length : Int) := by omega
       by_cases q3 : dd.length ≤ 1024
       rotate_left
       · have hI : (1024 : Int) < (dd.length : Int) := by omega
         have HN : Hid (r = false) := by show _ = _; rw [HR.out, decide_eq_false q3]; simp
         clear q3
         obtain ⟨c0, c1, c2, c3, c4, c5, c6, c7, c8, c9, c10⟩ := bxc11 HX.out
         have cl := HX.out.lt
         go_wp2
         go_ret
         exact ⟨by rw [HN.out]; rfl, HB.out⟩
       have hIq3 : ¬ (1024 : Int) < (dd.length : Int) := by omega
       have HR1 : Hid (r = (bq && (bm && bd))) := by show _ = _; rw [HR.out, decide_eq_true q1, decide_eq_true q2, decide_eq_true q3]; simp
       clear HR
       have HR := HR1
       clear HR1
       obtain ⟨c0, c1, c2, c3, c4, c5, c6, c7, c8, c9, c10⟩ := bxc11 HX.out
       have cl := HX.out.lt
       go_wp2
       clear c0 c1 c2 c3 c4 c5 c6 c7 c8 c9 c10 cl
       go_loopw [73] (fun i wr => ∃ k : Nat, k ≤ dp.length ∧ i = .int .i64 k ∧ Hid (propsGo dp [] = propsGo (dp.drop k) (dp.take k) ∧ Below w.heap.size w wr ∧ Box wr w.heap.size [.bool hp, .string px, .string py, .string pz, .string dg, .string da, .string dv, .string dk, .slice ao1 dp.length cap1, .slice ao2 dm.length cap2, .slice ao3 dd.length cap3])) (fun i _ => dp.length - (intOf i).toNat)
       case atStart => exact ⟨0, Nat.zero_le _, rfl, rfl, HB.out, HX.out⟩
       case round =>
        clear HX HB
        obtain ⟨k, hk, rfl, HRR⟩ := hrel
        by_cases hlt : k < dp.length
        · have HGO := Lib.hid (HRR.out.1.trans (propsGo_at hlt))
          have HSK := Lib.hid (HPS.out dp[k] (List.getElem_mem hlt))
          obtain ⟨g, o, rfl, hg, c0, c1⟩ := (HX1.out.below HRR.out.2.1).atPrp hlt
          have hsr := HRR.out.2.1.size
          have HLT : Hid (k < dp.length) := hlt
          generalize dp[k] = q at *
          obtain ⟨nm, vl⟩ := q
          simp only at c0 c1 HGO
          have hki : (k : Int) ≤ (cap1 : Int) := by omega
          have hkc : k ≤ cap1 := by omega
          have hk0 : (0 : Int) ≤ (k : Int) := by omega
          go_upto_region 8 with fail
          refine wp_world ?_
          intro W4 hW4
          have x4 : Box W4 wr.heap.size [.string nm, .string vl] := by rw [hW4]; exact Box.new wr [.string nm, .string vl] _ _ rfl
          have hb4 : Below wr.heap.size wr W4 := by rw [hW4]; exact (Below.refl _ _).alloc (Nat.le_refl _) _
          clear hW4 c0 c1
          have HY := Lib.hid x4
          have HB := Lib.hid (HRR.out.2.1.trans (hb4.mono hsr))
          have HX := Lib.hid (HRR.out.2.2.below hb4 HRR.out.2.2.lt)
          have HSY : Hid (w.heap.size < wr.heap.size) := HRR.out.2.2.lt
          clear x4 hb4
          have HNM := Lib.hid (fun W => refIsNm_any nm W (by have h2 : nm.size ≤ 1000000 := HSK.out.1; omega))
          have HTX := Lib.hid (fun W => plainD_any vl true W HSK.out.2)
          obtain ⟨ok, hok⟩ : ∃ b, b = okName nm.data.toList := ⟨_, rfl⟩
          obtain ⟨tx, htx⟩ : ∃ b, b = okW vl true := ⟨_, rfl⟩
          rw [← hok] at HNM HGO
          rw [← htx] at HTX HGO
          clear hok htx
          have a0 := HY.out.cell 0 _ rfl
          have a1 := HY.out.cell 1 _ rfl
          have al := HY.out.lt
          go_wp2_with fail
          refine (HNM.out _).mono ?_
          rintro e w5 ⟨rfl, hw5⟩
          obtain rfl := hw5
          have HBAD : Hid (propsGo dp [] = false → r = false) := fun h => by rw [HR.out, HBQ.out, h]; rfl
          cases ok with
          | false =>
           have HN : Hid (r = false) := HBAD.out (by rw [HGO.out]; simp)
           clear HGO
           go_wp2
           go_ret
           exact ⟨by rw [HN.out]; rfl, HB.out⟩
          | true =>
           go_wp2_with fail
           refine (HTX.out _).mono ?_
           rintro e w7 ⟨rfl, hb7⟩
           have HX' := Lib.hid (HX.out.below hb7 HX.out.lt)
           have HB' := Lib.hid (HB.out.trans (hb7.mono HB.out.size))
           have HY' := Lib.hid (HY.out.below hb7 HY.out.lt)
           clear a0 a1 al hb7 HX HB HY
           have HX := HX'
           have HB := HB'
           have HY := HY'
           clear HX' HB' HY'
           cases tx with
           | false =>
            have HN : Hid (r = false) := HBAD.out (by rw [HGO.out]; simp)
            clear HGO
            go_wp2
            go_ret
            exact ⟨by rw [HN.out]; rfl, HB.out⟩
           | true =>
            have c8 := HX.out.cell 8 _ rfl
            have cl := HX.out.lt
            go_wp2
            clear c8 cl
            obtain ⟨wo, rfl⟩ : ∃ wo : World, wo = wr := ⟨_, rfl⟩
            go_loopw [93] (fun i wr => ∃ j : Nat, j ≤ k ∧ i = .int .i64 j ∧ Hid (hasN (dp.take j) nm = false ∧ Below w.heap.size w wr ∧ Box wr w.heap.size [.bool hp, .string px, .string py, .string pz, .string dg, .string da, .string dv, .string dk, .slice (some ⟨g, o, none⟩) dp.length cap1, .slice ao2 dm.length cap2, .slice ao3 dd.length cap3] ∧ Box wr wo.heap.size [.string nm, .string vl])) (fun i _ => k - (intOf i).toNat)
            case atStart => exact ⟨0, Nat.zero_le _, rfl, rfl, HB.out, HX.out, HY.out⟩
            case round =>
             clear HX HB HY
             obtain ⟨j, hj, rfl, HJJ⟩ := hrel
             by_cases hjl : j < k
             · have hjd : j < dp.length := by omega
               have HHN := Lib.hid (hasN_take (n := nm) hjd)
               obtain ⟨g2, o2, hgo, hg2, d0, d1⟩ := (HX1.out.below HJJ.out.2.1).atPrp hjd
               simp only [Option.some.injEq, Addr.mk.injEq, and_true] at hgo
               obtain ⟨rfl, rfl⟩ := hgo
               have HMM : Hid ((dp[j].name.toList == nm.toList) = true → hasN (dp.take k) nm = true) := fun h => by
                have h1 : j < (dp.take k).length := by rw [List.length_take]; omega
                refine hasN_mem h1 ?_
                rw [List.getElem_take]; exact h
               have hsj := HJJ.out.2.1.size
               have hjI : (j : Int) < (k : Int) := by omega
               generalize dp[j] = z at *
               obtain ⟨n2, v2⟩ := z
               simp only at d0 d1 HMM HHN
               obtain ⟨eq, heq⟩ : ∃ b, b = (n2.toList == nm.toList) := ⟨_, rfl⟩
               rw [← heq] at HMM HHN
               have ke : (nm.toList == n2.toList) = eq := by rw [heq, str_beq, str_beq]; exact decide_eq_decide.2 eq_comm
               clear heq
               go_upto_region 13 with fail
               refine wp_world ?_
               intro W6 hW6
               have x6 : Box W6 wr.heap.size [.string n2, .string v2] := by rw [hW6]; exact Box.new wr [.string n2, .string v2] _ _ rfl
               have hb6 : Below wr.heap.size wr W6 := by rw [hW6]; exact (Below.refl _ _).alloc (Nat.le_refl _) _
               clear hW6 d0 d1
               have e0 := x6.cell 0 _ rfl
               have el := x6.lt
               have HB := Lib.hid (HJJ.out.2.1.trans (hb6.mono hsj))
               have HX := Lib.hid (HJJ.out.2.2.1.below hb6 HJJ.out.2.2.1.lt)
               have HY := Lib.hid (HJJ.out.2.2.2.below hb6 HJJ.out.2.2.2.lt)
               have a0 := HY.out.cell 0 _ rfl
               clear x6 hb6
               cases eq with
               | true =>
                have HN : Hid (r = false) := HBAD.out (by rw [HGO.out, HMM.out rfl]; rfl)
                clear HHN HMM HGO
                go_wp2
                go_ret
                exact ⟨by rw [HN.out]; rfl, HB.out⟩
               | false =>
                have HT : Hid (hasN (dp.take (j + 1)) nm = false) := by show _ = _; rw [HHN.out, HJJ.out.1]; rfl
                clear HHN HMM
                go_wp2
                go_roundw
                case rel => exact ⟨j + 1, hjl, by go_num, HT.out, HB.out, HX.out, HY.out⟩
                case measure => simp [intOf]; omega
             · obtain rfl : j = k := by omega
               have HB := Lib.hid HJJ.out.2.1
               have HX := Lib.hid HJJ.out.2.2.1
               have HT : Hid (propsGo dp [] = propsGo (dp.drop (j + 1)) (dp.take (j + 1))) := by show _ = _; rw [HGO.out, HJJ.out.1]; rfl
               clear hjl HJJ HGO
               go_wp2
               go_roundw
               case rel => exact ⟨j + 1, HLT.out, by go_num, HT.out, HB.out, HX.out⟩
               case measure => simp [intOf]; have := HLT.out; omega
        · obtain rfl : k = dp.length := by omega
          have HB := Lib.hid HRR.out.2.1
          have HX := Lib.hid HRR.out.2.2
          have hbq1 : bq = true := by rw [HBQ.out, HRR.out.1, List.drop_length]; rfl
          have HR1 := Lib.hid (HR.out.trans (by rw [hbq1]))
          clear hlt HRR hbq1 HR HBQ HPS
          have HR := HR1
          clear HR1
          obtain ⟨c0, c1, c2, c3, c4, c5, c6, c7, c8, c9, c10⟩ := bxc11 HX.out
          have cl := HX.out.lt
          go_wp2
          clear c0 c1 c2 c3 c4 c5 c6 c7 c8 c9 c10 cl
          obtain ⟨wo, rfl⟩ : ∃ wo : World, wo = wr := ⟨_, rfl⟩
          go_loopw [107] (fun i wr => ∃ k : Nat, k ≤ dm.length ∧ i = .int .i64 k ∧ Hid ((ml.take k).all (fun q => mayD 6 q.1) = true ∧ Below w.heap.size w wr ∧ Box wr w.heap.size [.bool hp, .string px, .string py, .string pz, .string dg, .string da, .string dv, .string dk, .slice ao1 dp.length cap1, .slice ao2 dm.length cap2, .slice ao3 dd.length cap3])) (fun i _ => dm.length - (intOf i).toNat)
          case atStart => exact ⟨0, Nat.zero_le _, rfl, rfl, HB.out, HX.out⟩
          case round =>
           clear HX HB
           obtain ⟨k, hk, rfl, HRR⟩ := hrel
           by_cases hlt : k < dm.length
           · have hlt2 : k < ml.length := by have := HLM.out; omega
             have HTK := Lib.hid (all_take2 (p := fun q : Dep × Value => mayD 6 q.1) hlt2)
             have HNO := Lib.hid (fun h => all_no2 (p := fun q : Dep × Value => mayD 6 q.1) hlt2 h)
             have HSK := Lib.hid (HMS.out ml[k] (List.getElem_mem hlt2))
             have hok := (HMO.out ml[k] (List.getElem_mem hlt2)).below HRR.out.2.1
             have hll := HM.out.below HRR.out.2.1
             rw [← HLM.out] at hll
             obtain ⟨g, o, rfl, hg, c0, c1, c2, c3, c4, c5, c6, c7⟩ := hll.atDep hlt2
             have hsr := HRR.out.2.1.size
             clear hll
             generalize ml[k] = q at *
             obtain ⟨qd, qx⟩ := q
             obtain ⟨xo, xc, rfl⟩ := hok.shape
             simp only at c0 c1 c2 c3 c4 c5 c6 c7
             have HOK : Hid (SliceOf 2 idC wr (.slice xo qd.excl.length xc) qd.excl) := hok
             clear hok
             go_upto_region 20 with fail
             refine wp_world ?_
             intro W4 hW4
             have x4 : Box W4 wr.heap.size [.string qd.group, .string qd.artifact, .string qd.version, .string qd.type, .string qd.classifier, .int .i64 qd.scope, .int .i64 qd.opt, .slice xo qd.excl.length xc] := by rw [hW4]; exact Box.new wr [.string qd.group, .string qd.artifact, .string qd.version, .string qd.type, .string qd.classifier, .int .i64 qd.scope, .int .i64 qd.opt, .slice xo qd.excl.length xc] _ _ rfl
             have hb4 : Below wr.heap.size wr W4 := by rw [hW4]; exact (Below.refl _ _).alloc (Nat.le_refl _) _
             clear hW4 c0 c1 c2 c3 c4 c5 c6 c7
             obtain ⟨a0, a1, a2, a3, a4, a5, a6, a7⟩ := bxc8 x4
             have al := x4.lt
             have HB4 := Lib.hid (HRR.out.2.1.trans (hb4.mono hsr))
             have HX4 := Lib.hid (HRR.out.2.2.below hb4 HRR.out.2.2.lt)
             have HDM : Hid (Calls Tryz.prog 63 #[.agg #[.string qd.group, .string qd.artifact, .string qd.version, .string qd.type, .string qd.classifier, .int .i64 qd.scope, .int .i64 qd.opt, .slice xo qd.excl.length xc], .int .i64 6] W4 fun e w' => e = .returned (.bool (mayD 6 qd)) ∧ Below W4.heap.size W4 w') := mayDepD_any qd (.slice xo qd.excl.length xc) 6 W4 (HOK.out.below hb4) HSK.out.own HSK.out.ex
             clear x4 hb4 HOK
             obtain ⟨b, hb⟩ : ∃ b, b = mayD 6 qd := ⟨_, rfl⟩
             rw [← hb] at HDM
             have HBQ := Lib.hid hb
             clear hb
             go_wp2_with fail
             refine HDM.out.mono ?_
             rintro e w7 ⟨rfl, hb7⟩
             have HB := Lib.hid (HB4.out.trans (hb7.mono HB4.out.size))
             have HX := Lib.hid (HX4.out.below hb7 HX4.out.lt)
             clear a0 a1 a2 a3 a4 a5 a6 a7 al hb7 HDM HB4 HX4
             cases b with
             | false =>
              have HN : Hid (r = false) := by show _ = _; rw [HR.out, HBM.out, HNO.out HBQ.out.symm]; simp
              clear HTK HNO
              go_wp2
              go_ret
              exact ⟨by rw [HN.out]; rfl, HB.out⟩
             | true =>
              have HT2 : Hid ((ml.take (k + 1)).all (fun q => mayD 6 q.1) = true) := by show _ = _; rw [HTK.out, HRR.out.1]; exact HBQ.out.symm
              clear HTK HNO
              go_wp2
              go_roundw
              case rel => exact ⟨k + 1, hlt, by go_num, HT2.out, HB.out, HX.out⟩
              case measure => simp [intOf]; omega
           · obtain rfl : k = dm.length := by omega
             have HB := Lib.hid HRR.out.2.1
             have HX := Lib.hid HRR.out.2.2
             have h1 := HRR.out.1
             rw [← HLM.out, List.take_length] at h1
             have HR1 := Lib.hid (HR.out.trans (by rw [HBM.out, h1]))
             clear hlt HRR h1 HR HBM
             have HR := HR1
             clear HR1
             obtain ⟨c0, c1, c2, c3, c4, c5, c6, c7, c8, c9, c10⟩ := bxc11 HX.out
             have cl := HX.out.lt
             go_wp2
             clear c0 c1 c2 c3 c4 c5 c6 c7 c8 c9 c10 cl
             obtain ⟨wo, rfl⟩ : ∃ wo : World, wo = wr := ⟨_, rfl⟩
             go_loopw [118] (fun i wr => ∃ k : Nat, k ≤ dd.length ∧ i = .int .i64 k ∧ Hid ((dl.take k).all (fun q => mayD 5 q.1) = true ∧ Below w.heap.size w wr ∧ Box wr w.heap.size [.bool hp, .string px, .string py, .string pz, .string dg, .string da, .string dv, .string dk, .slice ao1 dp.length cap1, .slice ao2 dm.length cap2, .slice ao3 dd.length cap3])) (fun i _ => dd.length - (intOf i).toNat)
             case atStart => exact ⟨0, Nat.zero_le _, rfl, rfl, HB.out, HX.out⟩
             case round =>
              clear HX HB
              obtain ⟨k, hk, rfl, HRR⟩ := hrel
              by_cases hlt : k < dd.length
              · have hlt2 : k < dl.length := by have := HLD.out; omega
                have HTK := Lib.hid (all_take2 (p := fun q : Dep × Value => mayD 5 q.1) hlt2)
                have HNO := Lib.hid (fun h => all_no2 (p := fun q : Dep × Value => mayD 5 q.1) hlt2 h)
                have HSK := Lib.hid (HDS.out dl[k] (List.getElem_mem hlt2))
                have hok := (HDO.out dl[k] (List.getElem_mem hlt2)).below HRR.out.2.1
                have hll := HD.out.below HRR.out.2.1
                rw [← HLD.out] at hll
                obtain ⟨g, o, rfl, hg, c0, c1, c2, c3, c4, c5, c6, c7⟩ := hll.atDep hlt2
                have hsr := HRR.out.2.1.size
                clear hll
                generalize dl[k] = q at *
                obtain ⟨qd, qx⟩ := q
                obtain ⟨xo, xc, rfl⟩ := hok.shape
                simp only at c0 c1 c2 c3 c4 c5 c6 c7
                have HOK : Hid (SliceOf 2 idC wr (.slice xo qd.excl.length xc) qd.excl) := hok
                clear hok
                go_upto_region 26 with fail
                refine wp_world ?_
                intro W4 hW4
                have x4 : Box W4 wr.heap.size [.string qd.group, .string qd.artifact, .string qd.version, .string qd.type, .string qd.classifier, .int .i64 qd.scope, .int .i64 qd.opt, .slice xo qd.excl.length xc] := by rw [hW4]; exact Box.new wr [.string qd.group, .string qd.artifact, .string qd.version, .string qd.type, .string qd.classifier, .int .i64 qd.scope, .int .i64 qd.opt, .slice xo qd.excl.length xc] _ _ rfl
                have hb4 : Below wr.heap.size wr W4 := by rw [hW4]; exact (Below.refl _ _).alloc (Nat.le_refl _) _
                clear hW4 c0 c1 c2 c3 c4 c5 c6 c7
                obtain ⟨a0, a1, a2, a3, a4, a5, a6, a7⟩ := bxc8 x4
                have al := x4.lt
                have HB4 := Lib.hid (HRR.out.2.1.trans (hb4.mono hsr))
                have HX4 := Lib.hid (HRR.out.2.2.below hb4 HRR.out.2.2.lt)
                have HDM : Hid (Calls Tryz.prog 63 #[.agg #[.string qd.group, .string qd.artifact, .string qd.version, .string qd.type, .string qd.classifier, .int .i64 qd.scope, .int .i64 qd.opt, .slice xo qd.excl.length xc], .int .i64 5] W4 fun e w' => e = .returned (.bool (mayD 5 qd)) ∧ Below W4.heap.size W4 w') := mayDepD_any qd (.slice xo qd.excl.length xc) 5 W4 (HOK.out.below hb4) HSK.out.own HSK.out.ex
                clear x4 hb4 HOK
                obtain ⟨b, hb⟩ : ∃ b, b = mayD 5 qd := ⟨_, rfl⟩
                rw [← hb] at HDM
                have HBQ := Lib.hid hb
                clear hb
                go_wp2_with fail
                refine HDM.out.mono ?_
                rintro e w7 ⟨rfl, hb7⟩
                have HB := Lib.hid (HB4.out.trans (hb7.mono HB4.out.size))
                have HX := Lib.hid (HX4.out.below hb7 HX4.out.lt)
                clear a0 a1 a2 a3 a4 a5 a6 a7 al hb7 HDM HB4 HX4
                cases b with
                | false =>
                 have HN : Hid (r = false) := by show _ = _; rw [HR.out, HBD.out, HNO.out HBQ.out.symm]; rfl
                 clear HTK HNO
                 go_wp2
                 go_ret
                 exact ⟨by rw [HN.out]; rfl, HB.out⟩
                | true =>
                 have HT2 : Hid ((dl.take (k + 1)).all (fun q => mayD 5 q.1) = true) := by show _ = _; rw [HTK.out, HRR.out.1]; exact HBQ.out.symm
                 clear HTK HNO
                 go_wp2
                 go_roundw
                 case rel => exact ⟨k + 1, hlt, by go_num, HT2.out, HB.out, HX.out⟩
                 case measure => simp [intOf]; omega
              · obtain rfl : k = dd.length := by omega
                have HB := Lib.hid HRR.out.2.1
                have HX := Lib.hid HRR.out.2.2
                have h1 := HRR.out.1
                rw [← HLD.out, List.take_length] at h1
                have HR1 := Lib.hid (HR.out.trans (by rw [HBD.out, h1]))
                clear hlt HRR h1 HR HBD
                have HR := HR1
                clear HR1
                go_wp2
                go_ret
                exact ⟨by rw [HR.out]; rfl, HB.out⟩

end Go.Proofs.YtbbbfjcikhpmbaaGreat

/- The walk of the law PomMays; the conditions stand in the theorem. -/
namespace Go.Proofs.YtbbbfjcikhpmbaaGreat
open Go Go.RowKit

theorem LightD.small {d : Dep} (h : LightD d) : DepSm d := ⟨fun s hs => Nat.le_trans (h.own s hs) (by decide), fun y hy => ⟨Nat.le_trans (h.ex y hy).1 (by decide), Nat.le_trans (h.ex y hy).2 (by decide)⟩⟩
theorem LightP.small {p : Pom} (h : LightP p) : PomSm p :=
 ⟨fun s hs => Nat.le_trans (h.own s (by simp only [List.mem_cons, List.not_mem_nil, or_false] at hs ⊢; rcases hs with rfl | rfl | rfl | rfl <;> simp)) (by decide), fun y hy => ⟨Nat.le_trans (h.prp y hy).1 (by decide), Nat.le_trans (h.prp y hy).2 (by decide)⟩, fun d hd => (h.managedL d hd).small, fun d hd => (h.depsL d hd).small,
  Nat.le_trans (h.own p.parent.group (by simp)) (by decide), Nat.le_trans (h.own p.parent.artifact (by simp)) (by decide), Nat.le_trans (h.own p.parent.version (by simp)) (by decide)⟩
theorem LightP.manX {p : Pom} (h : LightP p) : ∀ d ∈ p.managed, d.excl.length ≤ 140737488355328 := fun d hd => Nat.le_trans (h.managedL d hd).excl (by decide)
theorem LightP.depX {p : Pom} (h : LightP p) : ∀ d ∈ p.deps, d.excl.length ≤ 140737488355328 := fun d hd => Nat.le_trans (h.depsL d hd).excl (by decide)

end Go.Proofs.YtbbbfjcikhpmbaaGreat
