/- Walks: may it be a dependency, by pom and by the document; the conditions stand in the theorems. -/
import Derived.Test.YtbbbfjcikhpmbaaGreatJF19
import Derived.Test.YtbbbfjcikhpmbaaGreatProg
import Derived.Test.YtbbbfjcikhpmbaaGreatJF18
import Derived.Deep.CutRange
import Derived.Test.YtbbbfjcikhpmbaaGreatJF14
import Derived.Laws.EntriesVeiled
namespace Go.Proofs.YtbbbfjcikhpmbaaGreat
open Go Go.RowKit

def patB (x : Id) : Bool := isPartS x.group && isPartS x.artifact
/-- May it be a dependency, of a scope up to most? -/
def mayD (most : Int) (d : Dep) : Bool := okW d.version true && (okW d.type true && (okW d.classifier true && (d.excl.all patB && (okW d.group false && (okW d.artifact false && (decide (0 ≤ d.scope) && (decide (d.scope ≤ most) && (decide (0 ≤ d.opt) && (decide (d.opt ≤ 2) && decide (d.excl.length ≤ 1024))))))))))
theorem all_take2 {α : Type} {p : α → Bool} {l : List α} {k : Nat} (h : k < l.length) : (l.take (k + 1)).all p = ((l.take k).all p && p l[k]) := by
 rw [List.take_succ_eq_append_getElem h, List.all_append]; simp
theorem all_no2 {α : Type} {p : α → Bool} {l : List α} {k : Nat} (h : k < l.length) (hp : p l[k] = false) : l.all p = false := by
 rw [Bool.eq_false_iff]
 intro e
 rw [List.all_eq_true] at e
 rw [e _ (List.getElem_mem h)] at hp
 cases hp
set_option maxRecDepth 100000 in
set_option maxHeartbeats 8000000 in
theorem mayDepD_any (d : Dep) (ex : Value) (most : Int) (w : World) (hx : SliceOf 2 idC w ex d.excl) (hs : ∀ s ∈ [d.group, d.artifact, d.version, d.type, d.classifier], s.size ≤ 1000000) (hxs : ∀ y ∈ d.excl, y.group.size ≤ 1000000 ∧ y.artifact.size ≤ 1000000) :
    Calls Tryz.prog 63 #[.agg (depC (d, ex)).toArray, .int .i64 most] w fun e w' => e = .returned (.bool (mayD most d)) ∧ Below w.heap.size w w' := by
 obtain ⟨r, hr⟩ : ∃ r, r = mayD most d := ⟨_, rfl⟩
 have HR0 : Hid (r = mayD most d) := hr
 rw [← hr]
 clear hr
 obtain ⟨dg, da, dv, dt, dc, ds, dp, dx⟩ := d
 simp only [depC]
 simp only at hx hs hxs
 have hlx : dx.length ≤ 9223372036854775807 := by obtain ⟨a, c, e, h2, h3, -⟩ := hx; exact Nat.le_trans h2 (Nat.le_trans h3 (by decide))
 obtain ⟨xo, xc, rfl⟩ := hx.shape
 have HX := Lib.hid hx
 have HXS := Lib.hid hxs
 obtain ⟨bv, hbv⟩ : ∃ b, b = okW dv true := ⟨_, rfl⟩
 obtain ⟨bt, hbt⟩ : ∃ b, b = okW dt true := ⟨_, rfl⟩
 obtain ⟨bc, hbc⟩ : ∃ b, b = okW dc true := ⟨_, rfl⟩
 obtain ⟨bg, hbg⟩ : ∃ b, b = okW dg false := ⟨_, rfl⟩
 obtain ⟨ba, hba⟩ : ∃ b, b = okW da false := ⟨_, rfl⟩
 obtain ⟨bx, hbx⟩ : ∃ b, b = dx.all patB := ⟨_, rfl⟩
 have HBX := Lib.hid hbx
 have Hbv : Hid (∀ W, Calls Tryz.prog 61 #[.string dv, .bool true] W fun e w' => e = .returned (.bool bv) ∧ Below W.heap.size W w') := fun W => by rw [hbv]; exact plainD_any dv true W (hs _ (by simp))
 have Hbt : Hid (∀ W, Calls Tryz.prog 61 #[.string dt, .bool true] W fun e w' => e = .returned (.bool bt) ∧ Below W.heap.size W w') := fun W => by rw [hbt]; exact plainD_any dt true W (hs _ (by simp))
 have Hbc : Hid (∀ W, Calls Tryz.prog 61 #[.string dc, .bool true] W fun e w' => e = .returned (.bool bc) ∧ Below W.heap.size W w') := fun W => by rw [hbc]; exact plainD_any dc true W (hs _ (by simp))
 have Hbg : Hid (∀ W, Calls Tryz.prog 61 #[.string dg, .bool false] W fun e w' => e = .returned (.bool bg) ∧ Below W.heap.size W w') := fun W => by rw [hbg]; exact plainD_any dg false W (hs _ (by simp))
 have Hba : Hid (∀ W, Calls Tryz.prog 61 #[.string da, .bool false] W fun e w' => e = .returned (.bool ba) ∧ Below W.heap.size W w') := fun W => by rw [hba]; exact plainD_any da false W (hs _ (by simp))
 have HR : Hid (r = (bv && (bt && (bc && (bx && (bg && (ba && (decide (0 ≤ ds) && (decide (ds ≤ most) && (decide (0 ≤ dp) && (decide (dp ≤ 2) && decide (dx.length ≤ 1024)))))))))))) := by show _ = _; rw [HR0.out, hbv, hbt, hbc, hbg, hba, hbx]; rfl
 clear hbv hbt hbc hbg hba hbx HR0 hx hs hxs
 go_enter Tryz.func63, Tryz.ntmps63
 go_upto_region 1 with fail
 refine wp_world ?_
 intro W hW
 have x2 : Box W w.heap.size [.string dg, .string da, .string dv, .string dt, .string dc, .int .i64 ds, .int .i64 dp, .slice xo dx.length xc] := by rw [hW]; exact Box.new w [.string dg, .string da, .string dv, .string dt, .string dc, .int .i64 ds, .int .i64 dp, .slice xo dx.length xc] _ _ rfl
 have hb2 : Below w.heap.size w W := by rw [hW]; exact (Below.refl _ _).alloc (Nat.le_refl _) _
 clear hW
 have HD0 := Lib.hid x2
 have HB0 := Lib.hid hb2
 clear x2 hb2
 have d7 := HD0.out.cell 7 _ rfl
 have dl := HD0.out.lt
 go_wp2
 clear d7 dl
 go_loopw [10] (fun i wr => ∃ k : Nat, k ≤ dx.length ∧ i = .int .i64 k ∧ Hid ((dx.take k).all patB = true ∧ Below w.heap.size w wr ∧ Box wr w.heap.size [.string dg, .string da, .string dv, .string dt, .string dc, .int .i64 ds, .int .i64 dp, .slice xo dx.length xc])) (fun i _ => dx.length - (intOf i).toNat)
 case atStart => exact ⟨0, Nat.zero_le _, rfl, rfl, HB0.out, HD0.out⟩
 case round =>
  obtain ⟨k, hk, rfl, HRR⟩ := hrel
  clear HD0 HB0
  by_cases hlt : k < dx.length
  · have HTK := Lib.hid (all_take2 (p := patB) hlt)
    have HNO := Lib.hid (fun h => all_no2 (p := patB) hlt h)
    have HYS := Lib.hid (HXS.out dx[k] (List.getElem_mem hlt))
    obtain ⟨g, o, rfl, hg, c0, c1⟩ := (HX.out.below HRR.out.2.1).atId hlt
    have hsr := HRR.out.2.1.size
    generalize dx[k] = y at *
    obtain ⟨y1, y2⟩ := y
    simp only at c0 c1
    have HI1 : Hid (∀ W, Calls Tryz.prog 92 #[.string y1] W fun e w' => e = .returned (.bool (isIdB y1)) ∧ Below W.heap.size W w') := fun W => (refIsId_any y1 W (by have := HYS.out.1; simp only at this; omega)).mono fun _ _ ⟨h1, h2⟩ => ⟨h1, by rw [← h2]; exact Below.refl _ _⟩
    have HI2 : Hid (∀ W, Calls Tryz.prog 92 #[.string y2] W fun e w' => e = .returned (.bool (isIdB y2)) ∧ Below W.heap.size W w') := fun W => (refIsId_any y2 W (by have := HYS.out.2; simp only at this; omega)).mono fun _ _ ⟨h1, h2⟩ => ⟨h1, by rw [← h2]; exact Below.refl _ _⟩
    have HPB : Hid (patB ⟨y1, y2⟩ = (((y1.toList == [42]) || isIdB y1) && ((y2.toList == [42]) || isIdB y2))) := rfl
    obtain ⟨i1, hi1⟩ : ∃ i, i = isIdB y1 := ⟨_, rfl⟩
    obtain ⟨i2, hi2⟩ : ∃ i, i = isIdB y2 := ⟨_, rfl⟩
    rw [← hi1] at HI1 HPB
    rw [← hi2] at HI2 HPB
    obtain ⟨s1, hs1⟩ : ∃ i, i = (y1.toList == [42]) := ⟨_, rfl⟩
    obtain ⟨s2, hs2⟩ : ∃ i, i = (y2.toList == [42]) := ⟨_, rfl⟩
    rw [← hs1, ← hs2] at HPB
    have k1 : (y1.toList == [42]) = s1 := hs1.symm
    have k2 : (y2.toList == [42]) = s2 := hs2.symm
    clear hi1 hi2 hs1 hs2 HYS
    go_upto_region 4 with fail
    refine wp_world ?_
    intro W4 hW4
    have x4 : Box W4 wr.heap.size [.string y1, .string y2] := by rw [hW4]; exact Box.new wr [.string y1, .string y2] _ _ rfl
    have hb4 : Below wr.heap.size wr W4 := by rw [hW4]; exact (Below.refl _ _).alloc (Nat.le_refl _) _
    clear hW4 c0 c1
    have HY := Lib.hid x4
    have HB := Lib.hid (HRR.out.2.1.trans (hb4.mono hsr))
    have HD := Lib.hid (HRR.out.2.2.below (hb4) HRR.out.2.2.lt)
    clear x4 hb4
    have a0 := HY.out.cell 0 _ rfl
    have a1 := HY.out.cell 1 _ rfl
    have al := HY.out.lt
    cases s1 with
    | true =>
     cases s2 with
     | true =>
      have HT2 : Hid ((dx.take (k + 1)).all patB = true) := by show _ = _; rw [HTK.out, HRR.out.1, HPB.out]; rfl
      clear HTK HNO HPB
      go_wp2
      go_roundw
      case rel => exact ⟨k + 1, hlt, by go_num, HT2.out, HB.out, HD.out⟩
      case measure => simp [intOf]; omega
     | false =>
      go_wp2_with fail
      refine (HI2.out _).mono ?_
      rintro e w8 ⟨rfl, hb7⟩
      have HY1 := Lib.hid (HY.out.below hb7 HY.out.lt)
      have HD1 := Lib.hid (HD.out.below hb7 HD.out.lt)
      have HB1 := Lib.hid (HB.out.trans (hb7.mono HB.out.size))
      clear a0 a1 al hb7 HD HB HY
      have HD := HD1
      have HB := HB1
      have HY := HY1
      clear HD1 HB1 HY1
      have a0 := HY.out.cell 0 _ rfl
      have a1 := HY.out.cell 1 _ rfl
      have al := HY.out.lt
      cases i2 with
      | false =>
       have HN : Hid (r = false) := by
        show _ = _
        rw [HR.out, HBX.out, HNO.out (by rw [HPB.out]; simp)]
        simp
       clear HTK HNO HPB
       go_wp2
       go_ret
       exact ⟨by rw [HN.out]; rfl, HB.out⟩
      | true =>
       have HT2 : Hid ((dx.take (k + 1)).all patB = true) := by show _ = _; rw [HTK.out, HRR.out.1, HPB.out]; rfl
       clear HTK HNO HPB
       go_wp2
       go_roundw
       case rel => exact ⟨k + 1, hlt, by go_num, HT2.out, HB.out, HD.out⟩
       case measure => simp [intOf]; omega
    | false =>
     go_wp2_with fail
     refine (HI1.out _).mono ?_
     rintro e w7 ⟨rfl, hb7⟩
     have HY1 := Lib.hid (HY.out.below hb7 HY.out.lt)
     have HD1 := Lib.hid (HD.out.below hb7 HD.out.lt)
     have HB1 := Lib.hid (HB.out.trans (hb7.mono HB.out.size))
     clear a0 a1 al hb7 HD HB HY
     have HD := HD1
     have HB := HB1
     have HY := HY1
     clear HD1 HB1 HY1
     have a0 := HY.out.cell 0 _ rfl
     have a1 := HY.out.cell 1 _ rfl
     have al := HY.out.lt
     cases i1 with
     | false =>
      have HN : Hid (r = false) := by
       show _ = _
       rw [HR.out, HBX.out, HNO.out (by rw [HPB.out]; simp)]
       simp
      clear HTK HNO HPB
      go_wp2
      go_ret
      exact ⟨by rw [HN.out]; rfl, HB.out⟩
     | true =>
      cases s2 with
      | true =>
       have HT2 : Hid ((dx.take (k + 1)).all patB = true) := by show _ = _; rw [HTK.out, HRR.out.1, HPB.out]; rfl
       clear HTK HNO HPB
       go_wp2
       go_roundw
       case rel => exact ⟨k + 1, hlt, by go_num, HT2.out, HB.out, HD.out⟩
       case measure => simp [intOf]; omega
      | false =>
       go_wp2_with fail
       refine (HI2.out _).mono ?_
       rintro e w8 ⟨rfl, hb7⟩
       have HY1 := Lib.hid (HY.out.below hb7 HY.out.lt)
       have HD1 := Lib.hid (HD.out.below hb7 HD.out.lt)
       have HB1 := Lib.hid (HB.out.trans (hb7.mono HB.out.size))
       clear a0 a1 al hb7 HD HB HY
       have HD := HD1
       have HB := HB1
       have HY := HY1
       clear HD1 HB1 HY1
       have a0 := HY.out.cell 0 _ rfl
       have a1 := HY.out.cell 1 _ rfl
       have al := HY.out.lt
       cases i2 with
       | false =>
        have HN : Hid (r = false) := by
         show _ = _
         rw [HR.out, HBX.out, HNO.out (by rw [HPB.out]; simp)]
         simp
        clear HTK HNO HPB
        go_wp2
        go_ret
        exact ⟨by rw [HN.out]; rfl, HB.out⟩
       | true =>
        have HT2 : Hid ((dx.take (k + 1)).all patB = true) := by show _ = _; rw [HTK.out, HRR.out.1, HPB.out]; rfl
        clear HTK HNO HPB
        go_wp2
        go_roundw
        case rel => exact ⟨k + 1, hlt, by go_num, HT2.out, HB.out, HD.out⟩
        case measure => simp [intOf]; omega
  · obtain rfl : k = dx.length := by omega
    have HB := Lib.hid HRR.out.2.1
    have HD := Lib.hid HRR.out.2.2
    have hbx1 : bx = true := by rw [HBX.out]; have h1 := HRR.out.1; rwa [List.take_length] at h1
    have HR1 := Lib.hid (HR.out.trans (by rw [hbx1]))
    clear HR HBX hbx1 hlt HX HXS HRR
    have HR := HR1
    clear HR1
    obtain ⟨d0, d1, d2, d3, d4, d5, d6, d7⟩ := bxc8 HD.out
    have dl := HD.out.lt
    go_wp2_with fail
    refine (Hbg.out _).mono ?_
    rintro e w7 ⟨rfl, hb7⟩
    have HD1 := Lib.hid (HD.out.below hb7 HD.out.lt)
    have HB1 := Lib.hid (HB.out.trans (hb7.mono HB.out.size))
    clear d0 d1 d2 d3 d4 d5 d6 d7 dl hb7 HD HB Hbg
    have HD := HD1
    have HB := HB1
    clear HD1 HB1
    cases bg with
    | false =>
     obtain ⟨d0, d1, d2, d3, d4, d5, d6, d7⟩ := bxc8 HD.out
     have dl := HD.out.lt
     go_wp2
     go_ret
     exact ⟨by rw [HR.out]; simp, HB.out⟩
    | true =>
     obtain ⟨d0, d1, d2, d3, d4, d5, d6, d7⟩ := bxc8 HD.out
     have dl := HD.out.lt
     go_wp2_with fail
     refine (Hba.out _).mono ?_
     rintro e w7 ⟨rfl, hb7⟩
     have HD1 := Lib.hid (HD.out.below hb7 HD.out.lt)
     have HB1 := Lib.hid (HB.out.trans (hb7.mono HB.out.size))
     clear d0 d1 d2 d3 d4 d5 d6 d7 dl hb7 HD HB Hba
     have HD := HD1
     have HB := HB1
     clear HD1 HB1
     cases ba with
     | false =>
      obtain ⟨d0, d1, d2, d3, d4, d5, d6, d7⟩ := bxc8 HD.out
      have dl := HD.out.lt
      go_wp2
      go_ret
      exact ⟨by rw [HR.out]; simp, HB.out⟩
     | true =>
      obtain ⟨d0, d1, d2, d3, d4, d5, d6, d7⟩ := bxc8 HD.out
      have dl := HD.out.lt
      go_wp2_with fail
      refine (Hbv.out _).mono ?_
      rintro e w7 ⟨rfl, hb7⟩
      have HD1 := Lib.hid (HD.out.below hb7 HD.out.lt)
      have HB1 := Lib.hid (HB.out.trans (hb7.mono HB.out.size))
      clear d0 d1 d2 d3 d4 d5 d6 d7 dl hb7 HD HB Hbv
      have HD := HD1
      have HB := HB1
      clear HD1 HB1
      cases bv with
      | false =>
       obtain ⟨d0, d1, d2, d3, d4, d5, d6, d7⟩ := bxc8 HD.out
       have dl := HD.out.lt
       go_wp2
       go_ret
       exact ⟨by rw [HR.out]; simp, HB.out⟩
      | true =>
       obtain ⟨d0, d1, d2, d3, d4, d5, d6, d7⟩ := bxc8 HD.out
       have dl := HD.out.lt
       go_wp2_with fail
       refine (Hbt.out _).mono ?_
       rintro e w7 ⟨rfl, hb7⟩
       have HD1 := Lib.hid (HD.out.below hb7 HD.out.lt)
       have HB1 := Lib.hid (HB.out.trans (hb7.mono HB.out.size))
       clear d0 d1 d2 d3 d4 d5 d6 d7 dl hb7 HD HB Hbt
       have HD := HD1
       have HB := HB1
       clear HD1 HB1
       cases bt with
       | false =>
        obtain ⟨d0, d1, d2, d3, d4, d5, d6, d7⟩ := bxc8 HD.out
        have dl := HD.out.lt
        go_wp2
        go_ret
        exact ⟨by rw [HR.out]; simp, HB.out⟩
       | true =>
        obtain ⟨d0, d1, d2, d3, d4, d5, d6, d7⟩ := bxc8 HD.out
        have dl := HD.out.lt
        go_wp2_with fail
        refine (Hbc.out _).mono ?_
        rintro e w7 ⟨rfl, hb7⟩
        have HD1 := Lib.hid (HD.out.below hb7 HD.out.lt)
        have HB1 := Lib.hid (HB.out.trans (hb7.mono HB.out.size))
        clear d0 d1 d2 d3 d4 d5 d6 d7 dl hb7 HD HB Hbc
        have HD := HD1
        have HB := HB1
        clear HD1 HB1
        cases bc with
        | false =>
         obtain ⟨d0, d1, d2, d3, d4, d5, d6, d7⟩ := bxc8 HD.out
         have dl := HD.out.lt
         go_wp2
         go_ret
         exact ⟨by rw [HR.out]; simp, HB.out⟩
        | true =>
         by_cases hq : 0 ≤ ds
         rotate_left
         · have hq1 : ¬ 0 ≤ ds := hq
           have HN : Hid (r = false) := by show _ = _; rw [HR.out, decide_eq_false hq]; simp
           clear hq
           obtain ⟨d0, d1, d2, d3, d4, d5, d6, d7⟩ := bxc8 HD.out
           have dl := HD.out.lt
           go_wp2
           go_ret
           refine ⟨?_, HB.out⟩
           rw [HN.out]
           first | rfl | exact ret_bool (decide_eq_false (by omega))
         have hq5 : 0 ≤ ds := hq
         have HR1 := Lib.hid (HR.out.trans (by rw [decide_eq_true hq]))
         clear HR hq
         have HR := HR1
         clear HR1
         by_cases hq : ds ≤ most
         rotate_left
         · have hq1 : ¬ ds ≤ most := hq
           have HN : Hid (r = false) := by show _ = _; rw [HR.out, decide_eq_false hq]; simp
           clear hq
           obtain ⟨d0, d1, d2, d3, d4, d5, d6, d7⟩ := bxc8 HD.out
           have dl := HD.out.lt
           go_wp2
           go_ret
           refine ⟨?_, HB.out⟩
           rw [HN.out]
           first | rfl | exact ret_bool (decide_eq_false (by omega))
         have hq6 : ds ≤ most := hq
         have HR1 := Lib.hid (HR.out.trans (by rw [decide_eq_true hq]))
         clear HR hq
         have HR := HR1
         clear HR1
         by_cases hq : 0 ≤ dp
         rotate_left
         · have hq1 : ¬ 0 ≤ dp := hq
           have HN : Hid (r = false) := by show _ = _; rw [HR.out, decide_eq_false hq]; simp
           clear hq
           obtain ⟨d0, d1, d2, d3, d4, d5, d6, d7⟩ := bxc8 HD.out
           have dl := HD.out.lt
           go_wp2
           go_ret
           refine ⟨?_, HB.out⟩
           rw [HN.out]
           first | rfl | exact ret_bool (decide_eq_false (by omega))
         have hq2 : 0 ≤ dp := hq
         have HR1 := Lib.hid (HR.out.trans (by rw [decide_eq_true hq]))
         clear HR hq
         have HR := HR1
         clear HR1
         by_cases hq : dp ≤ 2
         rotate_left
         · have hq1 : ¬ dp ≤ 2 := hq
           have HN : Hid (r = false) := by show _ = _; rw [HR.out, decide_eq_false hq]; simp
           clear hq
           obtain ⟨d0, d1, d2, d3, d4, d5, d6, d7⟩ := bxc8 HD.out
           have dl := HD.out.lt
           go_wp2
           go_ret
           refine ⟨?_, HB.out⟩
           rw [HN.out]
           first | rfl | exact ret_bool (decide_eq_false (by omega))
         have hq3 : dp ≤ 2 := hq
         have HR1 := Lib.hid (HR.out.trans (by rw [decide_eq_true hq]))
         clear HR hq
         have HR := HR1
         clear HR1
         by_cases hq : dx.length ≤ 1024
         rotate_left
         · have hq1 : ¬ (dx.length : Int) ≤ 1024 := by omega
           have HN : Hid (r = false) := by show _ = _; rw [HR.out, decide_eq_false hq]; simp
           clear hq
           obtain ⟨d0, d1, d2, d3, d4, d5, d6, d7⟩ := bxc8 HD.out
           have dl := HD.out.lt
           go_wp2
           go_ret
           refine ⟨?_, HB.out⟩
           rw [HN.out]
           first | rfl | exact ret_bool (decide_eq_false (by omega))
         have hq4 : (dx.length : Int) ≤ 1024 := by omega
         have HR1 := Lib.hid (HR.out.trans (by rw [decide_eq_true hq]))
         clear HR hq
         have HR := HR1
         clear HR1
         obtain ⟨d0, d1, d2, d3, d4, d5, d6, d7⟩ := bxc8 HD.out
         have dl := HD.out.lt
         go_wp2
         go_ret
         refine ⟨?_, HB.out⟩
         rw [HR.out]
         first | rfl | exact ret_bool (decide_eq_true hq4)
set_option maxRecDepth 100000 in
set_option maxHeartbeats 8000000 in
theorem isDepQ_any (d : Dep) (ex : Value) (m : Bool) (w : World) (hx : SliceOf 2 idC w ex d.excl) (hs : ∀ s ∈ [d.group, d.artifact, d.version, d.type, d.classifier], s.size ≤ 1000000) (hxs : ∀ y ∈ d.excl, y.group.size ≤ 1000000 ∧ y.artifact.size ≤ 1000000) :
    Calls Tryz.prog 104 #[.agg (depC (d, ex)).toArray, .bool m] w fun e w' => e = .returned (.bool (mayD (if m then 6 else 5) d)) ∧ Below w.heap.size w w' := by
 obtain ⟨r, hr⟩ : ∃ r, r = mayD (if m then 6 else 5) d := ⟨_, rfl⟩
 have HR0 : Hid (r = mayD (if m then 6 else 5) d) := hr
 rw [← hr]
 clear hr
 obtain ⟨dg, da, dv, dt, dc, ds, dp, dx⟩ := d
 simp only [depC]
 simp only at hx hs hxs
 have hlx : dx.length ≤ 9223372036854775807 := by obtain ⟨a, c, e, h2, h3, -⟩ := hx; exact Nat.le_trans h2 (Nat.le_trans h3 (by decide))
 obtain ⟨xo, xc, rfl⟩ := hx.shape
 have HX := Lib.hid hx
 have HXS := Lib.hid hxs
 obtain ⟨bv, hbv⟩ : ∃ b, b = okW dv true := ⟨_, rfl⟩
 obtain ⟨bt, hbt⟩ : ∃ b, b = okW dt true := ⟨_, rfl⟩
 obtain ⟨bc, hbc⟩ : ∃ b, b = okW dc true := ⟨_, rfl⟩
 obtain ⟨bg, hbg⟩ : ∃ b, b = okW dg false := ⟨_, rfl⟩
 obtain ⟨ba, hba⟩ : ∃ b, b = okW da false := ⟨_, rfl⟩
 obtain ⟨bx, hbx⟩ : ∃ b, b = dx.all patB := ⟨_, rfl⟩
 have HBX := Lib.hid hbx
 have Hbg : Hid (∀ W, Calls Tryz.prog 67 #[.string dg, .bool false] W fun e w' => e = .returned (.bool bg) ∧ Below W.heap.size W w') := fun W => by rw [hbg]; exact isTextQ_any dg false W (hs _ (by simp))
 have Hba : Hid (∀ W, Calls Tryz.prog 67 #[.string da, .bool false] W fun e w' => e = .returned (.bool ba) ∧ Below W.heap.size W w') := fun W => by rw [hba]; exact isTextQ_any da false W (hs _ (by simp))
 have HTX : Hid (∀ (W : World) (s : S), s ∈ [dv, dt, dc] → Calls Tryz.prog 67 #[.string s, .bool true] W fun e w' => e = .returned (.bool (okW s true)) ∧ Below W.heap.size W w') := fun W s h => isTextQ_any s true W (hs s (by simp only [List.mem_cons, List.not_mem_nil, or_false] at h ⊢; rcases h with rfl | rfl | rfl <;> simp))
 have HMP : Hid (∀ (W : World) (y : Id), y ∈ dx → Calls Tryz.prog 132 #[.agg #[.string y.group, .string y.artifact]] W fun e w' => e = .returned (.bool (patB y)) ∧ Below W.heap.size W w') := fun W y h => mayPattern_any y W (by have := (hxs y h).1; omega) (by have := (hxs y h).2; omega)
 obtain ⟨sc, hsc⟩ : ∃ sc, sc = (decide (0 ≤ ds) && decide (ds ≤ (if m then 6 else 5))) := ⟨_, rfl⟩
 have HR : Hid (r = (bv && (bt && (bc && (bx && (bg && (ba && (sc && (decide (0 ≤ dp) && (decide (dp ≤ 2) && decide (dx.length ≤ 1024))))))))))) := by show _ = _; rw [HR0.out, hbv, hbt, hbc, hbg, hba, hbx, hsc, Bool.and_assoc]; rfl
 have HSC := Lib.hid hsc
 have HBV : Hid ([dv, dt, dc].all (fun s => okW s true) = (bv && (bt && bc))) := by show _ = _; rw [hbv, hbt, hbc]; simp
 clear hbv hbt hbc hbg hba hbx hsc HR0 hx hs hxs
 go_enter Tryz.func104, Tryz.ntmps104
 go_upto_region 1 with fail
 refine wp_world ?_
 intro W hW
 have x2 : Box W w.heap.size [.string dg, .string da, .string dv, .string dt, .string dc, .int .i64 ds, .int .i64 dp, .slice xo dx.length xc] := by rw [hW]; exact Box.new w [.string dg, .string da, .string dv, .string dt, .string dc, .int .i64 ds, .int .i64 dp, .slice xo dx.length xc] _ _ rfl
 have hb2 : Below w.heap.size w W := by rw [hW]; exact (Below.refl _ _).alloc (Nat.le_refl _) _
 clear hW
 have HD := Lib.hid x2
 have HB := Lib.hid hb2
 clear x2 hb2
 obtain ⟨d0, d1, d2, d3, d4, d5, d6, d7⟩ := bxc8 HD.out
 have dl := HD.out.lt
 go_upto_region 2 with fail
 have HD0 := Lib.hid (HD.out.alloc (.cells #[.string dv, .string dt, .string dc] 9))
 have HB0 := Lib.hid (HB.out.alloc HB.out.size (.cells #[.string dv, .string dt, .string dc] 9))
 have HL0 := Lib.hid (Box.new W [.string dv, .string dt, .string dc] 9 _ rfl)
 clear d0 d1 d2 d3 d4 d5 d6 d7 dl HD HB
 go_loopw [6, 18] (fun _ i wr => ∃ k : Nat, k ≤ 3 ∧ i = .int .i64 k ∧ Hid (([dv, dt, dc].take k).all (fun s => okW s true) = true ∧ Below w.heap.size w wr ∧ Box wr w.heap.size [.string dg, .string da, .string dv, .string dt, .string dc, .int .i64 ds, .int .i64 dp, .slice xo dx.length xc] ∧ Box wr W.heap.size [.string dv, .string dt, .string dc])) (fun _ i _ => 3 - (intOf i).toNat)
 case atStart => exact ⟨0, Nat.zero_le _, rfl, rfl, HB0.out, HD0.out, HL0.out⟩
 case round =>
  obtain ⟨k, hk, rfl, HRR⟩ := hrel
  clear HD0 HB0 HL0
  by_cases hlt : k < 3
  · obtain ⟨s, hks⟩ : ∃ s, [dv, dt, dc][k]? = some s := ⟨[dv, dt, dc][k], by simp [hlt]⟩
    have hkc : wr.cell? ⟨W.heap.size, k, none⟩ = some (.string s) := HRR.out.2.2.2.cell k (.string s) (by rcases (by omega : k = 0 ∨ k = 1 ∨ k = 2) with rfl | rfl | rfl <;> (simp at hks; subst hks; rfl))
    have hll := HRR.out.2.2.2.lt
    have hsr := HRR.out.2.1.size
    have HCT := Lib.hid (fun W => HTX.out W s (List.mem_of_getElem? hks))
    have hkl : k < [dv, dt, dc].length := hlt
    have hsk : [dv, dt, dc][k] = s := by have := List.getElem?_eq_getElem hkl; rw [hks] at this; exact (Option.some.inj this).symm
    have HTK : Hid (([dv, dt, dc].take (k + 1)).all (fun s => okW s true) = okW s true) := by show _ = _; rw [List.take_succ_eq_append_getElem hkl, List.all_append, HRR.out.1, hsk]; simp
    have HNO : Hid (okW s true = false → (bv && (bt && bc)) = false) := fun h => by
     rw [← HBV.out, Bool.eq_false_iff]
     intro e
     rw [List.all_eq_true] at e
     have h1 := e s (List.mem_of_getElem? hks)
     rw [h] at h1; cases h1
    have hkI : (k : Int) < 3 := by omega
    clear hks hkl hsk
    generalize okW s true = q at *
    go_wp2_with fail
    refine (HCT.out _).mono ?_
    rintro e w7 ⟨rfl, hb7⟩
    have HB := Lib.hid (HRR.out.2.1.trans (hb7.mono hsr))
    have HD := Lib.hid (HRR.out.2.2.1.below hb7 HRR.out.2.2.1.lt)
    have HL := Lib.hid (HRR.out.2.2.2.below hb7 HRR.out.2.2.2.lt)
    clear hkc hb7
    cases q with
    | false =>
     have HN : Hid (r = false) := by
      show _ = _
      have h1 := HNO.out rfl
      rw [HR.out, ← Bool.and_assoc bt, ← Bool.and_assoc bv, h1]
      rfl
     clear HTK HNO
     go_wp2
     go_ret
     exact ⟨by rw [HN.out]; rfl, HB.out⟩
    | true =>
     clear HNO
     go_wp2
     go_roundw
     case rel => exact ⟨k + 1, hlt, by go_num, HTK.out, HB.out, HD.out, HL.out⟩
     case measure => simp [intOf]; omega
  · have hk3 : k = 3 := by omega
    have e3 : (k : Int) = 3 := by omega
    rw [e3]
    have HB0 := Lib.hid HRR.out.2.1
    have HD0 := Lib.hid HRR.out.2.2.1
    have hb3 := HRR.out.1
    rw [hk3, show [dv, dt, dc].take 3 = [dv, dt, dc] from rfl, HBV.out] at hb3
    obtain ⟨rfl, rfl, rfl⟩ : bv = true ∧ bt = true ∧ bc = true := by cases bv <;> cases bt <;> cases bc <;> simp_all
    clear hb3 hlt HRR HTX HBV e3 hk3 hk
    have d7 := HD0.out.cell 7 _ rfl
    have dl := HD0.out.lt
    go_wp2
    clear d7 dl
    obtain ⟨wo, rfl⟩ : ∃ wo : World, wo = wr := ⟨_, rfl⟩
    go_loopw [29] (fun i wr => ∃ k : Nat, k ≤ dx.length ∧ i = .int .i64 k ∧ Hid ((dx.take k).all patB = true ∧ Below w.heap.size w wr ∧ Box wr w.heap.size [.string dg, .string da, .string dv, .string dt, .string dc, .int .i64 ds, .int .i64 dp, .slice xo dx.length xc])) (fun i _ => dx.length - (intOf i).toNat)
    case atStart => exact ⟨0, Nat.zero_le _, rfl, rfl, HB0.out, HD0.out⟩
    case round =>
     obtain ⟨k, hk, rfl, HRR⟩ := hrel
     clear HD0 HB0
     by_cases hlt : k < dx.length
     · have HTK := Lib.hid (all_take2 (p := patB) hlt)
       have HNO := Lib.hid (fun h => all_no2 (p := patB) hlt h)
       have HMY := Lib.hid (fun W => HMP.out W dx[k] (List.getElem_mem hlt))
       obtain ⟨g, o, rfl, hg, c0, c1⟩ := (HX.out.below HRR.out.2.1).atId hlt
       have hsr := HRR.out.2.1.size
       generalize dx[k] = y at *
       obtain ⟨y1, y2⟩ := y
       simp only at c0 c1 HMY
       generalize patB ⟨y1, y2⟩ = q at *
       go_upto_region 10 with fail
       refine wp_world ?_
       intro W4 hW4
       have x4 : Box W4 wr.heap.size [.string y1, .string y2] := by rw [hW4]; exact Box.new wr [.string y1, .string y2] _ _ rfl
       have hb4 : Below wr.heap.size wr W4 := by rw [hW4]; exact (Below.refl _ _).alloc (Nat.le_refl _) _
       clear hW4 c0 c1
       have a0 := x4.cell 0 _ rfl
       have a1 := x4.cell 1 _ rfl
       have al := x4.lt
       have HB4 := Lib.hid (HRR.out.2.1.trans (hb4.mono hsr))
       have HD4 := Lib.hid (HRR.out.2.2.below hb4 HRR.out.2.2.lt)
       clear x4 hb4
       go_wp2_with fail
       refine (HMY.out _).mono ?_
       rintro e w7 ⟨rfl, hb7⟩
       have HB := Lib.hid (HB4.out.trans (hb7.mono HB4.out.size))
       have HD := Lib.hid (HD4.out.below hb7 HD4.out.lt)
       clear a0 a1 al hb7 HMY HB4 HD4
       cases q with
       | false =>
        have HN : Hid (r = false) := by show _ = _; rw [HR.out, HBX.out, HNO.out rfl]; simp
        clear HTK HNO
        go_wp2
        go_ret
        exact ⟨by rw [HN.out]; rfl, HB.out⟩
       | true =>
        have HT2 : Hid ((dx.take (k + 1)).all patB = true) := by show _ = _; rw [HTK.out, HRR.out.1]; rfl
        clear HTK HNO
        go_wp2
        go_roundw
        case rel => exact ⟨k + 1, hlt, by go_num, HT2.out, HB.out, HD.out⟩
        case measure => simp [intOf]; omega
     · obtain rfl : k = dx.length := by omega
       have HB := Lib.hid HRR.out.2.1
       have HD := Lib.hid HRR.out.2.2
       have hbx1 : bx = true := by rw [HBX.out]; have h1 := HRR.out.1; rwa [List.take_length] at h1
       have HR1 := Lib.hid (HR.out.trans (by rw [hbx1]))
       clear HR HBX hbx1 hlt HX HRR HMP
       have HR := HR1
       clear HR1
       obtain ⟨wq, rfl⟩ : ∃ wq : World, wq = wr := ⟨_, rfl⟩
       obtain ⟨d0, d1, d2, d3, d4, d5, d6, d7⟩ := bxc8 HD.out
       have dl := HD.out.lt
       go_upto_region 13 with fail
       go_cut [9] from 37 to 52 (fun v wx => v = .bool sc ∧ wx = wq)
       case first =>
        by_cases h0 : 0 ≤ ds
        · by_cases h5 : ds ≤ 5
          · have HS : Hid (sc = true) := by show _ = _; rw [HSC.out]; cases m <;> simp <;> omega
            go_wp2
            go_meet
            case rel => exact ⟨by rw [HS.out], rfl⟩
          · cases m with
            | false =>
             have HS : Hid (sc = false) := by show _ = _; rw [HSC.out]; simp; omega
             go_wp2
             go_meet
             case rel => exact ⟨by rw [HS.out], rfl⟩
            | true =>
             by_cases h6 : ds = 6
             · have HS : Hid (sc = true) := by show _ = _; rw [HSC.out]; simp; omega
               have hk6 : (ds == 6) = true := by rw [h6]; rfl
               clear h6
               go_wp2
               go_meet
               case rel => exact ⟨by rw [HS.out], rfl⟩
             · have HS : Hid (sc = false) := by show _ = _; rw [HSC.out]; simp; omega
               have hk6 : (ds == 6) = false := beq_eq_false_iff_ne.2 h6
               go_wp2
               go_meet
               case rel => exact ⟨by rw [HS.out], rfl⟩
        · have HS : Hid (sc = false) := by show _ = _; rw [HSC.out]; simp; omega
          go_wp2
          go_meet
          case rel => exact ⟨by rw [HS.out], rfl⟩
       case rest =>
        obtain ⟨rfl, hwx⟩ := hcut
        subst hwx
        clear d0 d1 d2 d3 d4 d5 d6 d7 dl HSC
        obtain ⟨d0, d1, d2, d3, d4, d5, d6, d7⟩ := bxc8 HD.out
        have dl := HD.out.lt
        go_wp2_with fail
        refine (Hbg.out _).mono ?_
        rintro e w7 ⟨rfl, hb7⟩
        have HD1 := Lib.hid (HD.out.below hb7 HD.out.lt)
        have HB1 := Lib.hid (HB.out.trans (hb7.mono HB.out.size))
        clear d0 d1 d2 d3 d4 d5 d6 d7 dl hb7 HD HB Hbg
        have HD := HD1
        have HB := HB1
        clear HD1 HB1
        cases bg with
        | false =>
         obtain ⟨d0, d1, d2, d3, d4, d5, d6, d7⟩ := bxc8 HD.out
         have dl := HD.out.lt
         go_wp2
         go_ret
         exact ⟨by rw [HR.out]; simp, HB.out⟩
        | true =>
         obtain ⟨d0, d1, d2, d3, d4, d5, d6, d7⟩ := bxc8 HD.out
         have dl := HD.out.lt
         go_wp2_with fail
         refine (Hba.out _).mono ?_
         rintro e w7 ⟨rfl, hb7⟩
         have HD1 := Lib.hid (HD.out.below hb7 HD.out.lt)
         have HB1 := Lib.hid (HB.out.trans (hb7.mono HB.out.size))
         clear d0 d1 d2 d3 d4 d5 d6 d7 dl hb7 HD HB Hba
         have HD := HD1
         have HB := HB1
         clear HD1 HB1
         cases ba with
         | false =>
          obtain ⟨d0, d1, d2, d3, d4, d5, d6, d7⟩ := bxc8 HD.out
          have dl := HD.out.lt
          go_wp2
          go_ret
          exact ⟨by rw [HR.out]; simp, HB.out⟩
         | true =>
          cases sc with
          | false =>
           obtain ⟨d0, d1, d2, d3, d4, d5, d6, d7⟩ := bxc8 HD.out
           have dl := HD.out.lt
           go_wp2
           go_ret
           exact ⟨by rw [HR.out]; simp, HB.out⟩
          | true =>
           by_cases hq : 0 ≤ dp
           rotate_left
           · have hq1 : ¬ 0 ≤ dp := hq
             have HN : Hid (r = false) := by show _ = _; rw [HR.out, decide_eq_false hq]; simp
             clear hq
             obtain ⟨d0, d1, d2, d3, d4, d5, d6, d7⟩ := bxc8 HD.out
             have dl := HD.out.lt
             go_wp2
             go_ret
             refine ⟨?_, HB.out⟩
             rw [HN.out]
             first | rfl | exact ret_bool (decide_eq_false (by omega))
           have hq2 : 0 ≤ dp := hq
           have HR1 := Lib.hid (HR.out.trans (by rw [decide_eq_true hq]))
           clear HR hq
           have HR := HR1
           clear HR1
           by_cases hq : dp ≤ 2
           rotate_left
           · have hq1 : ¬ dp ≤ 2 := hq
             have HN : Hid (r = false) := by show _ = _; rw [HR.out, decide_eq_false hq]; simp
             clear hq
             obtain ⟨d0, d1, d2, d3, d4, d5, d6, d7⟩ := bxc8 HD.out
             have dl := HD.out.lt
             go_wp2
             go_ret
             refine ⟨?_, HB.out⟩
             rw [HN.out]
             first | rfl | exact ret_bool (decide_eq_false (by omega))
           have hq3 : dp ≤ 2 := hq
           have HR1 := Lib.hid (HR.out.trans (by rw [decide_eq_true hq]))
           clear HR hq
           have HR := HR1
           clear HR1
           by_cases hq : dx.length ≤ 1024
           rotate_left
           · have hq1 : ¬ (dx.length : Int) ≤ 1024 := by omega
             have HN : Hid (r = false) := by show _ = _; rw [HR.out, decide_eq_false hq]; simp
             clear hq
             obtain ⟨d0, d1, d2, d3, d4, d5, d6, d7⟩ := bxc8 HD.out
             have dl := HD.out.lt
             go_wp2
             go_ret
             refine ⟨?_, HB.out⟩
             rw [HN.out]
             first | rfl | exact ret_bool (decide_eq_false (by omega))
           have hq4 : (dx.length : Int) ≤ 1024 := by omega
           have HR1 := Lib.hid (HR.out.trans (by rw [decide_eq_true hq]))
           clear HR hq
           have HR := HR1
           clear HR1
           obtain ⟨d0, d1, d2, d3, d4, d5, d6, d7⟩ := bxc8 HD.out
           have dl := HD.out.lt
           go_wp2
           go_ret
           refine ⟨?_, HB.out⟩
           rw [HR.out]
           first | rfl | exact ret_bool (decide_eq_true hq4)

end Go.Proofs.YtbbbfjcikhpmbaaGreat

/- Walks: the properties and the lists of dependencies that may be, by pom; the conditions stand in the theorems. -/
namespace Go.Proofs.YtbbbfjcikhpmbaaGreat
open Go Go.RowKit

/-- Texts that are not too long. -/
structure DepSm (d : Dep) : Prop where
 own : ∀ s ∈ [d.group, d.artifact, d.version, d.type, d.classifier], s.size ≤ 1000000
 ex : ∀ y ∈ d.excl, y.group.size ≤ 1000000 ∧ y.artifact.size ≤ 1000000
/-- May these be properties, behind some? -/
def propsGo : List Prp → List Prp → Bool
 | [], _ => true
 | p :: r, d => (!hasN d p.name && (okName p.name.data.toList && okW p.value true)) && propsGo r (d ++ [p])
theorem propsGo_at {l : List Prp} {k : Nat} (h : k < l.length) : propsGo (l.drop k) (l.take k) = ((!hasN (l.take k) l[k].name && (okName l[k].name.data.toList && okW l[k].value true)) && propsGo (l.drop (k + 1)) (l.take (k + 1))) := by
 rw [List.drop_eq_getElem_cons h, propsGo, List.take_succ_eq_append_getElem h]
theorem SliceOf.takeQ {α : Type} {n : Nat} {C : α → List Value} {w : World} {ao : Option Addr} {len cap k : Nat} {l : List α} (h : SliceOf n C w (.slice ao len cap) l) (hk : k ≤ l.length) : SliceOf n C w (.slice ao k cap) (l.take k) := by
 obtain ⟨a, c, e, h2, h3, h4, h5⟩ := h
 simp only [Value.slice.injEq] at e
 obtain ⟨rfl, rfl, rfl⟩ := e
 have hl : (l.take k).length = k := by rw [List.length_take]; omega
 refine ⟨ao, cap, by rw [hl], by omega, h3, h4, fun i x hx => ?_⟩
 have hi : i < k := by have := (List.getElem?_eq_some_iff.1 hx).1; omega
 rw [List.getElem?_take, if_pos hi] at hx
 exact h5 i x hx
theorem prpHit2_any (p : Prp) (n : S) (q : Bool) (hq : (p.name.toList == n.toList) = q) (B : Nat) (w : World) (hB : B < w.heap.size) (h0 : w.cell? ⟨B, 0, none⟩ = some (.string n)) :
    Calls Tryz.prog 102 #[.agg #[.string p.name, .string p.value], .pointer (some ⟨B, 0, none⟩)] w fun e w' => e = .returned (.bool q) ∧ Below w.heap.size w w' := by
 have HB : Hid (∀ o, Below w.heap.size w (w.alloc o)) := fun o => (Below.refl _ w).alloc (Nat.le_refl _) _
 go_enter Tryz.func102, Tryz.ntmps102
 go_wp2
 go_ret
 exact ⟨rfl, HB.out _⟩
set_option maxRecDepth 100000 in
set_option maxHeartbeats 4000000 in
theorem indexP2_any (l : List Prp) (n : S) (v : Value) (B : Nat) (w : World) (hv : SliceOf 2 prpC w v l) (hB : w.cell? ⟨B, 0, none⟩ = some (.string n)) (hlt : B < w.heap.size) :
    Calls Tryz.prog 122 #[v, .func (.func 102) #[] #[.pointer (some ⟨B, 0, none⟩)]] w fun e w' => ∃ r : Int, e = .returned (.int .i64 r) ∧ ((r = -1 ∧ hasN l n = false) ∨ (0 ≤ r ∧ hasN l n = true)) ∧ Below w.heap.size w w' := by
 have hlm : l.length ≤ 9223372036854775807 := by obtain ⟨a, c, e, h2, h3, -⟩ := hv; exact Nat.le_trans h2 (Nat.le_trans h3 (by decide))
 obtain ⟨ao, ac, rfl⟩ := hv.shape
 have HV := Lib.hid hv
 have HBK := Lib.hid hB
 have HLT := Lib.hid hlt
 clear hv hB hlt
 go_enter Tryz.func122, Tryz.ntmps122
 go_wp2_with fail
 go_loopw [8] (fun iv wr => ∃ i : Nat, i ≤ l.length ∧ iv = .int .i64 i ∧ Hid (hasN (l.take i) n = false) ∧ Below w.heap.size w wr) (fun iv _ => l.length - (intOf iv).toNat)
 case atStart => exact ⟨0, Nat.zero_le _, rfl, rfl, Below.refl _ _⟩
 case round =>
  obtain ⟨i, hi, rfl, hn, hb⟩ := hrel
  have HBR := Lib.hid hb
  have hsr := hb.size
  by_cases hlt : i < l.length
  · have hltI : (i : Int) < (l.length : Int) := by omega
    obtain ⟨g, o, rfl, hg, c0, c1⟩ := (HV.out.below hb).prpAt hlt
    have HN := Lib.hid (hasN_take (n := n) hlt)
    have HM := Lib.hid (hasN_mem (n := n) hlt)
    obtain ⟨q, hq⟩ : ∃ q, q = (l[i].name.toList == n.toList) := ⟨_, rfl⟩
    have HCC := Lib.hid (prpHit2_any l[i] n q hq.symm B wr (Nat.lt_of_lt_of_le HLT.out hsr) ((hb.cell (p := ⟨B, 0, none⟩) HLT.out).trans HBK.out))
    rw [← hq] at HN HM
    clear hb hq
    cases q with
    | true =>
     have HT : Hid (hasN l n = true) := HM.out (by trivial)
     clear HN HM hn
     go_wp2_with fail
     refine HCC.out.mono ?_
     rintro e w2 ⟨rfl, hb2⟩
     have HB2 := Lib.hid (HBR.out.trans (hb2.mono hsr))
     clear hb2 c0 c1
     go_wp2
     go_ret
     exact ⟨_, rfl, .inr ⟨by omega, HT.out⟩, HB2.out⟩
    | false =>
     have HF : Hid (hasN (l.take (i + 1)) n = false) := by show _ = _; rw [HN.out, hn.out]; rfl
     clear HN HM hn
     go_wp2_with fail
     refine HCC.out.mono ?_
     rintro e w2 ⟨rfl, hb2⟩
     have HB2 := Lib.hid (HBR.out.trans (hb2.mono hsr))
     clear hb2 c0 c1
     go_wp2
     go_roundw
     case rel => exact ⟨i + 1, hlt, by go_num, HF.out, HB2.out⟩
     case measure => simp [intOf]; omega
  · obtain rfl : i = l.length := by omega
    have HR : Hid (hasN l n = false) := by have := hn.out; rwa [List.take_length] at this
    clear hlt hb hn
    go_wp2
    go_ret
    exact ⟨_, rfl, .inl ⟨rfl, HR.out⟩, HBR.out⟩
set_option maxHeartbeats 1000000 in
theorem containsP2_any (l : List Prp) (n : S) (v : Value) (B : Nat) (w : World) (hv : SliceOf 2 prpC w v l) (hB : w.cell? ⟨B, 0, none⟩ = some (.string n)) (hlt : B < w.heap.size) :
    Calls Tryz.prog 88 #[v, .func (.func 102) #[] #[.pointer (some ⟨B, 0, none⟩)]] w fun e w' => e = .returned (.bool (hasN l n)) ∧ Below w.heap.size w w' := by
 have HI := Lib.hid (indexP2_any l n v B w hv hB hlt)
 generalize hasN l n = q at *
 obtain ⟨ao, ac, rfl⟩ := hv.shape
 clear hv hB hlt
 go_enter Tryz.func88, Tryz.ntmps88
 go_wp2_with fail
 refine HI.out.mono ?_
 rintro e w2 ⟨r, rfl, hr, hb2⟩
 have HB2 := Lib.hid hb2
 clear hb2 HI
 rcases hr with ⟨rfl, hh⟩ | ⟨h0, hh⟩
 · subst hh
   go_wp2
   go_ret
   exact ⟨rfl, HB2.out⟩
 · subst hh
   go_wp2
   go_ret
   exact ⟨rfl, HB2.out⟩
set_option maxRecDepth 100000 in
set_option maxHeartbeats 4000000 in
theorem isDepsQ_any (m : Bool) (ds : List Dep) (v : Value) (w : World) (hv : DepsOf w v ds) (hs : ∀ d ∈ ds, DepSm d) :
    Calls Tryz.prog 69 #[v, .bool m] w fun e w' => e = .returned (.bool (ds.all (mayD (if m then 6 else 5)) && decide (ds.length ≤ 1024))) ∧ Below w.heap.size w w' := by
 obtain ⟨l, hel, hl, hlo⟩ := hv
 obtain ⟨r, hr⟩ : ∃ r, r = (ds.all (mayD (if m then 6 else 5)) && decide (ds.length ≤ 1024)) := ⟨_, rfl⟩
 have HR : Hid (r = (l.all (fun q => mayD (if m then 6 else 5) q.1) && decide (l.length ≤ 1024))) := by show _ = _; rw [hr, ← hel, List.all_map, List.length_map]; rfl
 have HSM : Hid (∀ q ∈ l, DepSm q.1) := fun q hq => hs _ (by rw [← hel]; exact List.mem_map.2 ⟨q, hq, rfl⟩)
 rw [← hr]
 have hll : l.length ≤ 9223372036854775807 := by obtain ⟨a, c, e, h2, h3, -⟩ := hl; exact Nat.le_trans h2 (Nat.le_trans h3 (by decide))
 obtain ⟨ao, cap, rfl⟩ := hl.shape
 have HX := Lib.hid hl
 have HXO := Lib.hid hlo
 clear hr hel hl hlo hs
 go_enter Tryz.func69, Tryz.ntmps69
 go_wp2
 go_loopw [9] (fun i wr => ∃ k : Nat, k ≤ l.length ∧ i = .int .i64 k ∧ Hid ((l.take k).all (fun q => mayD (if m then 6 else 5) q.1) = true ∧ Below w.heap.size w wr)) (fun i _ => l.length - (intOf i).toNat)
 case atStart => exact ⟨0, Nat.zero_le _, rfl, rfl, Below.refl _ _⟩
 case round =>
  obtain ⟨k, hk, rfl, HRR⟩ := hrel
  by_cases hlt : k < l.length
  · have HTK := Lib.hid (all_take2 (p := fun q : Dep × Value => mayD (if m then 6 else 5) q.1) hlt)
    have HNO := Lib.hid (fun h => all_no2 (p := fun q : Dep × Value => mayD (if m then 6 else 5) q.1) hlt h)
    have HSK := Lib.hid (HSM.out l[k] (List.getElem_mem hlt))
    have hok := (HXO.out l[k] (List.getElem_mem hlt)).below HRR.out.2
    obtain ⟨g, o, rfl, hg, c0, c1, c2, c3, c4, c5, c6, c7⟩ := (HX.out.below HRR.out.2).atDep hlt
    have hsr := HRR.out.2.size
    generalize l[k] = q at *
    obtain ⟨qd, qx⟩ := q
    obtain ⟨xo, xc, rfl⟩ := hok.shape
    simp only at c0 c1 c2 c3 c4 c5 c6 c7
    have HOK : Hid (SliceOf 2 idC wr (.slice xo qd.excl.length xc) qd.excl) := hok
    clear hok
    go_upto_region 4 with fail
    refine wp_world ?_
    intro W4 hW4
    have x4 : Box W4 wr.heap.size [.string qd.group, .string qd.artifact, .string qd.version, .string qd.type, .string qd.classifier, .int .i64 qd.scope, .int .i64 qd.opt, .slice xo qd.excl.length xc] := by rw [hW4]; exact Box.new wr [.string qd.group, .string qd.artifact, .string qd.version, .string qd.type, .string qd.classifier, .int .i64 qd.scope, .int .i64 qd.opt, .slice xo qd.excl.length xc] _ _ rfl
    have hb4 : Below wr.heap.size wr W4 := by rw [hW4]; exact (Below.refl _ _).alloc (Nat.le_refl _) _
    clear hW4 c0 c1 c2 c3 c4 c5 c6 c7
    obtain ⟨a0, a1, a2, a3, a4, a5, a6, a7⟩ := bxc8 x4
    have al := x4.lt
    have HB4 := Lib.hid (HRR.out.2.trans (hb4.mono hsr))
    have HDM : Hid (Calls Tryz.prog 104 #[.agg #[.string qd.group, .string qd.artifact, .string qd.version, .string qd.type, .string qd.classifier, .int .i64 qd.scope, .int .i64 qd.opt, .slice xo qd.excl.length xc], .bool m] W4 fun e w' => e = .returned (.bool (mayD (if m then 6 else 5) qd)) ∧ Below W4.heap.size W4 w') := isDepQ_any qd (.slice xo qd.excl.length xc) m W4 (HOK.out.below hb4) HSK.out.own HSK.out.ex
    clear x4 hb4 HOK
    obtain ⟨b, hb⟩ : ∃ b, b = mayD (if m then 6 else 5) qd := ⟨_, rfl⟩
    rw [← hb] at HDM
    have HBQ := Lib.hid hb
    clear hb
    go_wp2_with fail
    refine HDM.out.mono ?_
    rintro e w7 ⟨rfl, hb7⟩
    have HB := Lib.hid (HB4.out.trans (hb7.mono HB4.out.size))
    clear a0 a1 a2 a3 a4 a5 a6 a7 al hb7 HDM HB4
    cases b with
    | false =>
     have HN : Hid (r = false) := by show _ = _; rw [HR.out, HNO.out HBQ.out.symm]; rfl
     clear HTK HNO
     go_wp2
     go_ret
     exact ⟨by rw [HN.out]; rfl, HB.out⟩
    | true =>
     have HT2 : Hid ((l.take (k + 1)).all (fun q => mayD (if m then 6 else 5) q.1) = true) := by show _ = _; rw [HTK.out, HRR.out.1]; exact HBQ.out.symm
     clear HTK HNO
     go_wp2
     go_roundw
     case rel => exact ⟨k + 1, hlt, by go_num, HT2.out, HB.out⟩
     case measure => simp [intOf]; omega
  · obtain rfl : k = l.length := by omega
    have HB := Lib.hid HRR.out.2
    have h1 := HRR.out.1
    rw [List.take_length] at h1
    have HN : Hid (r = decide (l.length ≤ 1024)) := by show _ = _; rw [HR.out, h1]; rfl
    clear hlt HRR h1
    by_cases hq : l.length ≤ 1024
    · have hI : (l.length : Int) ≤ 1024 := by omega
      have HN2 : Hid (r = true) := by show _ = _; rw [HN.out]; exact decide_eq_true hq
      go_wp2
      go_ret
      refine ⟨?_, HB.out⟩
      rw [HN2.out]
      first | rfl | exact ret_bool (decide_eq_true (by omega))
    · have hI : ¬ (l.length : Int) ≤ 1024 := by omega
      have HN2 : Hid (r = false) := by show _ = _; rw [HN.out]; exact decide_eq_false hq
      go_wp2
      go_ret
      refine ⟨?_, HB.out⟩
      rw [HN2.out]
      first | rfl | exact ret_bool (decide_eq_false (by omega))
set_option maxRecDepth 100000 in
set_option maxHeartbeats 4000000 in
theorem isPropsQ_any (l : List Prp) (v : Value) (w : World) (hv : SliceOf 2 prpC w v l) (hs : ∀ y ∈ l, y.name.size ≤ 1000000 ∧ y.value.size ≤ 1000000) :
    Calls Tryz.prog 68 #[v] w fun e w' => e = .returned (.bool (propsGo l [] && decide (l.length ≤ 1024))) ∧ Below w.heap.size w w' := by
 obtain ⟨r, hr⟩ : ∃ r, r = (propsGo l [] && decide (l.length ≤ 1024)) := ⟨_, rfl⟩
 have HR : Hid (r = (propsGo l [] && decide (l.length ≤ 1024))) := hr
 rw [← hr]
 have hll : l.length ≤ 9223372036854775807 := by obtain ⟨a, c, e, h2, h3, -⟩ := hv; exact Nat.le_trans h2 (Nat.le_trans h3 (by decide))
 obtain ⟨ao, cap, rfl⟩ := hv.shape
 have hcap : l.length ≤ cap ∧ cap ≤ 9223372036854775807 := by obtain ⟨a, c, e, h2, h3, -⟩ := hv; simp only [Value.slice.injEq] at e; obtain ⟨-, -, rfl⟩ := e; exact ⟨h2, h3⟩
 have HX := Lib.hid hv
 have HSS := Lib.hid hs
 clear hr hv hs
 go_enter Tryz.func68, Tryz.ntmps68
 go_wp2
 go_loopw [8] (fun i wr => ∃ k : Nat, k ≤ l.length ∧ i = .int .i64 k ∧ Hid (propsGo l [] = propsGo (l.drop k) (l.take k) ∧ Below w.heap.size w wr)) (fun i _ => l.length - (intOf i).toNat)
 case atStart => exact ⟨0, Nat.zero_le _, rfl, rfl, Below.refl _ _⟩
 case round =>
  obtain ⟨k, hk, rfl, HRR⟩ := hrel
  by_cases hlt : k < l.length
  · have HGO := Lib.hid (HRR.out.1.trans (propsGo_at hlt))
    have HSK := Lib.hid (HSS.out l[k] (List.getElem_mem hlt))
    obtain ⟨g, o, rfl, hg, c0, c1⟩ := (HX.out.below HRR.out.2).atPrp hlt
    have hsr := HRR.out.2.size
    have HST := Lib.hid ((HX.out.below HRR.out.2).takeQ (show k ≤ l.length by omega))
    have HLT : Hid (k < l.length) := hlt
    generalize l[k] = q at *
    obtain ⟨nm, vl⟩ := q
    simp only at c0 c1 HGO
    have hki : (k : Int) ≤ (cap : Int) := by omega
    have hkc : k ≤ cap := by omega
    have hk0 : (0 : Int) ≤ (k : Int) := by omega
    go_upto_region 4 with fail
    refine wp_world ?_
    intro W4 hW4
    have x4 : Box W4 wr.heap.size [.string nm, .string vl] := by rw [hW4]; exact Box.new wr [.string nm, .string vl] _ _ rfl
    have hb4 : Below wr.heap.size wr W4 := by rw [hW4]; exact (Below.refl _ _).alloc (Nat.le_refl _) _
    clear hW4 c0 c1
    have HY := Lib.hid x4
    have HB4 := Lib.hid (HRR.out.2.trans (hb4.mono hsr))
    obtain ⟨dup, hdup⟩ : ∃ b, b = hasN (l.take k) nm := ⟨_, rfl⟩
    have HCP : Hid (Calls Tryz.prog 88 #[.slice (some ⟨g, o, none⟩) k cap, .func (.func 102) #[] #[.pointer (some ⟨wr.heap.size, 0, none⟩)]] W4 fun e w' => e = .returned (.bool dup) ∧ Below W4.heap.size W4 w') := by
     rw [hdup]
     exact containsP2_any (l.take k) nm (.slice (some ⟨g, o, none⟩) k cap) wr.heap.size W4 (HST.out.below hb4) (x4.cell 0 _ rfl) x4.lt
    rw [← hdup] at HGO
    clear x4 hb4 hdup HST
    go_wp2_with fail
    refine HCP.out.mono ?_
    rintro e w5 ⟨rfl, hb5⟩
    have HY5 := Lib.hid (HY.out.below hb5 HY.out.lt)
    have HB5 := Lib.hid (HB4.out.trans (hb5.mono HB4.out.size))
    clear hb5 HCP HY HB4
    have a0 := HY5.out.cell 0 _ rfl
    have a1 := HY5.out.cell 1 _ rfl
    have al := HY5.out.lt
    have HDR : Hid (∀ n, Below w.heap.size w (w5.drewN n)) := fun n => belowN HB5.out n
    cases dup with
    | true =>
     have HN : Hid (r = false) := by show _ = _; rw [HR.out, HGO.out]; rfl
     clear HGO
     go_wp2
     go_quiet (fail)
     go_wp2
     go_ret
     exact ⟨by rw [HN.out]; rfl, HDR.out _⟩
    | false =>
     have hE0 := empty_data nm
     by_cases hz : nm.size = 0
     · have hE : nm.toList.isEmpty = true := by rw [hE0]; simpa using hz
       have HN : Hid (r = false) := by
        show _ = _
        have hd : nm.data.toList = [] := List.eq_nil_of_length_eq_zero (by rw [size_data, hz])
        rw [HR.out, HGO.out, hd]; rfl
       clear HGO hE0 hz
       go_wp2
       go_quiet (fail)
       go_wp2
       go_ret
       exact ⟨by rw [HN.out]; rfl, HDR.out _⟩
     · have hE : nm.toList.isEmpty = false := by rw [hE0]; simpa using hz
       have HOK : Hid (okName nm.data.toList = decide (nameLen nm.data.toList = nm.size)) := by
        show _ = _
        have hd : nm.data.toList.isEmpty = false := by
         cases h : nm.data.toList with
         | nil => have := size_data nm; rw [h] at this; exact absurd this.symm hz
         | cons a b => rfl
        unfold okName
        rw [hd, size_data]; rfl
       have HNM := Lib.hid (fun W => name_any nm W (by have h2 : nm.size ≤ 1000000 := HSK.out.1; omega))
       have HTX := Lib.hid (fun W => isTextQ_any vl true W HSK.out.2)
       clear hE0 hz
       generalize nameLen nm.data.toList = nl at *
       by_cases hn : nl = nm.size
       · have hb : ((nl : Int) == (nm.size : Int)) = true := by rw [hn]; simp
         have hb2 : ((nl : Int) != (nm.size : Int)) = false := by rw [bne, hb]; rfl
         rw [HOK.out, decide_eq_true hn] at HGO
         clear hn HOK
         obtain ⟨tx, htx⟩ : ∃ b, b = okW vl true := ⟨_, rfl⟩
         rw [← htx] at HTX HGO
         clear htx
         go_wp2
         go_region_held3 (fun w' => w'.cell? ⟨wr.heap.size, 0, none⟩ = some (.string nm) ∧ w'.cell? ⟨wr.heap.size, 1, none⟩ = some (.string vl)) (first | exact ⟨a0, a1⟩ | exact ⟨b0, b1⟩ | (go_keep; done)) (first | (go_at_call 103; refine (HNM.out _).mono ?_; rintro e w6 ⟨rfl, rfl⟩) | (go_at_call 67; refine (HTX.out _).mono ?_; rintro e w7 ⟨rfl, hb7⟩; have HB7 := Lib.hid ((HDR.out 1).trans (hb7.mono (HDR.out 1).size)); have hy7 : Box w5.drew wr.heap.size [.string nm, .string vl] := ⟨HY5.out.lt, HY5.out.cell, HY5.out.free⟩; have hy8 := hy7.below hb7 hy7.lt; have b0 := hy8.cell 0 _ rfl; have b1 := hy8.cell 1 _ rfl; clear hy7 hy8 hb7))
         cases tx with
         | false =>
          have HN : Hid (r = false) := by show _ = _; rw [HR.out, HGO.out]; rfl
          clear HGO
          go_wp2
          go_ret
          exact ⟨by rw [HN.out]; rfl, HB7.out⟩
         | true =>
          go_wp2
          go_roundw
          case rel => exact ⟨k + 1, HLT.out, by go_num, by rw [HGO.out]; rfl, HB7.out⟩
          case measure => simp [intOf]; have := HLT.out; omega
       · have hb : ((nl : Int) == (nm.size : Int)) = false := beq_eq_false_iff_ne.2 (by omega)
         have hb2 : ((nl : Int) != (nm.size : Int)) = true := by rw [bne, hb]; rfl
         have hb3 : (nl == nm.size) = false := beq_eq_false_iff_ne.2 hn
         have hb4 : (nl != nm.size) = true := by rw [bne, hb3]; rfl
         rw [HOK.out, decide_eq_false hn] at HGO
         have HN : Hid (r = false) := by show _ = _; rw [HR.out, HGO.out]; rfl
         clear hn HOK HGO HTX
         go_wp2
         go_quiet ((go_at_call 103; exact quietS (HNM.out _)))
         go_wp2
         go_ret
         exact ⟨by rw [HN.out]; rfl, HDR.out _⟩
  · obtain rfl : k = l.length := by omega
    have HB := Lib.hid HRR.out.2
    have HN : Hid (r = decide (l.length ≤ 1024)) := by show _ = _; rw [HR.out, HRR.out.1, List.drop_length]; rfl
    clear hlt HRR
    by_cases hq : l.length ≤ 1024
    · have hI : (l.length : Int) ≤ 1024 := by omega
      have HN2 : Hid (r = true) := by show _ = _; rw [HN.out]; exact decide_eq_true hq
      go_wp2
      go_ret
      refine ⟨?_, HB.out⟩
      rw [HN2.out]
      first | rfl | exact ret_bool (decide_eq_true (by omega))
    · have hI : ¬ (l.length : Int) ≤ 1024 := by omega
      have HN2 : Hid (r = false) := by show _ = _; rw [HN.out]; exact decide_eq_false hq
      go_wp2
      go_ret
      refine ⟨?_, HB.out⟩
      rw [HN2.out]
      first | rfl | exact ret_bool (decide_eq_false (by omega))

end Go.Proofs.YtbbbfjcikhpmbaaGreat
