/- Walks: may it be a dependency, by pom and by the document; the conditions stand in the theorems. -/
import Derived.Test.YtbbbfjcikhpmbaaGreatJB21
import Derived.Test.YtbbbfjcikhpmbaaGreatJB19
import Derived.Deep.CutRange
namespace Go.Proofs.YtbbbfjcikhpmbaaGreat
open Go Go.RowKit

def patB (x : Id) : Bool := isPartS x.group && isPartS x.artifact
/-- May it be a dependency, of a scope up to most? -/
def mayD (most : Int) (d : Dep) : Bool := okW d.version true && (okW d.type true && (okW d.classifier true && (d.excl.all patB && (okW d.group false && (okW d.artifact false && (decide (0 ≤ d.scope) && (decide (d.scope ≤ most) && (decide (0 ≤ d.opt) && (decide (d.opt ≤ 2) && decide (d.excl.length ≤ 1024))))))))))
theorem all_take2 {α : Type} {p : α → Bool} {l : List α} {k : Nat} (h : k < l.length) : (l.take (k + 1)).all p = ((l.take k).all p && p l[k]) := by
  rw [List.take_succ_eq_append_getElem h, List.all_append]; simp
theorem all_no2 {α : Type} {p : α → Bool} {l : List α} {k : Nat} (h : k < l.length) (hp : p l[k] = false) : l.all p = false := by
  rw [Bool.eq_false_iff]
  intro e
  rw [List.all_eq_true] at e
  rw [e _ (List.getElem_mem h)] at hp
  cases hp
set_option maxRecDepth 100000 in
set_option maxHeartbeats 8000000 in
theorem mayDepD_any (d : Dep) (ex : Value) (most : Int) (w : World) (hx : SliceOf 2 idC w ex d.excl) (hs : ∀ s ∈ [d.group, d.artifact, d.version, d.type, d.classifier], s.size ≤ 1000000) (hxs : ∀ y ∈ d.excl, y.group.size ≤ 1000000 ∧ y.artifact.size ≤ 1000000) :
    Calls Tryz.prog 63 #[.agg (depC (d, ex)).toArray, .int .i64 most] w fun e w' => e = .returned (.bool (mayD most d)) ∧ Below w.heap.size w w' := by
  obtain ⟨r, hr⟩ : ∃ r, r = mayD most d := ⟨_, rfl⟩
  have HR0 : Hid (r = mayD most d) := hr
  rw [← hr]
  clear hr
  obtain ⟨dg, da, dv, dt, dc, ds, dp, dx⟩ := d
  simp only [depC]
  simp only at hx hs hxs
  have hlx : dx.length ≤ 9223372036854775807 := by obtain ⟨a, c, e, h2, h3, -⟩ := hx; exact Nat.le_trans h2 (Nat.le_trans h3 (by decide))
  obtain ⟨xo, xc, rfl⟩ := hx.shape
  have HX := Lib.hid hx
  have HXS := Lib.hid hxs
  obtain ⟨bv, hbv⟩ : ∃ b, b = okW dv true := ⟨_, rfl⟩
  obtain ⟨bt, hbt⟩ : ∃ b, b = okW dt true := ⟨_, rfl⟩
  obtain ⟨bc, hbc⟩ : ∃ b, b = okW dc true := ⟨_, rfl⟩
  obtain ⟨bg, hbg⟩ : ∃ b, b = okW dg false := ⟨_, rfl⟩
  obtain ⟨ba, hba⟩ : ∃ b, b = okW da false := ⟨_, rfl⟩
  obtain ⟨bx, hbx⟩ : ∃ b, b = dx.all patB := ⟨_, rfl⟩
  have HBX := Lib.hid hbx
  have Hbv : Hid (∀ W, Calls Tryz.prog 61 #[.string dv, .bool true] W fun e w' => e = .returned (.bool bv) ∧ Below W.heap.size W w') := fun W => by rw [hbv]; exact plainD_any dv true W (hs _ (by simp))
  have Hbt : Hid (∀ W, Calls Tryz.prog 61 #[.string dt, .bool true] W fun e w' => e = .returned (.bool bt) ∧ Below W.heap.size W w') := fun W => by rw [hbt]; exact plainD_any dt true W (hs _ (by simp))
  have Hbc : Hid (∀ W, Calls Tryz.prog 61 #[.string dc, .bool true] W fun e w' => e = .returned (.bool bc) ∧ Below W.heap.size W w') := fun W => by rw [hbc]; exact plainD_any dc true W (hs _ (by simp))
  have Hbg : Hid (∀ W, Calls Tryz.prog 61 #[.string dg, .bool false] W fun e w' => e = .returned (.bool bg) ∧ Below W.heap.size W w') := fun W => by rw [hbg]; exact plainD_any dg false W (hs _ (by simp))
  have Hba : Hid (∀ W, Calls Tryz.prog 61 #[.string da, .bool false] W fun e w' => e = .returned (.bool ba) ∧ Below W.heap.size W w') := fun W => by rw [hba]; exact plainD_any da false W (hs _ (by simp))
  have HR : Hid (r = (bv && (bt && (bc && (bx && (bg && (ba && (decide (0 ≤ ds) && (decide (ds ≤ most) && (decide (0 ≤ dp) && (decide (dp ≤ 2) && decide (dx.length ≤ 1024)))))))))))) := by show _ = _; rw [HR0.out, hbv, hbt, hbc, hbg, hba, hbx]; rfl
  clear hbv hbt hbc hbg hba hbx HR0 hx hs hxs
  go_enter Tryz.func63, Tryz.ntmps63
  go_upto_region 1 with fail
  refine wp_world ?_
  intro W hW
  have x2 : Box W w.heap.size [.string dg, .string da, .string dv, .string dt, .string dc, .int .i64 ds, .int .i64 dp, .slice xo dx.length xc] := by rw [hW]; exact Box.new w [.string dg, .string da, .string dv, .string dt, .string dc, .int .i64 ds, .int .i64 dp, .slice xo dx.length xc] _ _ rfl
  have hb2 : Below w.heap.size w W := by rw [hW]; exact (Below.refl _ _).alloc (Nat.le_refl _) _
  clear hW
  have HD0 := Lib.hid x2
  have HB0 := Lib.hid hb2
  clear x2 hb2
  have d7 := HD0.out.cell 7 _ rfl
  have dl := HD0.out.lt
  go_wp2
  clear d7 dl
  go_loopw [10] (fun i wr => ∃ k : Nat, k ≤ dx.length ∧ i = .int .i64 k ∧ Hid ((dx.take k).all patB = true ∧ Below w.heap.size w wr ∧ Box wr w.heap.size [.string dg, .string da, .string dv, .string dt, .string dc, .int .i64 ds, .int .i64 dp, .slice xo dx.length xc])) (fun i _ => dx.length - (intOf i).toNat)
  case atStart => exact ⟨0, Nat.zero_le _, rfl, rfl, HB0.out, HD0.out⟩
  case round =>
    obtain ⟨k, hk, rfl, HRR⟩ := hrel
    clear HD0 HB0
    by_cases hlt : k < dx.length
    · have HTK := Lib.hid (all_take2 (p := patB) hlt)
      have HNO := Lib.hid (fun h => all_no2 (p := patB) hlt h)
      have HYS := Lib.hid (HXS.out dx[k] (List.getElem_mem hlt))
      obtain ⟨g, o, rfl, hg, c0, c1⟩ := (HX.out.below HRR.out.2.1).atId hlt
      have hsr := HRR.out.2.1.size
      generalize dx[k] = y at *
      obtain ⟨y1, y2⟩ := y
      simp only at c0 c1
      have HI1 : Hid (∀ W, Calls Tryz.prog 92 #[.string y1] W fun e w' => e = .returned (.bool (isIdB y1)) ∧ Below W.heap.size W w') := fun W => (refIsId_any y1 W (by have := HYS.out.1; simp only at this; omega)).mono fun _ _ ⟨h1, h2⟩ => ⟨h1, by rw [← h2]; exact Below.refl _ _⟩
      have HI2 : Hid (∀ W, Calls Tryz.prog 92 #[.string y2] W fun e w' => e = .returned (.bool (isIdB y2)) ∧ Below W.heap.size W w') := fun W => (refIsId_any y2 W (by have := HYS.out.2; simp only at this; omega)).mono fun _ _ ⟨h1, h2⟩ => ⟨h1, by rw [← h2]; exact Below.refl _ _⟩
      have HPB : Hid (patB ⟨y1, y2⟩ = (((y1.toList == [42]) || isIdB y1) && ((y2.toList == [42]) || isIdB y2))) := rfl
      obtain ⟨i1, hi1⟩ : ∃ i, i = isIdB y1 := ⟨_, rfl⟩
      obtain ⟨i2, hi2⟩ : ∃ i, i = isIdB y2 := ⟨_, rfl⟩
      rw [← hi1] at HI1 HPB
      rw [← hi2] at HI2 HPB
      obtain ⟨s1, hs1⟩ : ∃ i, i = (y1.toList == [42]) := ⟨_, rfl⟩
      obtain ⟨s2, hs2⟩ : ∃ i, i = (y2.toList == [42]) := ⟨_, rfl⟩
      rw [← hs1, ← hs2] at HPB
      have k1 : (y1.toList == [42]) = s1 := hs1.symm
      have k2 : (y2.toList == [42]) = s2 := hs2.symm
      clear hi1 hi2 hs1 hs2 HYS
      go_upto_region 4 with fail
      refine wp_world ?_
      intro W4 hW4
      have x4 : Box W4 wr.heap.size [.string y1, .string y2] := by rw [hW4]; exact Box.new wr [.string y1, .string y2] _ _ rfl
      have hb4 : Below wr.heap.size wr W4 := by rw [hW4]; exact (Below.refl _ _).alloc (Nat.le_refl _) _
      clear hW4 c0 c1
      have HY := Lib.hid x4
      have HB := Lib.hid (HRR.out.2.1.trans (hb4.mono hsr))
      have HD := Lib.hid (HRR.out.2.2.below (hb4) HRR.out.2.2.lt)
      clear x4 hb4
      have a0 := HY.out.cell 0 _ rfl
      have a1 := HY.out.cell 1 _ rfl
      have al := HY.out.lt
      cases s1 with
      | true =>
        cases s2 with
        | true =>
          have HT2 : Hid ((dx.take (k + 1)).all patB = true) := by show _ = _; rw [HTK.out, HRR.out.1, HPB.out]; rfl
          clear HTK HNO HPB
          go_wp2
          go_roundw
          case rel => exact ⟨k + 1, hlt, by go_num, HT2.out, HB.out, HD.out⟩
          case measure => simp [intOf]; omega
        | false =>
          go_wp2_with fail
          refine (HI2.out _).mono ?_
          rintro e w8 ⟨rfl, hb7⟩
          have HY1 := Lib.hid (HY.out.below hb7 HY.out.lt)
          have HD1 := Lib.hid (HD.out.below hb7 HD.out.lt)
          have HB1 := Lib.hid (HB.out.trans (hb7.mono HB.out.size))
          clear a0 a1 al hb7 HD HB HY
          have HD := HD1
          have HB := HB1
          have HY := HY1
          clear HD1 HB1 HY1
          have a0 := HY.out.cell 0 _ rfl
          have a1 := HY.out.cell 1 _ rfl
          have al := HY.out.lt
          cases i2 with
          | false =>
            have HN : Hid (r = false) := by
              show _ = _
              rw [HR.out, HBX.out, HNO.out (by rw [HPB.out]; simp)]
              simp
            clear HTK HNO HPB
            go_wp2
            go_ret
            exact ⟨by rw [HN.out]; rfl, HB.out⟩
          | true =>
            have HT2 : Hid ((dx.take (k + 1)).all patB = true) := by show _ = _; rw [HTK.out, HRR.out.1, HPB.out]; rfl
            clear HTK HNO HPB
            go_wp2
            go_roundw
            case rel => exact ⟨k + 1, hlt, by go_num, HT2.out, HB.out, HD.out⟩
            case measure => simp [intOf]; omega
      | false =>
        go_wp2_with fail
        refine (HI1.out _).mono ?_
        rintro e w7 ⟨rfl, hb7⟩
        have HY1 := Lib.hid (HY.out.below hb7 HY.out.lt)
        have HD1 := Lib.hid (HD.out.below hb7 HD.out.lt)
        have HB1 := Lib.hid (HB.out.trans (hb7.mono HB.out.size))
        clear a0 a1 al hb7 HD HB HY
        have HD := HD1
        have HB := HB1
        have HY := HY1
        clear HD1 HB1 HY1
        have a0 := HY.out.cell 0 _ rfl
        have a1 := HY.out.cell 1 _ rfl
        have al := HY.out.lt
        cases i1 with
        | false =>
          have HN : Hid (r = false) := by
            show _ = _
            rw [HR.out, HBX.out, HNO.out (by rw [HPB.out]; simp)]
            simp
          clear HTK HNO HPB
          go_wp2
          go_ret
          exact ⟨by rw [HN.out]; rfl, HB.out⟩
        | true =>
          cases s2 with
          | true =>
            have HT2 : Hid ((dx.take (k + 1)).all patB = true) := by show _ = _; rw [HTK.out, HRR.out.1, HPB.out]; rfl
            clear HTK HNO HPB
            go_wp2
            go_roundw
            case rel => exact ⟨k + 1, hlt, by go_num, HT2.out, HB.out, HD.out⟩
            case measure => simp [intOf]; omega
          | false =>
            go_wp2_with fail
            refine (HI2.out _).mono ?_
            rintro e w8 ⟨rfl, hb7⟩
            have HY1 := Lib.hid (HY.out.below hb7 HY.out.lt)
            have HD1 := Lib.hid (HD.out.below hb7 HD.out.lt)
            have HB1 := Lib.hid (HB.out.trans (hb7.mono HB.out.size))
            clear a0 a1 al hb7 HD HB HY
            have HD := HD1
            have HB := HB1
            have HY := HY1
            clear HD1 HB1 HY1
            have a0 := HY.out.cell 0 _ rfl
            have a1 := HY.out.cell 1 _ rfl
            have al := HY.out.lt
            cases i2 with
            | false =>
              have HN : Hid (r = false) := by
                show _ = _
                rw [HR.out, HBX.out, HNO.out (by rw [HPB.out]; simp)]
                simp
              clear HTK HNO HPB
              go_wp2
              go_ret
              exact ⟨by rw [HN.out]; rfl, HB.out⟩
            | true =>
              have HT2 : Hid ((dx.take (k + 1)).all patB = true) := by show _ = _; rw [HTK.out, HRR.out.1, HPB.out]; rfl
              clear HTK HNO HPB
              go_wp2
              go_roundw
              case rel => exact ⟨k + 1, hlt, by go_num, HT2.out, HB.out, HD.out⟩
              case measure => simp [intOf]; omega
    · obtain rfl : k = dx.length := by omega
      have HB := Lib.hid HRR.out.2.1
      have HD := Lib.hid HRR.out.2.2
      have hbx1 : bx = true := by rw [HBX.out]; have h1 := HRR.out.1; rwa [List.take_length] at h1
      have HR1 := Lib.hid (HR.out.trans (by rw [hbx1]))
      clear HR HBX hbx1 hlt HX HXS HRR
      have HR := HR1
      clear HR1
      have d0 := HD.out.cell 0 _ rfl
      have d1 := HD.out.cell 1 _ rfl
      have d2 := HD.out.cell 2 _ rfl
      have d3 := HD.out.cell 3 _ rfl
      have d4 := HD.out.cell 4 _ rfl
      have d5 := HD.out.cell 5 _ rfl
      have d6 := HD.out.cell 6 _ rfl
      have d7 := HD.out.cell 7 _ rfl
      have dl := HD.out.lt
      go_wp2_with fail
      refine (Hbg.out _).mono ?_
      rintro e w7 ⟨rfl, hb7⟩
      have HD1 := Lib.hid (HD.out.below hb7 HD.out.lt)
      have HB1 := Lib.hid (HB.out.trans (hb7.mono HB.out.size))
      clear d0 d1 d2 d3 d4 d5 d6 d7 dl hb7 HD HB Hbg
      have HD := HD1
      have HB := HB1
      clear HD1 HB1
      cases bg with
      | false =>
        have d0 := HD.out.cell 0 _ rfl
        have d1 := HD.out.cell 1 _ rfl
        have d2 := HD.out.cell 2 _ rfl
        have d3 := HD.out.cell 3 _ rfl
        have d4 := HD.out.cell 4 _ rfl
        have d5 := HD.out.cell 5 _ rfl
        have d6 := HD.out.cell 6 _ rfl
        have d7 := HD.out.cell 7 _ rfl
        have dl := HD.out.lt
        go_wp2
        go_ret
        exact ⟨by rw [HR.out]; simp, HB.out⟩
      | true =>
        have d0 := HD.out.cell 0 _ rfl
        have d1 := HD.out.cell 1 _ rfl
        have d2 := HD.out.cell 2 _ rfl
        have d3 := HD.out.cell 3 _ rfl
        have d4 := HD.out.cell 4 _ rfl
        have d5 := HD.out.cell 5 _ rfl
        have d6 := HD.out.cell 6 _ rfl
        have d7 := HD.out.cell 7 _ rfl
        have dl := HD.out.lt
        go_wp2_with fail
        refine (Hba.out _).mono ?_
        rintro e w7 ⟨rfl, hb7⟩
        have HD1 := Lib.hid (HD.out.below hb7 HD.out.lt)
        have HB1 := Lib.hid (HB.out.trans (hb7.mono HB.out.size))
        clear d0 d1 d2 d3 d4 d5 d6 d7 dl hb7 HD HB Hba
        have HD := HD1
        have HB := HB1
        clear HD1 HB1
        cases ba with
        | false =>
          have d0 := HD.out.cell 0 _ rfl
          have d1 := HD.out.cell 1 _ rfl
          have d2 := HD.out.cell 2 _ rfl
          have d3 := HD.out.cell 3 _ rfl
          have d4 := HD.out.cell 4 _ rfl
          have d5 := HD.out.cell 5 _ rfl
          have d6 := HD.out.cell 6 _ rfl
          have d7 := HD.out.cell 7 _ rfl
          have dl := HD.out.lt
          go_wp2
          go_ret
          exact ⟨by rw [HR.out]; simp, HB.out⟩
        | true =>
          have d0 := HD.out.cell 0 _ rfl
          have d1 := HD.out.cell 1 _ rfl
          have d2 := HD.out.cell 2 _ rfl
          have d3 := HD.out.cell 3 _ rfl
          have d4 := HD.out.cell 4 _ rfl
          have d5 := HD.out.cell 5 _ rfl
          have d6 := HD.out.cell 6 _ rfl
          have d7 := HD.out.cell 7 _ rfl
          have dl := HD.out.lt
          go_wp2_with fail
          refine (Hbv.out _).mono ?_
          rintro e w7 ⟨rfl, hb7⟩
          have HD1 := Lib.hid (HD.out.below hb7 HD.out.lt)
          have HB1 := Lib.hid (HB.out.trans (hb7.mono HB.out.size))
          clear d0 d1 d2 d3 d4 d5 d6 d7 dl hb7 HD HB Hbv
          have HD := HD1
          have HB := HB1
          clear HD1 HB1
          cases bv with
          | false =>
            have d0 := HD.out.cell 0 _ rfl
            have d1 := HD.out.cell 1 _ rfl
            have d2 := HD.out.cell 2 _ rfl
            have d3 := HD.out.cell 3 _ rfl
            have d4 := HD.out.cell 4 _ rfl
            have d5 := HD.out.cell 5 _ rfl
            have d6 := HD.out.cell 6 _ rfl
            have d7 := HD.out.cell 7 _ rfl
            have dl := HD.out.lt
            go_wp2
            go_ret
            exact ⟨by rw [HR.out]; simp, HB.out⟩
          | true =>
            have d0 := HD.out.cell 0 _ rfl
            have d1 := HD.out.cell 1 _ rfl
            have d2 := HD.out.cell 2 _ rfl
            have d3 := HD.out.cell 3 _ rfl
            have d4 := HD.out.cell 4 _ rfl
            have d5 := HD.out.cell 5 _ rfl
            have d6 := HD.out.cell 6 _ rfl
            have d7 := HD.out.cell 7 _ rfl
            have dl := HD.out.lt
            go_wp2_with fail
            refine (Hbt.out _).mono ?_
            rintro e w7 ⟨rfl, hb7⟩
            have HD1 := Lib.hid (HD.out.below hb7 HD.out.lt)
            have HB1 := Lib.hid (HB.out.trans (hb7.mono HB.out.size))
            clear d0 d1 d2 d3 d4 d5 d6 d7 dl hb7 HD HB Hbt
            have HD := HD1
            have HB := HB1
            clear HD1 HB1
            cases bt with
            | false =>
              have d0 := HD.out.cell 0 _ rfl
              have d1 := HD.out.cell 1 _ rfl
              have d2 := HD.out.cell 2 _ rfl
              have d3 := HD.out.cell 3 _ rfl
              have d4 := HD.out.cell 4 _ rfl
              have d5 := HD.out.cell 5 _ rfl
              have d6 := HD.out.cell 6 _ rfl
              have d7 := HD.out.cell 7 _ rfl
              have dl := HD.out.lt
              go_wp2
              go_ret
              exact ⟨by rw [HR.out]; simp, HB.out⟩
            | true =>
              have d0 := HD.out.cell 0 _ rfl
              have d1 := HD.out.cell 1 _ rfl
              have d2 := HD.out.cell 2 _ rfl
              have d3 := HD.out.cell 3 _ rfl
              have d4 := HD.out.cell 4 _ rfl
              have d5 := HD.out.cell 5 _ rfl
              have d6 := HD.out.cell 6 _ rfl
              have d7 := HD.out.cell 7 _ rfl
              have dl := HD.out.lt
              go_wp2_with fail
              refine (Hbc.out _).mono ?_
              rintro e w7 ⟨rfl, hb7⟩
              have HD1 := Lib.hid (HD.out.below hb7 HD.out.lt)
              have HB1 := Lib.hid (HB.out.trans (hb7.mono HB.out.size))
              clear d0 d1 d2 d3 d4 d5 d6 d7 dl hb7 HD HB Hbc
              have HD := HD1
              have HB := HB1
              clear HD1 HB1
              cases bc with
              | false =>
                have d0 := HD.out.cell 0 _ rfl
                have d1 := HD.out.cell 1 _ rfl
                have d2 := HD.out.cell 2 _ rfl
                have d3 := HD.out.cell 3 _ rfl
                have d4 := HD.out.cell 4 _ rfl
                have d5 := HD.out.cell 5 _ rfl
                have d6 := HD.out.cell 6 _ rfl
                have d7 := HD.out.cell 7 _ rfl
                have dl := HD.out.lt
                go_wp2
                go_ret
                exact ⟨by rw [HR.out]; simp, HB.out⟩
              | true =>
                by_cases hq : 0 ≤ ds
                rotate_left
                · have hq1 : ¬ 0 ≤ ds := hq
                  have HN : Hid (r = false) := by show _ = _; rw [HR.out, decide_eq_false hq]; simp
                  clear hq
                  have d0 := HD.out.cell 0 _ rfl
                  have d1 := HD.out.cell 1 _ rfl
                  have d2 := HD.out.cell 2 _ rfl
                  have d3 := HD.out.cell 3 _ rfl
                  have d4 := HD.out.cell 4 _ rfl
                  have d5 := HD.out.cell 5 _ rfl
                  have d6 := HD.out.cell 6 _ rfl
                  have d7 := HD.out.cell 7 _ rfl
                  have dl := HD.out.lt
                  go_wp2
                  go_ret
                  refine ⟨?_, HB.out⟩
                  rw [HN.out]
                  first | rfl | exact ret_bool (decide_eq_false (by omega))
                have hq5 : 0 ≤ ds := hq
                have HR1 := Lib.hid (HR.out.trans (by rw [decide_eq_true hq]))
                clear HR hq
                have HR := HR1
                clear HR1
                by_cases hq : ds ≤ most
                rotate_left
                · have hq1 : ¬ ds ≤ most := hq
                  have HN : Hid (r = false) := by show _ = _; rw [HR.out, decide_eq_false hq]; simp
                  clear hq
                  have d0 := HD.out.cell 0 _ rfl
                  have d1 := HD.out.cell 1 _ rfl
                  have d2 := HD.out.cell 2 _ rfl
                  have d3 := HD.out.cell 3 _ rfl
                  have d4 := HD.out.cell 4 _ rfl
                  have d5 := HD.out.cell 5 _ rfl
                  have d6 := HD.out.cell 6 _ rfl
                  have d7 := HD.out.cell 7 _ rfl
                  have dl := HD.out.lt
                  go_wp2
                  go_ret
                  refine ⟨?_, HB.out⟩
                  rw [HN.out]
                  first | rfl | exact ret_bool (decide_eq_false (by omega))
                have hq6 : ds ≤ most := hq
                have HR1 := Lib.hid (HR.out.trans (by rw [decide_eq_true hq]))
                clear HR hq
                have HR := HR1
                clear HR1
                by_cases hq : 0 ≤ dp
                rotate_left
                · have hq1 : ¬ 0 ≤ dp := hq
                  have HN : Hid (r = false) := by show _ = _; rw [HR.out, decide_eq_false hq]; simp
                  clear hq
                  have d0 := HD.out.cell 0 _ rfl
                  have d1 := HD.out.cell 1 _ rfl
                  have d2 := HD.out.cell 2 _ rfl
                  have d3 := HD.out.cell 3 _ rfl
                  have d4 := HD.out.cell 4 _ rfl
                  have d5 := HD.out.cell 5 _ rfl
                  have d6 := HD.out.cell 6 _ rfl
                  have d7 := HD.out.cell 7 _ rfl
                  have dl := HD.out.lt
                  go_wp2
                  go_ret
                  refine ⟨?_, HB.out⟩
                  rw [HN.out]
                  first | rfl | exact ret_bool (decide_eq_false (by omega))
                have hq2 : 0 ≤ dp := hq
                have HR1 := Lib.hid (HR.out.trans (by rw [decide_eq_true hq]))
                clear HR hq
                have HR := HR1
                clear HR1
                by_cases hq : dp ≤ 2
                rotate_left
                · have hq1 : ¬ dp ≤ 2 := hq
                  have HN : Hid (r = false) := by show _ = _; rw [HR.out, decide_eq_false hq]; simp
                  clear hq
                  have d0 := HD.out.cell 0 _ rfl
                  have d1 := HD.out.cell 1 _ rfl
                  have d2 := HD.out.cell 2 _ rfl
                  have d3 := HD.out.cell 3 _ rfl
                  have d4 := HD.out.cell 4 _ rfl
                  have d5 := HD.out.cell 5 _ rfl
                  have d6 := HD.out.cell 6 _ rfl
                  have d7 := HD.out.cell 7 _ rfl
                  have dl := HD.out.lt
                  go_wp2
                  go_ret
                  refine ⟨?_, HB.out⟩
                  rw [HN.out]
                  first | rfl | exact ret_bool (decide_eq_false (by omega))
                have hq3 : dp ≤ 2 := hq
                have HR1 := Lib.hid (HR.out.trans (by rw [decide_eq_true hq]))
                clear HR hq
                have HR := HR1
                clear HR1
                by_cases hq : dx.length ≤ 1024
                rotate_left
                · have hq1 : ¬ (dx.length : Int) ≤ 1024 := by omega
                  have HN : Hid (r = false) := by show _ = _; rw [HR.out, decide_eq_false hq]; simp
                  clear hq
                  have d0 := HD.out.cell 0 _ rfl
                  have d1 := HD.out.cell 1 _ rfl
                  have d2 := HD.out.cell 2 _ rfl
                  have d3 := HD.out.cell 3 _ rfl
                  have d4 := HD.out.cell 4 _ rfl
                  have d5 := HD.out.cell 5 _ rfl
                  have d6 := HD.out.cell 6 _ rfl
                  have d7 := HD.out.cell 7 _ rfl
                  have dl := HD.out.lt
                  go_wp2
                  go_ret
                  refine ⟨?_, HB.out⟩
                  rw [HN.out]
                  first | rfl | exact ret_bool (decide_eq_false (by omega))
                have hq4 : (dx.length : Int) ≤ 1024 := by omega
                have HR1 := Lib.hid (HR.out.trans (by rw [decide_eq_true hq]))
                clear HR hq
                have HR := HR1
                clear HR1
                have d0 := HD.out.cell 0 _ rfl
                have d1 := HD.out.cell 1 _ rfl
                have d2 := HD.out.cell 2 _ rfl
                have d3 := HD.out.cell 3 _ rfl
                have d4 := HD.out.cell 4 _ rfl
                have d5 := HD.out.cell 5 _ rfl
                have d6 := HD.out.cell 6 _ rfl
                have d7 := HD.out.cell 7 _ rfl
                have dl := HD.out.lt
                go_wp2
                go_ret
                refine ⟨?_, HB.out⟩
                rw [HR.out]
                first | rfl | exact ret_bool (decide_eq_true hq4)
set_option maxRecDepth 100000 in
set_option maxHeartbeats 8000000 in
theorem isDepQ_any (d : Dep) (ex : Value) (m : Bool) (w : World) (hx : SliceOf 2 idC w ex d.excl) (hs : ∀ s ∈ [d.group, d.artifact, d.version, d.type, d.classifier], s.size ≤ 1000000) (hxs : ∀ y ∈ d.excl, y.group.size ≤ 1000000 ∧ y.artifact.size ≤ 1000000) :
    Calls Tryz.prog 104 #[.agg (depC (d, ex)).toArray, .bool m] w fun e w' => e = .returned (.bool (mayD (if m then 6 else 5) d)) ∧ Below w.heap.size w w' := by
  obtain ⟨r, hr⟩ : ∃ r, r = mayD (if m then 6 else 5) d := ⟨_, rfl⟩
  have HR0 : Hid (r = mayD (if m then 6 else 5) d) := hr
  rw [← hr]
  clear hr
  obtain ⟨dg, da, dv, dt, dc, ds, dp, dx⟩ := d
  simp only [depC]
  simp only at hx hs hxs
  have hlx : dx.length ≤ 9223372036854775807 := by obtain ⟨a, c, e, h2, h3, -⟩ := hx; exact Nat.le_trans h2 (Nat.le_trans h3 (by decide))
  obtain ⟨xo, xc, rfl⟩ := hx.shape
  have HX := Lib.hid hx
  have HXS := Lib.hid hxs
  obtain ⟨bv, hbv⟩ : ∃ b, b = okW dv true := ⟨_, rfl⟩
  obtain ⟨bt, hbt⟩ : ∃ b, b = okW dt true := ⟨_, rfl⟩
  obtain ⟨bc, hbc⟩ : ∃ b, b = okW dc true := ⟨_, rfl⟩
  obtain ⟨bg, hbg⟩ : ∃ b, b = okW dg false := ⟨_, rfl⟩
  obtain ⟨ba, hba⟩ : ∃ b, b = okW da false := ⟨_, rfl⟩
  obtain ⟨bx, hbx⟩ : ∃ b, b = dx.all patB := ⟨_, rfl⟩
  have HBX := Lib.hid hbx
  have Hbg : Hid (∀ W, Calls Tryz.prog 67 #[.string dg, .bool false] W fun e w' => e = .returned (.bool bg) ∧ Below W.heap.size W w') := fun W => by rw [hbg]; exact isTextQ_any dg false W (hs _ (by simp))
  have Hba : Hid (∀ W, Calls Tryz.prog 67 #[.string da, .bool false] W fun e w' => e = .returned (.bool ba) ∧ Below W.heap.size W w') := fun W => by rw [hba]; exact isTextQ_any da false W (hs _ (by simp))
  have HTX : Hid (∀ (W : World) (s : S), s ∈ [dv, dt, dc] → Calls Tryz.prog 67 #[.string s, .bool true] W fun e w' => e = .returned (.bool (okW s true)) ∧ Below W.heap.size W w') := fun W s h => isTextQ_any s true W (hs s (by simp only [List.mem_cons, List.not_mem_nil, or_false] at h ⊢; rcases h with rfl | rfl | rfl <;> simp))
  have HMP : Hid (∀ (W : World) (y : Id), y ∈ dx → Calls Tryz.prog 132 #[.agg #[.string y.group, .string y.artifact]] W fun e w' => e = .returned (.bool (patB y)) ∧ Below W.heap.size W w') := fun W y h => mayPattern_any y W (by have := (hxs y h).1; omega) (by have := (hxs y h).2; omega)
  obtain ⟨sc, hsc⟩ : ∃ sc, sc = (decide (0 ≤ ds) && decide (ds ≤ (if m then 6 else 5))) := ⟨_, rfl⟩
  have HR : Hid (r = (bv && (bt && (bc && (bx && (bg && (ba && (sc && (decide (0 ≤ dp) && (decide (dp ≤ 2) && decide (dx.length ≤ 1024))))))))))) := by show _ = _; rw [HR0.out, hbv, hbt, hbc, hbg, hba, hbx, hsc, Bool.and_assoc]; rfl
  have HSC := Lib.hid hsc
  have HBV : Hid ([dv, dt, dc].all (fun s => okW s true) = (bv && (bt && bc))) := by show _ = _; rw [hbv, hbt, hbc]; simp
  clear hbv hbt hbc hbg hba hbx hsc HR0 hx hs hxs
  go_enter Tryz.func104, Tryz.ntmps104
  go_upto_region 1 with fail
  refine wp_world ?_
  intro W hW
  have x2 : Box W w.heap.size [.string dg, .string da, .string dv, .string dt, .string dc, .int .i64 ds, .int .i64 dp, .slice xo dx.length xc] := by rw [hW]; exact Box.new w [.string dg, .string da, .string dv, .string dt, .string dc, .int .i64 ds, .int .i64 dp, .slice xo dx.length xc] _ _ rfl
  have hb2 : Below w.heap.size w W := by rw [hW]; exact (Below.refl _ _).alloc (Nat.le_refl _) _
  clear hW
  have HD := Lib.hid x2
  have HB := Lib.hid hb2
  clear x2 hb2
  have d0 := HD.out.cell 0 _ rfl
  have d1 := HD.out.cell 1 _ rfl
  have d2 := HD.out.cell 2 _ rfl
  have d3 := HD.out.cell 3 _ rfl
  have d4 := HD.out.cell 4 _ rfl
  have d5 := HD.out.cell 5 _ rfl
  have d6 := HD.out.cell 6 _ rfl
  have d7 := HD.out.cell 7 _ rfl
  have dl := HD.out.lt
  go_upto_region 2 with fail
  have HD0 := Lib.hid (HD.out.alloc (.cells #[.string dv, .string dt, .string dc] 9))
  have HB0 := Lib.hid (HB.out.alloc HB.out.size (.cells #[.string dv, .string dt, .string dc] 9))
  have HL0 := Lib.hid (Box.new W [.string dv, .string dt, .string dc] 9 _ rfl)
  clear d0 d1 d2 d3 d4 d5 d6 d7 dl HD HB
  go_loopw [6, 18] (fun _ i wr => ∃ k : Nat, k ≤ 3 ∧ i = .int .i64 k ∧ Hid (([dv, dt, dc].take k).all (fun s => okW s true) = true ∧ Below w.heap.size w wr ∧ Box wr w.heap.size [.string dg, .string da, .string dv, .string dt, .string dc, .int .i64 ds, .int .i64 dp, .slice xo dx.length xc] ∧ Box wr W.heap.size [.string dv, .string dt, .string dc])) (fun _ i _ => 3 - (intOf i).toNat)
  case atStart => exact ⟨0, Nat.zero_le _, rfl, rfl, HB0.out, HD0.out, HL0.out⟩
  case round =>
    obtain ⟨k, hk, rfl, HRR⟩ := hrel
    clear HD0 HB0 HL0
    by_cases hlt : k < 3
    · obtain ⟨s, hks⟩ : ∃ s, [dv, dt, dc][k]? = some s := ⟨[dv, dt, dc][k], by simp [hlt]⟩
      have hkc : wr.cell? ⟨W.heap.size, k, none⟩ = some (.string s) := HRR.out.2.2.2.cell k (.string s) (by rcases (by omega : k = 0 ∨ k = 1 ∨ k = 2) with rfl | rfl | rfl <;> (simp at hks; subst hks; rfl))
      have hll := HRR.out.2.2.2.lt
      have hsr := HRR.out.2.1.size
      have HCT := Lib.hid (fun W => HTX.out W s (List.mem_of_getElem? hks))
      have hkl : k < [dv, dt, dc].length := hlt
      have hsk : [dv, dt, dc][k] = s := by have := List.getElem?_eq_getElem hkl; rw [hks] at this; exact (Option.some.inj this).symm
      have HTK : Hid (([dv, dt, dc].take (k + 1)).all (fun s => okW s true) = okW s true) := by show _ = _; rw [List.take_succ_eq_append_getElem hkl, List.all_append, HRR.out.1, hsk]; simp
      have HNO : Hid (okW s true = false → (bv && (bt && bc)) = false) := fun h => by
        rw [← HBV.out, Bool.eq_false_iff]
        intro e
        rw [List.all_eq_true] at e
        have h1 := e s (List.mem_of_getElem? hks)
        rw [h] at h1; cases h1
      have hkI : (k : Int) < 3 := by omega
      clear hks hkl hsk
      generalize okW s true = q at *
      go_wp2_with fail
      refine (HCT.out _).mono ?_
      rintro e w7 ⟨rfl, hb7⟩
      have HB := Lib.hid (HRR.out.2.1.trans (hb7.mono hsr))
      have HD := Lib.hid (HRR.out.2.2.1.below hb7 HRR.out.2.2.1.lt)
      have HL := Lib.hid (HRR.out.2.2.2.below hb7 HRR.out.2.2.2.lt)
      clear hkc hb7
      cases q with
      | false =>
        have HN : Hid (r = false) := by
          show _ = _
          have h1 := HNO.out rfl
          rw [HR.out, ← Bool.and_assoc bt, ← Bool.and_assoc bv, h1]
          rfl
        clear HTK HNO
        go_wp2
        go_ret
        exact ⟨by rw [HN.out]; rfl, HB.out⟩
      | true =>
        clear HNO
        go_wp2
        go_roundw
        case rel => exact ⟨k + 1, hlt, by go_num, HTK.out, HB.out, HD.out, HL.out⟩
        case measure => simp [intOf]; omega
    · have hk3 : k = 3 := by omega
      have e3 : (k : Int) = 3 := by omega
      rw [e3]
      have HB0 := Lib.hid HRR.out.2.1
      have HD0 := Lib.hid HRR.out.2.2.1
      have hb3 := HRR.out.1
      rw [hk3, show [dv, dt, dc].take 3 = [dv, dt, dc] from rfl, HBV.out] at hb3
      obtain ⟨rfl, rfl, rfl⟩ : bv = true ∧ bt = true ∧ bc = true := by cases bv <;> cases bt <;> cases bc <;> simp_all
      clear hb3 hlt HRR HTX HBV e3 hk3 hk
      have d7 := HD0.out.cell 7 _ rfl
      have dl := HD0.out.lt
      go_wp2
      clear d7 dl
      obtain ⟨wo, rfl⟩ : ∃ wo : World, wo = wr := ⟨_, rfl⟩
      go_loopw [29] (fun i wr => ∃ k : Nat, k ≤ dx.length ∧ i = .int .i64 k ∧ Hid ((dx.take k).all patB = true ∧ Below w.heap.size w wr ∧ Box wr w.heap.size [.string dg, .string da, .string dv, .string dt, .string dc, .int .i64 ds, .int .i64 dp, .slice xo dx.length xc])) (fun i _ => dx.length - (intOf i).toNat)
      case atStart => exact ⟨0, Nat.zero_le _, rfl, rfl, HB0.out, HD0.out⟩
      case round =>
        obtain ⟨k, hk, rfl, HRR⟩ := hrel
        clear HD0 HB0
        by_cases hlt : k < dx.length
        · have HTK := Lib.hid (all_take2 (p := patB) hlt)
          have HNO := Lib.hid (fun h => all_no2 (p := patB) hlt h)
          have HMY := Lib.hid (fun W => HMP.out W dx[k] (List.getElem_mem hlt))
          obtain ⟨g, o, rfl, hg, c0, c1⟩ := (HX.out.below HRR.out.2.1).atId hlt
          have hsr := HRR.out.2.1.size
          generalize dx[k] = y at *
          obtain ⟨y1, y2⟩ := y
          simp only at c0 c1 HMY
          generalize patB ⟨y1, y2⟩ = q at *
          go_upto_region 10 with fail
          refine wp_world ?_
          intro W4 hW4
          have x4 : Box W4 wr.heap.size [.string y1, .string y2] := by rw [hW4]; exact Box.new wr [.string y1, .string y2] _ _ rfl
          have hb4 : Below wr.heap.size wr W4 := by rw [hW4]; exact (Below.refl _ _).alloc (Nat.le_refl _) _
          clear hW4 c0 c1
          have a0 := x4.cell 0 _ rfl
          have a1 := x4.cell 1 _ rfl
          have al := x4.lt
          have HB4 := Lib.hid (HRR.out.2.1.trans (hb4.mono hsr))
          have HD4 := Lib.hid (HRR.out.2.2.below hb4 HRR.out.2.2.lt)
          clear x4 hb4
          go_wp2_with fail
          refine (HMY.out _).mono ?_
          rintro e w7 ⟨rfl, hb7⟩
          have HB := Lib.hid (HB4.out.trans (hb7.mono HB4.out.size))
          have HD := Lib.hid (HD4.out.below hb7 HD4.out.lt)
          clear a0 a1 al hb7 HMY HB4 HD4
          cases q with
          | false =>
            have HN : Hid (r = false) := by show _ = _; rw [HR.out, HBX.out, HNO.out rfl]; simp
            clear HTK HNO
            go_wp2
            go_ret
            exact ⟨by rw [HN.out]; rfl, HB.out⟩
          | true =>
            have HT2 : Hid ((dx.take (k + 1)).all patB = true) := by show _ = _; rw [HTK.out, HRR.out.1]; rfl
            clear HTK HNO
            go_wp2
            go_roundw
            case rel => exact ⟨k + 1, hlt, by go_num, HT2.out, HB.out, HD.out⟩
            case measure => simp [intOf]; omega
        · obtain rfl : k = dx.length := by omega
          have HB := Lib.hid HRR.out.2.1
          have HD := Lib.hid HRR.out.2.2
          have hbx1 : bx = true := by rw [HBX.out]; have h1 := HRR.out.1; rwa [List.take_length] at h1
          have HR1 := Lib.hid (HR.out.trans (by rw [hbx1]))
          clear HR HBX hbx1 hlt HX HRR HMP
          have HR := HR1
          clear HR1
          obtain ⟨wq, rfl⟩ : ∃ wq : World, wq = wr := ⟨_, rfl⟩
          have d0 := HD.out.cell 0 _ rfl
          have d1 := HD.out.cell 1 _ rfl
          have d2 := HD.out.cell 2 _ rfl
          have d3 := HD.out.cell 3 _ rfl
          have d4 := HD.out.cell 4 _ rfl
          have d5 := HD.out.cell 5 _ rfl
          have d6 := HD.out.cell 6 _ rfl
          have d7 := HD.out.cell 7 _ rfl
          have dl := HD.out.lt
          go_upto_region 13 with fail
          go_cut [9] from 37 to 52 (fun v wx => v = .bool sc ∧ wx = wq)
          case first =>
            by_cases h0 : 0 ≤ ds
            · by_cases h5 : ds ≤ 5
              · have HS : Hid (sc = true) := by show _ = _; rw [HSC.out]; cases m <;> simp <;> omega
                go_wp2
                go_meet
                case rel => exact ⟨by rw [HS.out], rfl⟩
              · cases m with
                | false =>
                  have HS : Hid (sc = false) := by show _ = _; rw [HSC.out]; simp; omega
                  go_wp2
                  go_meet
                  case rel => exact ⟨by rw [HS.out], rfl⟩
                | true =>
                  by_cases h6 : ds = 6
                  · have HS : Hid (sc = true) := by show _ = _; rw [HSC.out]; simp; omega
                    have hk6 : (ds == 6) = true := by rw [h6]; rfl
                    clear h6
                    go_wp2
                    go_meet
                    case rel => exact ⟨by rw [HS.out], rfl⟩
                  · have HS : Hid (sc = false) := by show _ = _; rw [HSC.out]; simp; omega
                    have hk6 : (ds == 6) = false := beq_eq_false_iff_ne.2 h6
                    go_wp2
                    go_meet
                    case rel => exact ⟨by rw [HS.out], rfl⟩
            · have HS : Hid (sc = false) := by show _ = _; rw [HSC.out]; simp; omega
              go_wp2
              go_meet
              case rel => exact ⟨by rw [HS.out], rfl⟩
          case rest =>
            obtain ⟨rfl, hwx⟩ := hcut
            subst hwx
            clear d0 d1 d2 d3 d4 d5 d6 d7 dl HSC
            have d0 := HD.out.cell 0 _ rfl
            have d1 := HD.out.cell 1 _ rfl
            have d2 := HD.out.cell 2 _ rfl
            have d3 := HD.out.cell 3 _ rfl
            have d4 := HD.out.cell 4 _ rfl
            have d5 := HD.out.cell 5 _ rfl
            have d6 := HD.out.cell 6 _ rfl
            have d7 := HD.out.cell 7 _ rfl
            have dl := HD.out.lt
            go_wp2_with fail
            refine (Hbg.out _).mono ?_
            rintro e w7 ⟨rfl, hb7⟩
            have HD1 := Lib.hid (HD.out.below hb7 HD.out.lt)
            have HB1 := Lib.hid (HB.out.trans (hb7.mono HB.out.size))
            clear d0 d1 d2 d3 d4 d5 d6 d7 dl hb7 HD HB Hbg
            have HD := HD1
            have HB := HB1
            clear HD1 HB1
            cases bg with
            | false =>
              have d0 := HD.out.cell 0 _ rfl
              have d1 := HD.out.cell 1 _ rfl
              have d2 := HD.out.cell 2 _ rfl
              have d3 := HD.out.cell 3 _ rfl
              have d4 := HD.out.cell 4 _ rfl
              have d5 := HD.out.cell 5 _ rfl
              have d6 := HD.out.cell 6 _ rfl
              have d7 := HD.out.cell 7 _ rfl
              have dl := HD.out.lt
              go_wp2
              go_ret
              exact ⟨by rw [HR.out]; simp, HB.out⟩
            | true =>
              have d0 := HD.out.cell 0 _ rfl
              have d1 := HD.out.cell 1 _ rfl
              have d2 := HD.out.cell 2 _ rfl
              have d3 := HD.out.cell 3 _ rfl
              have d4 := HD.out.cell 4 _ rfl
              have d5 := HD.out.cell 5 _ rfl
              have d6 := HD.out.cell 6 _ rfl
              have d7 := HD.out.cell 7 _ rfl
              have dl := HD.out.lt
              go_wp2_with fail
              refine (Hba.out _).mono ?_
              rintro e w7 ⟨rfl, hb7⟩
              have HD1 := Lib.hid (HD.out.below hb7 HD.out.lt)
              have HB1 := Lib.hid (HB.out.trans (hb7.mono HB.out.size))
              clear d0 d1 d2 d3 d4 d5 d6 d7 dl hb7 HD HB Hba
              have HD := HD1
              have HB := HB1
              clear HD1 HB1
              cases ba with
              | false =>
                have d0 := HD.out.cell 0 _ rfl
                have d1 := HD.out.cell 1 _ rfl
                have d2 := HD.out.cell 2 _ rfl
                have d3 := HD.out.cell 3 _ rfl
                have d4 := HD.out.cell 4 _ rfl
                have d5 := HD.out.cell 5 _ rfl
                have d6 := HD.out.cell 6 _ rfl
                have d7 := HD.out.cell 7 _ rfl
                have dl := HD.out.lt
                go_wp2
                go_ret
                exact ⟨by rw [HR.out]; simp, HB.out⟩
              | true =>
                cases sc with
                | false =>
                  have d0 := HD.out.cell 0 _ rfl
                  have d1 := HD.out.cell 1 _ rfl
                  have d2 := HD.out.cell 2 _ rfl
                  have d3 := HD.out.cell 3 _ rfl
                  have d4 := HD.out.cell 4 _ rfl
                  have d5 := HD.out.cell 5 _ rfl
                  have d6 := HD.out.cell 6 _ rfl
                  have d7 := HD.out.cell 7 _ rfl
                  have dl := HD.out.lt
                  go_wp2
                  go_ret
                  exact ⟨by rw [HR.out]; simp, HB.out⟩
                | true =>
                  by_cases hq : 0 ≤ dp
                  rotate_left
                  · have hq1 : ¬ 0 ≤ dp := hq
                    have HN : Hid (r = false) := by show _ = _; rw [HR.out, decide_eq_false hq]; simp
                    clear hq
                    have d0 := HD.out.cell 0 _ rfl
                    have d1 := HD.out.cell 1 _ rfl
                    have d2 := HD.out.cell 2 _ rfl
                    have d3 := HD.out.cell 3 _ rfl
                    have d4 := HD.out.cell 4 _ rfl
                    have d5 := HD.out.cell 5 _ rfl
                    have d6 := HD.out.cell 6 _ rfl
                    have d7 := HD.out.cell 7 _ rfl
                    have dl := HD.out.lt
                    go_wp2
                    go_ret
                    refine ⟨?_, HB.out⟩
                    rw [HN.out]
                    first | rfl | exact ret_bool (decide_eq_false (by omega))
                  have hq2 : 0 ≤ dp := hq
                  have HR1 := Lib.hid (HR.out.trans (by rw [decide_eq_true hq]))
                  clear HR hq
                  have HR := HR1
                  clear HR1
                  by_cases hq : dp ≤ 2
                  rotate_left
                  · have hq1 : ¬ dp ≤ 2 := hq
                    have HN : Hid (r = false) := by show _ = _; rw [HR.out, decide_eq_false hq]; simp
                    clear hq
                    have d0 := HD.out.cell 0 _ rfl
                    have d1 := HD.out.cell 1 _ rfl
                    have d2 := HD.out.cell 2 _ rfl
                    have d3 := HD.out.cell 3 _ rfl
                    have d4 := HD.out.cell 4 _ rfl
                    have d5 := HD.out.cell 5 _ rfl
                    have d6 := HD.out.cell 6 _ rfl
                    have d7 := HD.out.cell 7 _ rfl
                    have dl := HD.out.lt
                    go_wp2
                    go_ret
                    refine ⟨?_, HB.out⟩
                    rw [HN.out]
                    first | rfl | exact ret_bool (decide_eq_false (by omega))
                  have hq3 : dp ≤ 2 := hq
                  have HR1 := Lib.hid (HR.out.trans (by rw [decide_eq_true hq]))
                  clear HR hq
                  have HR := HR1
                  clear HR1
                  by_cases hq : dx.length ≤ 1024
                  rotate_left
                  · have hq1 : ¬ (dx.length : Int) ≤ 1024 := by omega
                    have HN : Hid (r = false) := by show _ = _; rw [HR.out, decide_eq_false hq]; simp
                    clear hq
                    have d0 := HD.out.cell 0 _ rfl
                    have d1 := HD.out.cell 1 _ rfl
                    have d2 := HD.out.cell 2 _ rfl
                    have d3 := HD.out.cell 3 _ rfl
                    have d4 := HD.out.cell 4 _ rfl
                    have d5 := HD.out.cell 5 _ rfl
                    have d6 := HD.out.cell 6 _ rfl
                    have d7 := HD.out.cell 7 _ rfl
                    have dl := HD.out.lt
                    go_wp2
                    go_ret
                    refine ⟨?_, HB.out⟩
                    rw [HN.out]
                    first | rfl | exact ret_bool (decide_eq_false (by omega))
                  have hq4 : (dx.length : Int) ≤ 1024 := by omega
                  have HR1 := Lib.hid (HR.out.trans (by rw [decide_eq_true hq]))
                  clear HR hq
                  have HR := HR1
                  clear HR1
                  have d0 := HD.out.cell 0 _ rfl
                  have d1 := HD.out.cell 1 _ rfl
                  have d2 := HD.out.cell 2 _ rfl
                  have d3 := HD.out.cell 3 _ rfl
                  have d4 := HD.out.cell 4 _ rfl
                  have d5 := HD.out.cell 5 _ rfl
                  have d6 := HD.out.cell 6 _ rfl
                  have d7 := HD.out.cell 7 _ rfl
                  have dl := HD.out.lt
                  go_wp2
                  go_ret
                  refine ⟨?_, HB.out⟩
                  rw [HR.out]
                  first | rfl | exact ret_bool (decide_eq_true hq4)

end Go.Proofs.YtbbbfjcikhpmbaaGreat
