/- The walk of pom.May; the conditions stand in the theorem. -/
import Derived.Test.YtbbbfjcikhpmbaaGreatJF20
import Derived.Test.YtbbbfjcikhpmbaaGreatJF12
import Derived.Test.YtbbbfjcikhpmbaaGreatJF18
import Derived.Test.YtbbbfjcikhpmbaaGreatJF13
import Derived.Test.YtbbbfjcikhpmbaaGreatJF14

namespace Go.Proofs.YtbbbfjcikhpmbaaGreat
open Go Go.RowKit

attribute [local go_sem ↓] eqg_prp neq_prp eqg_id neq_id eqg_gav eql_gav
/-- Texts of a project that are not too long. -/
structure PomSm (p : Pom) : Prop where
 own : ∀ s ∈ [p.group, p.artifact, p.version, p.packaging], s.size ≤ 1000000
 prp : ∀ y ∈ p.props, y.name.size ≤ 1000000 ∧ y.value.size ≤ 1000000
 man : ∀ d ∈ p.managed, DepSm d
 dep : ∀ d ∈ p.deps, DepSm d
 gav : gavSm p.parent
def parentB (hp : Bool) (g : Gav) : Bool := if hp then gavMay g else decide (g = ⟨⟨#[]⟩, ⟨#[]⟩, ⟨#[]⟩⟩)
/-- May it be a project? -/
def mayP (p : Pom) : Bool := parentB p.hasParent p.parent && ((okW p.group true && (okW p.artifact false && (okW p.version true && okW p.packaging true))) && (decide (p.props.length ≤ 1024) && (propsGo p.props [] && ((p.managed.all (mayD 6) && decide (p.managed.length ≤ 1024)) && (p.deps.all (mayD 5) && decide (p.deps.length ≤ 1024))))))
set_option maxRecDepth 100000 in
set_option maxHeartbeats 8000000 in
theorem pomMay_any (p : Pom) (pv mv dv : Value) (w : World) (hp : PomOf w (.agg (pomC p pv mv dv).toArray) p pv mv dv) (hs : PomSm p) :
    Calls Tryz.prog 24 #[.agg (pomC p pv mv dv).toArray] w fun e w' => e = .returned (.bool (mayP p)) ∧ Below w.heap.size w w' := by
 obtain ⟨r, hr⟩ : ∃ r, r = mayP p := ⟨_, rfl⟩
 have HR0 : Hid (r = mayP p) := hr
 rw [← hr]
 clear hr
 obtain ⟨-, p1, p2, p3⟩ := hp
 obtain ⟨hpo, hpp, hpm, hpd, hpg⟩ := hs
 obtain ⟨hp, ⟨px, py, pz⟩, dg, da, dv, dk, dp, dm, dd⟩ := p
 simp only [pomC]
 simp only at p1 p2 p3 hpo hpp hpm hpd hpg
 have hl1 : dp.length ≤ 9223372036854775807 := by obtain ⟨a, c, e, h2, h3, -⟩ := p1; exact Nat.le_trans h2 (Nat.le_trans h3 (by decide))
 obtain ⟨ao1, cap1, rfl⟩ := p1.shape
 obtain ⟨ao2, cap2, rfl⟩ := p2.shape
 obtain ⟨ao3, cap3, rfl⟩ := p3.shape
 obtain ⟨bg, hbg⟩ : ∃ b, b = okW dg true := ⟨_, rfl⟩
 obtain ⟨ba, hba⟩ : ∃ b, b = okW da false := ⟨_, rfl⟩
 obtain ⟨bv, hbv⟩ : ∃ b, b = okW dv true := ⟨_, rfl⟩
 obtain ⟨bk, hbk⟩ : ∃ b, b = okW dk true := ⟨_, rfl⟩
 obtain ⟨pb, hpb⟩ : ∃ b, b = parentB hp ⟨px, py, pz⟩ := ⟨_, rfl⟩
 have Hbg : Hid (∀ W, Calls Tryz.prog 67 #[.string dg, .bool true] W fun e w' => e = .returned (.bool bg) ∧ Below W.heap.size W w') := fun W => by rw [hbg]; exact isTextQ_any dg true W (hpo _ (by simp))
 have Hba : Hid (∀ W, Calls Tryz.prog 67 #[.string da, .bool false] W fun e w' => e = .returned (.bool ba) ∧ Below W.heap.size W w') := fun W => by rw [hba]; exact isTextQ_any da false W (hpo _ (by simp))
 have Hbv : Hid (∀ W, Calls Tryz.prog 67 #[.string dv, .bool true] W fun e w' => e = .returned (.bool bv) ∧ Below W.heap.size W w') := fun W => by rw [hbv]; exact isTextQ_any dv true W (hpo _ (by simp))
 have Hbk : Hid (∀ W, Calls Tryz.prog 67 #[.string dk, .bool true] W fun e w' => e = .returned (.bool bk) ∧ Below W.heap.size W w') := fun W => by rw [hbk]; exact isTextQ_any dk true W (hpo _ (by simp))

 obtain ⟨bq, hbq⟩ : ∃ b, b = propsGo dp [] := ⟨_, rfl⟩
 obtain ⟨bm, hbm⟩ : ∃ b, b = (dm.all (mayD 6) && decide (dm.length ≤ 1024)) := ⟨_, rfl⟩
 obtain ⟨bd, hbd⟩ : ∃ b, b = (dd.all (mayD 5) && decide (dd.length ≤ 1024)) := ⟨_, rfl⟩
 have HPR : Hid (∀ W, Below w.heap.size w W → Calls Tryz.prog 68 #[.slice ao1 dp.length cap1] W fun e w' => e = .returned (.bool (bq && decide (dp.length ≤ 1024))) ∧ Below W.heap.size W w') := fun W h => by rw [hbq]; exact isPropsQ_any dp _ W (p1.below h) hpp
 have HMD : Hid (∀ W, Below w.heap.size w W → Calls Tryz.prog 69 #[.slice ao2 (dm).length cap2, .bool true] W fun e w' => e = .returned (.bool bm) ∧ Below W.heap.size W w') := fun W h => by rw [hbm]; exact isDepsQ_any true dm _ W (p2.below h) hpm
 have HDD : Hid (∀ W, Below w.heap.size w W → Calls Tryz.prog 69 #[.slice ao3 (dd).length cap3, .bool false] W fun e w' => e = .returned (.bool bd) ∧ Below W.heap.size W w') := fun W h => by rw [hbd]; exact isDepsQ_any false dd _ W (p3.below h) hpd
 have HGV : Hid (hp = true → ∀ W, Calls Tryz.prog 66 #[.agg #[.string px, .string py, .string pz]] W fun e w' => e = .returned (.bool pb) ∧ Below W.heap.size W w') := fun h W => by
  rw [hpb, h]; exact mayGav_any ⟨px, py, pz⟩ W (by have := hpg; exact this)
 have HZV0 : Hid (hp = false → pb = (decide (px = ⟨#[]⟩) && (decide (py = ⟨#[]⟩) && decide (pz = ⟨#[]⟩)))) := fun h => by rw [hpb, h]; unfold parentB; simp
 have HR : Hid (r = (pb && ((bg && (ba && (bv && bk))) && (decide (dp.length ≤ 1024) && (bq && (bm && bd)))))) := by
  show _ = _
  rw [HR0.out, hpb, hbg, hba, hbv, hbk, hbq, hbm, hbd]
  rfl
 have HBB : Hid (∀ o, Below w.heap.size w (w.alloc o)) := fun o => (Below.refl _ _).alloc (Nat.le_refl _) _
 clear hbg hba hbv hbk hpb hbq hbm hbd HR0 p1 p2 p3 hpo hpp hpm hpd hpg
 go_enter Tryz.func24, Tryz.ntmps24
 go_upto_region 1 with fail
 refine wp_world ?_
 intro W hW
 have x1 : Box W w.heap.size [.bool hp, .string px, .string py, .string pz, .string dg, .string da, .string dv, .string dk, .slice ao1 dp.length cap1, .slice ao2 (dm).length cap2, .slice ao3 (dd).length cap3] := by rw [hW]; exact Box.new w [.bool hp, .string px, .string py, .string pz, .string dg, .string da, .string dv, .string dk, .slice ao1 dp.length cap1, .slice ao2 (dm).length cap2, .slice ao3 (dd).length cap3] _ _ rfl
 have hb : Below w.heap.size w W := by rw [hW]; exact HBB.out _
 clear hW HBB
 have HX := Lib.hid x1
 have HB := Lib.hid hb
 clear x1 hb
 obtain ⟨c0, c1, c2, c3, c4, c5, c6, c7, c8, c9, c10⟩ := bxc11 HX.out
 have cl := HX.out.lt
 go_upto_if 10 with fail
 obtain ⟨z, hz⟩ : ∃ z, z = (decide (px = ⟨#[]⟩) && decide (py = ⟨#[]⟩) && decide (pz = ⟨#[]⟩)) := ⟨_, rfl⟩
 have HZV : Hid (hp = false → pb = z) := fun h => by rw [HZV0.out h, hz, Bool.and_assoc]
 rw [← hz]
 clear hz
 go_cut [3] from 9 to 13 (fun v wx => v = .bool pb ∧ Hid (Below w.heap.size w wx ∧ Box wx w.heap.size [.bool hp, .string px, .string py, .string pz, .string dg, .string da, .string dv, .string dk, .slice ao1 dp.length cap1, .slice ao2 (dm).length cap2, .slice ao3 (dd).length cap3]))
 case first =>
  cases hp with
  | false =>
   have HZ := Lib.hid (HZV.out rfl)
   go_wp2
   go_meet
   case rel => exact ⟨by rw [HZ.out], HB.out, HX.out⟩
  | true =>
   have HG := Lib.hid (HGV.out rfl)
   go_wp2_with fail
   refine (HG.out _).mono ?_
   rintro e w7 ⟨rfl, hb7⟩
   have HX1 := Lib.hid (HX.out.below hb7 HX.out.lt)
   have HB1 := Lib.hid (HB.out.trans (hb7.mono HB.out.size))
   clear hb7
   go_wp2
   go_meet
   case rel => exact ⟨rfl, HB1.out, HX1.out⟩
 case rest =>
  obtain ⟨rfl, hcc⟩ := hcut
  clear c0 c1 c2 c3 c4 c5 c6 c7 c8 c9 c10 cl HX HB HGV HZV HZV0
  have HB := Lib.hid hcc.out.1
  have HX := Lib.hid hcc.out.2
  clear hcc
  obtain ⟨c0, c1, c2, c3, c4, c5, c6, c7, c8, c9, c10⟩ := bxc11 HX.out
  have cl := HX.out.lt
  go_upto_region 4 with fail
  go_cut [4] from 14 to 31 (fun v wx => v = .bool (bg && (ba && (bv && bk))) ∧ Hid (Below w.heap.size w wx ∧ Box wx w.heap.size [.bool hp, .string px, .string py, .string pz, .string dg, .string da, .string dv, .string dk, .slice ao1 dp.length cap1, .slice ao2 (dm).length cap2, .slice ao3 (dd).length cap3]))
  case first =>
   go_wp2_with fail
   refine (Hbg.out _).mono ?_
   rintro e w7 ⟨rfl, hb7⟩
   have HX1 := Lib.hid (HX.out.below hb7 HX.out.lt)
   have HB1 := Lib.hid (HB.out.trans (hb7.mono HB.out.size))
   clear c0 c1 c2 c3 c4 c5 c6 c7 c8 c9 c10 cl
   clear hb7 HX HB Hbg
   have HX := HX1
   have HB := HB1
   clear HX1 HB1
   cases bg with
   | false =>
    obtain ⟨c0, c1, c2, c3, c4, c5, c6, c7, c8, c9, c10⟩ := bxc11 HX.out
    have cl := HX.out.lt
    go_wp2
    go_meet
    case rel => exact ⟨by simp, HB.out, HX.out⟩
   | true =>
    obtain ⟨c0, c1, c2, c3, c4, c5, c6, c7, c8, c9, c10⟩ := bxc11 HX.out
    have cl := HX.out.lt
    go_wp2_with fail
    refine (Hba.out _).mono ?_
    rintro e w7 ⟨rfl, hb7⟩
    have HX1 := Lib.hid (HX.out.below hb7 HX.out.lt)
    have HB1 := Lib.hid (HB.out.trans (hb7.mono HB.out.size))
    clear c0 c1 c2 c3 c4 c5 c6 c7 c8 c9 c10 cl
    clear hb7 HX HB Hba
    have HX := HX1
    have HB := HB1
    clear HX1 HB1
    cases ba with
    | false =>
     obtain ⟨c0, c1, c2, c3, c4, c5, c6, c7, c8, c9, c10⟩ := bxc11 HX.out
     have cl := HX.out.lt
     go_wp2
     go_meet
     case rel => exact ⟨by simp, HB.out, HX.out⟩
    | true =>
     obtain ⟨c0, c1, c2, c3, c4, c5, c6, c7, c8, c9, c10⟩ := bxc11 HX.out
     have cl := HX.out.lt
     go_wp2_with fail
     refine (Hbv.out _).mono ?_
     rintro e w7 ⟨rfl, hb7⟩
     have HX1 := Lib.hid (HX.out.below hb7 HX.out.lt)
     have HB1 := Lib.hid (HB.out.trans (hb7.mono HB.out.size))
     clear c0 c1 c2 c3 c4 c5 c6 c7 c8 c9 c10 cl
     clear hb7 HX HB Hbv
     have HX := HX1
     have HB := HB1
     clear HX1 HB1
     cases bv with
     | false =>
      obtain ⟨c0, c1, c2, c3, c4, c5, c6, c7, c8, c9, c10⟩ := bxc11 HX.out
      have cl := HX.out.lt
      go_wp2
      go_meet
      case rel => exact ⟨by simp, HB.out, HX.out⟩
     | true =>
      obtain ⟨c0, c1, c2, c3, c4, c5, c6, c7, c8, c9, c10⟩ := bxc11 HX.out
      have cl := HX.out.lt
      go_wp2_with fail
      refine (Hbk.out _).mono ?_
      rintro e w7 ⟨rfl, hb7⟩
      have HX1 := Lib.hid (HX.out.below hb7 HX.out.lt)
      have HB1 := Lib.hid (HB.out.trans (hb7.mono HB.out.size))
      clear c0 c1 c2 c3 c4 c5 c6 c7 c8 c9 c10 cl
      clear hb7 HX HB Hbk
      have HX := HX1
      have HB := HB1
      clear HX1 HB1
      obtain ⟨c0, c1, c2, c3, c4, c5, c6, c7, c8, c9, c10⟩ := bxc11 HX.out
      have cl := HX.out.lt
      cases bk
      all_goals
       go_wp2
       go_meet
       case rel => exact ⟨rfl, HB.out, HX.out⟩
  case rest =>
   obtain ⟨rfl, hcc⟩ := hcut
   clear c0 c1 c2 c3 c4 c5 c6 c7 c8 c9 c10 cl HX HB Hbg Hba Hbv Hbk
   have HB := Lib.hid hcc.out.1
   have HX := Lib.hid hcc.out.2
   clear hcc
   have HR1 : Hid (∀ t, t = (bg && (ba && (bv && bk))) → r = (pb && (t && (decide (dp.length ≤ 1024) && (bq && (bm && bd)))))) := fun t ht => by rw [HR.out, ht]
   obtain ⟨tx, htx⟩ : ∃ t, t = (bg && (ba && (bv && bk))) := ⟨_, rfl⟩
   have HR2 := Lib.hid (HR1.out tx htx)
   rw [← htx]
   clear HR1 HR htx
   have HR := HR2
   clear HR2
   obtain ⟨c0, c1, c2, c3, c4, c5, c6, c7, c8, c9, c10⟩ := bxc11 HX.out
   have cl := HX.out.lt
   cases pb with
   | false =>
    go_wp2
    go_ret
    exact ⟨by rw [HR.out]; rfl, HB.out⟩
   | true =>
    cases tx with
    | false =>
     go_wp2
     go_ret
     exact ⟨by rw [HR.out]; rfl, HB.out⟩
    | true =>
     by_cases hq : dp.length ≤ 1024
     rotate_left
     · have hI : ¬ (dp.length : Int) ≤ 1024 := by omega
       have HN : Hid (r = false) := by show _ = _; rw [HR.out, decide_eq_false hq]; rfl
       clear hq
       go_wp2
       go_ret
       refine ⟨?_, HB.out⟩
       rw [HN.out]
       first | rfl | exact ret_bool (decide_eq_false (by omega))
     have hI : (dp.length : Int) ≤ 1024 := by omega
     have HRA : Hid (r = (bq && (bm && bd))) := by show _ = _; rw [HR.out, decide_eq_true hq]; rfl
     rw [decide_eq_true hq, Bool.and_true] at HPR
     clear HR hq
     go_wp2_with fail
     refine (HPR.out _ HB.out).mono ?_
     rintro e w7 ⟨rfl, hb7⟩
     have HX1 := Lib.hid (HX.out.below hb7 HX.out.lt)
     have HB1 := Lib.hid (HB.out.trans (hb7.mono HB.out.size))
     clear c0 c1 c2 c3 c4 c5 c6 c7 c8 c9 c10 cl
     clear hb7 HX HB HPR
     have HX := HX1
     have HB := HB1
     clear HX1 HB1
     cases bq with
     | false =>
      obtain ⟨c0, c1, c2, c3, c4, c5, c6, c7, c8, c9, c10⟩ := bxc11 HX.out
      have cl := HX.out.lt
      go_wp2
      go_ret
      exact ⟨by rw [HRA.out]; first | rfl | simp, HB.out⟩
     | true =>
      obtain ⟨c0, c1, c2, c3, c4, c5, c6, c7, c8, c9, c10⟩ := bxc11 HX.out
      have cl := HX.out.lt
      go_wp2_with fail
      refine (HMD.out _ HB.out).mono ?_
      rintro e w7 ⟨rfl, hb7⟩
      have HX1 := Lib.hid (HX.out.below hb7 HX.out.lt)
      have HB1 := Lib.hid (HB.out.trans (hb7.mono HB.out.size))
      clear c0 c1 c2 c3 c4 c5 c6 c7 c8 c9 c10 cl
      clear hb7 HX HB HMD
      have HX := HX1
      have HB := HB1
      clear HX1 HB1
      cases bm with
      | false =>
       obtain ⟨c0, c1, c2, c3, c4, c5, c6, c7, c8, c9, c10⟩ := bxc11 HX.out
       have cl := HX.out.lt
       go_wp2
       go_ret
       exact ⟨by rw [HRA.out]; first | rfl | simp, HB.out⟩
      | true =>
       obtain ⟨c0, c1, c2, c3, c4, c5, c6, c7, c8, c9, c10⟩ := bxc11 HX.out
       have cl := HX.out.lt
       go_wp2_with fail
       refine (HDD.out _ HB.out).mono ?_
       rintro e w7 ⟨rfl, hb7⟩
       have HX1 := Lib.hid (HX.out.below hb7 HX.out.lt)
       have HB1 := Lib.hid (HB.out.trans (hb7.mono HB.out.size))
       clear c0 c1 c2 c3 c4 c5 c6 c7 c8 c9 c10 cl
       clear hb7 HX HB HDD
       have HX := HX1
       have HB := HB1
       clear HX1 HB1
       obtain ⟨c0, c1, c2, c3, c4, c5, c6, c7, c8, c9, c10⟩ := bxc11 HX.out
       have cl := HX.out.lt
       cases bd
       all_goals
        go_wp2
        go_ret
        exact ⟨by rw [HRA.out]; rfl, HB.out⟩

end Go.Proofs.YtbbbfjcikhpmbaaGreat

/- The walk of the document's May of projects; the conditions stand in the theorem. -/

namespace Go.Proofs.YtbbbfjcikhpmbaaGreat
open Go Go.RowKit

attribute [local go_sem ↓] eqg_prp neq_prp eqg_id neq_id eqg_gav eql_gav neq_gavQ
set_option maxRecDepth 100000 in
set_option maxHeartbeats 16000000 in
theorem mayPD_any (p : Pom) (pv mv dv : Value) (w : World) (hp : PomOf w (.agg (pomC p pv mv dv).toArray) p pv mv dv) (hs : PomSm p) :
    Calls Tryz.prog 20 #[.agg (pomC p pv mv dv).toArray] w fun e w' => e = .returned (.bool (mayP p)) ∧ Below w.heap.size w w' := by
 obtain ⟨r, hr⟩ : ∃ r, r = mayP p := ⟨_, rfl⟩
 have HR0 : Hid (r = mayP p) := hr
 rw [← hr]
 clear hr
 obtain ⟨-, p1, p2, p3⟩ := hp
 obtain ⟨hpo, hpp, hpm, hpd, hpg⟩ := hs
 obtain ⟨hp, ⟨px, py, pz⟩, dg, da, dv, dk, dp, dm, dd⟩ := p
 simp only [pomC]
 simp only at p1 p2 p3 hpo hpp hpm hpd hpg
 have hl1 : dp.length ≤ 9223372036854775807 := by obtain ⟨a, c, e, h2, h3, -⟩ := p1; exact Nat.le_trans h2 (Nat.le_trans h3 (by decide))
 obtain ⟨ao1, cap1, rfl⟩ := p1.shape
 obtain ⟨ml, hme, hm, hmo⟩ := p2
 obtain ⟨ao2, cap2, rfl⟩ := hm.shape
 obtain ⟨dl, hde, hd, hdo⟩ := p3
 obtain ⟨ao3, cap3, rfl⟩ := hd.shape
 obtain ⟨bg, hbg⟩ : ∃ b, b = okW dg true := ⟨_, rfl⟩
 obtain ⟨ba, hba⟩ : ∃ b, b = okW da false := ⟨_, rfl⟩
 obtain ⟨bv, hbv⟩ : ∃ b, b = okW dv true := ⟨_, rfl⟩
 obtain ⟨bk, hbk⟩ : ∃ b, b = okW dk true := ⟨_, rfl⟩
 obtain ⟨pb, hpb⟩ : ∃ b, b = parentB hp ⟨px, py, pz⟩ := ⟨_, rfl⟩
 have Hbg : Hid (∀ W, Calls Tryz.prog 61 #[.string dg, .bool true] W fun e w' => e = .returned (.bool bg) ∧ Below W.heap.size W w') := fun W => by rw [hbg]; exact plainD_any dg true W (hpo _ (by simp))
 have Hba : Hid (∀ W, Calls Tryz.prog 61 #[.string da, .bool false] W fun e w' => e = .returned (.bool ba) ∧ Below W.heap.size W w') := fun W => by rw [hba]; exact plainD_any da false W (hpo _ (by simp))
 have Hbv : Hid (∀ W, Calls Tryz.prog 61 #[.string dv, .bool true] W fun e w' => e = .returned (.bool bv) ∧ Below W.heap.size W w') := fun W => by rw [hbv]; exact plainD_any dv true W (hpo _ (by simp))
 have Hbk : Hid (∀ W, Calls Tryz.prog 61 #[.string dk, .bool true] W fun e w' => e = .returned (.bool bk) ∧ Below W.heap.size W w') := fun W => by rw [hbk]; exact plainD_any dk true W (hpo _ (by simp))

 obtain ⟨bq, hbq⟩ : ∃ b, b = propsGo dp [] := ⟨_, rfl⟩
 obtain ⟨bm, hbm⟩ : ∃ b, b = ml.all (fun q => mayD 6 q.1) := ⟨_, rfl⟩
 obtain ⟨bd, hbd⟩ : ∃ b, b = dl.all (fun q => mayD 5 q.1) := ⟨_, rfl⟩
 have HGV : Hid (hp = true → ∀ W, Calls Tryz.prog 60 #[.agg #[.string px, .string py, .string pz]] W fun e w' => e = .returned (.bool pb) ∧ Below W.heap.size W w') := fun h W => by
  rw [hpb, h]; exact refMayGav_any ⟨px, py, pz⟩ W (by have := hpg; exact this)
 have HZV : Hid (hp = false → pb = (decide (px = ⟨#[]⟩) && decide (py = ⟨#[]⟩) && decide (pz = ⟨#[]⟩))) := fun h => by rw [hpb, h]; unfold parentB; simp [Bool.and_assoc]
 have HR : Hid (r = (pb && ((bg && (ba && (bv && bk))) && (decide (dp.length ≤ 1024) && (bq && ((bm && decide (ml.length ≤ 1024)) && (bd && decide (dl.length ≤ 1024)))))))) := by
  show _ = _
  rw [HR0.out, hpb, hbg, hba, hbv, hbk, hbq, hbm, hbd]
  unfold mayP
  simp only
  rw [← hme, ← hde, List.all_map, List.all_map, List.length_map, List.length_map]
  rfl
 have HBB : Hid (∀ o, Below w.heap.size w (w.alloc o)) := fun o => (Below.refl _ _).alloc (Nat.le_refl _) _
 have HMS : Hid (∀ q ∈ ml, DepSm q.1) := fun q hq => hpm _ (by rw [← hme]; exact List.mem_map.2 ⟨q, hq, rfl⟩)
 have HDS : Hid (∀ q ∈ dl, DepSm q.1) := fun q hq => hpd _ (by rw [← hde]; exact List.mem_map.2 ⟨q, hq, rfl⟩)
 have HX1 := Lib.hid p1
 have HM := Lib.hid hm
 have HMO := Lib.hid hmo
 have HD := Lib.hid hd
 have HDO := Lib.hid hdo
 have HPS := Lib.hid hpp
 have HBQ := Lib.hid hbq
 have HBM := Lib.hid hbm
 have HBD := Lib.hid hbd
 have hlm : ml.length = dm.length := by rw [← hme, List.length_map]
 have hld : dl.length = dd.length := by rw [← hde, List.length_map]
 rw [hlm, hld] at HR ⊢
 rw [hlm] at HM
 rw [hld] at HD
 have HLM := Lib.hid hlm
 have HLD := Lib.hid hld
 clear hbg hba hbv hbk hpb hbq hbm hbd HR0 p1 hm hmo hd hdo hme hde hpo hpp hpm hpd hpg hlm hld
 have hcap1 : dp.length ≤ cap1 ∧ cap1 ≤ 9223372036854775807 := by obtain ⟨a, c, e, h2, h3, -⟩ := HX1.out; simp only [Value.slice.injEq] at e; obtain ⟨-, -, rfl⟩ := e; exact ⟨h2, h3⟩
 go_enter Tryz.func20, Tryz.ntmps20
 go_upto_region 1 with fail
 refine wp_world ?_
 intro W hW
 have x1 : Box W w.heap.size [.bool hp, .string px, .string py, .string pz, .string dg, .string da, .string dv, .string dk, .slice ao1 dp.length cap1, .slice ao2 dm.length cap2, .slice ao3 dd.length cap3] := by rw [hW]; exact Box.new w [.bool hp, .string px, .string py, .string pz, .string dg, .string da, .string dv, .string dk, .slice ao1 dp.length cap1, .slice ao2 dm.length cap2, .slice ao3 dd.length cap3] _ _ rfl
 have hb : Below w.heap.size w W := by rw [hW]; exact HBB.out _
 clear hW HBB
 have HX := Lib.hid x1
 have HB := Lib.hid hb
 clear x1 hb
 obtain ⟨c0, c1, c2, c3, c4, c5, c6, c7, c8, c9, c10⟩ := bxc11 HX.out
 have cl := HX.out.lt
 have HNP : Hid (pb = false → r = false) := fun h => by rw [HR.out, h]; rfl
 go_cut [29] from 11 to 29 (fun v wx => v = .bool (!pb) ∧ Hid (Below w.heap.size w wx ∧ Box wx w.heap.size [.bool hp, .string px, .string py, .string pz, .string dg, .string da, .string dv, .string dk, .slice ao1 dp.length cap1, .slice ao2 dm.length cap2, .slice ao3 dd.length cap3]))
 case first =>
  cases hp with
  | false =>
   have hz := HZV.out rfl
   by_cases e1 : px = ⟨#[]⟩
   · subst e1
     by_cases e2 : py = ⟨#[]⟩
     · subst e2
       by_cases e3 : pz = ⟨#[]⟩
       · subst e3
         have HZ : Hid (pb = true) := by show _ = _; rw [hz]; simp
         clear hz
         go_wp2
         go_meet
         case rel => exact ⟨by rw [HZ.out]; simp, HB.out, HX.out⟩
       · have hd : decide (pz = ⟨#[]⟩) = false := decide_eq_false e3
         have HZ : Hid (pb = false) := by show _ = _; rw [hz, hd]; simp
         clear hz e3
         go_wp2
         go_meet
         case rel => exact ⟨by rw [HZ.out]; simp, HB.out, HX.out⟩
     · have hd : decide (py = ⟨#[]⟩) = false := decide_eq_false e2
       have HZ : Hid (pb = false) := by show _ = _; rw [hz, hd]; simp
       clear hz e2
       go_wp2
       go_meet
       case rel => exact ⟨by rw [HZ.out]; simp, HB.out, HX.out⟩
   · have hd : decide (px = ⟨#[]⟩) = false := decide_eq_false e1
     have HZ : Hid (pb = false) := by show _ = _; rw [hz, hd]; simp
     clear hz e1
     go_wp2
     go_meet
     case rel => exact ⟨by rw [HZ.out]; simp, HB.out, HX.out⟩
  | true =>
   have HG := Lib.hid (HGV.out rfl)
   go_wp2_with fail
   refine (HG.out _).mono ?_
   rintro e w7 ⟨rfl, hb7⟩
   have HX' := Lib.hid (HX.out.below hb7 HX.out.lt)
   have HB' := Lib.hid (HB.out.trans (hb7.mono HB.out.size))
   clear c0 c1 c2 c3 c4 c5 c6 c7 c8 c9 c10 cl
   clear hb7 HX HB
   have HX := HX'
   have HB := HB'
   clear HX' HB'
   obtain ⟨c0, c1, c2, c3, c4, c5, c6, c7, c8, c9, c10⟩ := bxc11 HX.out
   have cl := HX.out.lt
   cases pb
   all_goals
    go_wp2
    go_meet
    case rel => exact ⟨rfl, HB.out, HX.out⟩
 case rest =>
  obtain ⟨rfl, hcc⟩ := hcut
  clear c0 c1 c2 c3 c4 c5 c6 c7 c8 c9 c10 cl
  clear HX HB HGV HZV
  have HB := Lib.hid hcc.out.1
  have HX := Lib.hid hcc.out.2
  clear hcc
  cases pb with
  | false =>
   have HN := Lib.hid (HNP.out rfl)
   go_wp2
   go_ret
   exact ⟨by rw [HN.out]; rfl, HB.out⟩
  | true =>
   clear HNP
   obtain ⟨c0, c1, c2, c3, c4, c5, c6, c7, c8, c9, c10⟩ := bxc11 HX.out
   have cl := HX.out.lt
   go_wp2_with fail
   refine (Hbg.out _).mono ?_
   rintro e w7 ⟨rfl, hb7⟩
   have HX' := Lib.hid (HX.out.below hb7 HX.out.lt)
   have HB' := Lib.hid (HB.out.trans (hb7.mono HB.out.size))
   clear c0 c1 c2 c3 c4 c5 c6 c7 c8 c9 c10 cl
   clear hb7 HX HB
   have HX := HX'
   have HB := HB'
   clear HX' HB'
   clear Hbg
   cases bg with
   | false =>
    obtain ⟨c0, c1, c2, c3, c4, c5, c6, c7, c8, c9, c10⟩ := bxc11 HX.out
    have cl := HX.out.lt
    go_wp2
    go_ret
    exact ⟨by rw [HR.out]; simp, HB.out⟩
   | true =>
    obtain ⟨c0, c1, c2, c3, c4, c5, c6, c7, c8, c9, c10⟩ := bxc11 HX.out
    have cl := HX.out.lt
    go_wp2_with fail
    refine (Hba.out _).mono ?_
    rintro e w7 ⟨rfl, hb7⟩
    have HX' := Lib.hid (HX.out.below hb7 HX.out.lt)
    have HB' := Lib.hid (HB.out.trans (hb7.mono HB.out.size))
    clear c0 c1 c2 c3 c4 c5 c6 c7 c8 c9 c10 cl
    clear hb7 HX HB
    have HX := HX'
    have HB := HB'
    clear HX' HB'
    clear Hba
    cases ba with
    | false =>
     obtain ⟨c0, c1, c2, c3, c4, c5, c6, c7, c8, c9, c10⟩ := bxc11 HX.out
     have cl := HX.out.lt
     go_wp2
     go_ret
     exact ⟨by rw [HR.out]; simp, HB.out⟩
    | true =>
     obtain ⟨c0, c1, c2, c3, c4, c5, c6, c7, c8, c9, c10⟩ := bxc11 HX.out
     have cl := HX.out.lt
     go_wp2_with fail
     refine (Hbv.out _).mono ?_
     rintro e w7 ⟨rfl, hb7⟩
     have HX' := Lib.hid (HX.out.below hb7 HX.out.lt)
     have HB' := Lib.hid (HB.out.trans (hb7.mono HB.out.size))
     clear c0 c1 c2 c3 c4 c5 c6 c7 c8 c9 c10 cl
     clear hb7 HX HB
     have HX := HX'
     have HB := HB'
     clear HX' HB'
     clear Hbv
     cases bv with
     | false =>
      obtain ⟨c0, c1, c2, c3, c4, c5, c6, c7, c8, c9, c10⟩ := bxc11 HX.out
      have cl := HX.out.lt
      go_wp2
      go_ret
      exact ⟨by rw [HR.out]; simp, HB.out⟩
     | true =>
      obtain ⟨c0, c1, c2, c3, c4, c5, c6, c7, c8, c9, c10⟩ := bxc11 HX.out
      have cl := HX.out.lt
      go_wp2_with fail
      refine (Hbk.out _).mono ?_
      rintro e w7 ⟨rfl, hb7⟩
      have HX' := Lib.hid (HX.out.below hb7 HX.out.lt)
      have HB' := Lib.hid (HB.out.trans (hb7.mono HB.out.size))
      clear c0 c1 c2 c3 c4 c5 c6 c7 c8 c9 c10 cl
      clear hb7 HX HB
      have HX := HX'
      have HB := HB'
      clear HX' HB'
      clear Hbk
      cases bk with
      | false =>
       obtain ⟨c0, c1, c2, c3, c4, c5, c6, c7, c8, c9, c10⟩ := bxc11 HX.out
       have cl := HX.out.lt
       go_wp2
       go_ret
       exact ⟨by rw [HR.out]; simp, HB.out⟩
      | true =>
       by_cases q1 : dp.length ≤ 1024
       rotate_left
       · have hI : (1024 : Int) < (dp.length : Int) := by omega
         have HN : Hid (r = false) := by show _ = _; rw [HR.out, decide_eq_false q1]; simp
         clear q1
         obtain ⟨c0, c1, c2, c3, c4, c5, c6, c7, c8, c9, c10⟩ := bxc11 HX.out
         have cl := HX.out.lt
         go_wp2
         go_ret
         exact ⟨by rw [HN.out]; rfl, HB.out⟩
       have hIq1 : ¬ (1024 : Int) < (dp.length : Int) := by omega
       by_cases q2 : dm.length ≤ 1024
       rotate_left
       · have hI : (1024 : Int) < (dm.length : Int) := by omega
         have HN : Hid (r = false) := by show _ = _; rw [HR.out, decide_eq_false q2]; simp
         clear q2
         obtain ⟨c0, c1, c2, c3, c4, c5, c6, c7, c8, c9, c10⟩ := bxc11 HX.out
         have cl := HX.out.lt
         go_wp2
         go_ret
         exact ⟨by rw [HN.out]; rfl, HB.out⟩
       have hIq2 : ¬ (1024 : Int) < (dm.length : Int) := by omega
       by_cases q3 : dd.length ≤ 1024
       rotate_left
       · have hI : (1024 : Int) < (dd.length : Int) := by omega
         have HN : Hid (r = false) := by show _ = _; rw [HR.out, decide_eq_false q3]; simp
         clear q3
         obtain ⟨c0, c1, c2, c3, c4, c5, c6, c7, c8, c9, c10⟩ := bxc11 HX.out
         have cl := HX.out.lt
         go_wp2
         go_ret
         exact ⟨by rw [HN.out]; rfl, HB.out⟩
       have hIq3 : ¬ (1024 : Int) < (dd.length : Int) := by omega
       have HR1 : Hid (r = (bq && (bm && bd))) := by show _ = _; rw [HR.out, decide_eq_true q1, decide_eq_true q2, decide_eq_true q3]; simp
       clear HR
       have HR := HR1
       clear HR1
       obtain ⟨c0, c1, c2, c3, c4, c5, c6, c7, c8, c9, c10⟩ := bxc11 HX.out
       have cl := HX.out.lt
       go_wp2
       clear c0 c1 c2 c3 c4 c5 c6 c7 c8 c9 c10 cl
       go_loopw [73] (fun i wr => ∃ k : Nat, k ≤ dp.length ∧ i = .int .i64 k ∧ Hid (propsGo dp [] = propsGo (dp.drop k) (dp.take k) ∧ Below w.heap.size w wr ∧ Box wr w.heap.size [.bool hp, .string px, .string py, .string pz, .string dg, .string da, .string dv, .string dk, .slice ao1 dp.length cap1, .slice ao2 dm.length cap2, .slice ao3 dd.length cap3])) (fun i _ => dp.length - (intOf i).toNat)
       case atStart => exact ⟨0, Nat.zero_le _, rfl, rfl, HB.out, HX.out⟩
       case round =>
        clear HX HB
        obtain ⟨k, hk, rfl, HRR⟩ := hrel
        by_cases hlt : k < dp.length
        · have HGO := Lib.hid (HRR.out.1.trans (propsGo_at hlt))
          have HSK := Lib.hid (HPS.out dp[k] (List.getElem_mem hlt))
          obtain ⟨g, o, rfl, hg, c0, c1⟩ := (HX1.out.below HRR.out.2.1).atPrp hlt
          have hsr := HRR.out.2.1.size
          have HLT : Hid (k < dp.length) := hlt
          generalize dp[k] = q at *
          obtain ⟨nm, vl⟩ := q
          simp only at c0 c1 HGO
          have hki : (k : Int) ≤ (cap1 : Int) := by omega
          have hkc : k ≤ cap1 := by omega
          have hk0 : (0 : Int) ≤ (k : Int) := by omega
          go_upto_region 8 with fail
          refine wp_world ?_
          intro W4 hW4
          have x4 : Box W4 wr.heap.size [.string nm, .string vl] := by rw [hW4]; exact Box.new wr [.string nm, .string vl] _ _ rfl
          have hb4 : Below wr.heap.size wr W4 := by rw [hW4]; exact (Below.refl _ _).alloc (Nat.le_refl _) _
          clear hW4 c0 c1
          have HY := Lib.hid x4
          have HB := Lib.hid (HRR.out.2.1.trans (hb4.mono hsr))
          have HX := Lib.hid (HRR.out.2.2.below hb4 HRR.out.2.2.lt)
          have HSY : Hid (w.heap.size < wr.heap.size) := HRR.out.2.2.lt
          clear x4 hb4
          have HNM := Lib.hid (fun W => refIsNm_any nm W (by have h2 : nm.size ≤ 1000000 := HSK.out.1; omega))
          have HTX := Lib.hid (fun W => plainD_any vl true W HSK.out.2)
          obtain ⟨ok, hok⟩ : ∃ b, b = okName nm.data.toList := ⟨_, rfl⟩
          obtain ⟨tx, htx⟩ : ∃ b, b = okW vl true := ⟨_, rfl⟩
          rw [← hok] at HNM HGO
          rw [← htx] at HTX HGO
          clear hok htx
          have a0 := HY.out.cell 0 _ rfl
          have a1 := HY.out.cell 1 _ rfl
          have al := HY.out.lt
          go_wp2_with fail
          refine (HNM.out _).mono ?_
          rintro e w5 ⟨rfl, hw5⟩
          obtain rfl := hw5
          have HBAD : Hid (propsGo dp [] = false → r = false) := fun h => by rw [HR.out, HBQ.out, h]; rfl
          cases ok with
          | false =>
           have HN : Hid (r = false) := HBAD.out (by rw [HGO.out]; simp)
           clear HGO
           go_wp2
           go_ret
           exact ⟨by rw [HN.out]; rfl, HB.out⟩
          | true =>
           go_wp2_with fail
           refine (HTX.out _).mono ?_
           rintro e w7 ⟨rfl, hb7⟩
           have HX' := Lib.hid (HX.out.below hb7 HX.out.lt)
           have HB' := Lib.hid (HB.out.trans (hb7.mono HB.out.size))
           have HY' := Lib.hid (HY.out.below hb7 HY.out.lt)
           clear a0 a1 al hb7 HX HB HY
           have HX := HX'
           have HB := HB'
           have HY := HY'
           clear HX' HB' HY'
           cases tx with
           | false =>
            have HN : Hid (r = false) := HBAD.out (by rw [HGO.out]; simp)
            clear HGO
            go_wp2
            go_ret
            exact ⟨by rw [HN.out]; rfl, HB.out⟩
           | true =>
            have c8 := HX.out.cell 8 _ rfl
            have cl := HX.out.lt
            go_wp2
            clear c8 cl
            obtain ⟨wo, rfl⟩ : ∃ wo : World, wo = wr := ⟨_, rfl⟩
            go_loopw [93] (fun i wr => ∃ j : Nat, j ≤ k ∧ i = .int .i64 j ∧ Hid (hasN (dp.take j) nm = false ∧ Below w.heap.size w wr ∧ Box wr w.heap.size [.bool hp, .string px, .string py, .string pz, .string dg, .string da, .string dv, .string dk, .slice (some ⟨g, o, none⟩) dp.length cap1, .slice ao2 dm.length cap2, .slice ao3 dd.length cap3] ∧ Box wr wo.heap.size [.string nm, .string vl])) (fun i _ => k - (intOf i).toNat)
            case atStart => exact ⟨0, Nat.zero_le _, rfl, rfl, HB.out, HX.out, HY.out⟩
            case round =>
             clear HX HB HY
             obtain ⟨j, hj, rfl, HJJ⟩ := hrel
             by_cases hjl : j < k
             · have hjd : j < dp.length := by omega
               have HHN := Lib.hid (hasN_take (n := nm) hjd)
               obtain ⟨g2, o2, hgo, hg2, d0, d1⟩ := (HX1.out.below HJJ.out.2.1).atPrp hjd
               simp only [Option.some.injEq, Addr.mk.injEq, and_true] at hgo
               obtain ⟨rfl, rfl⟩ := hgo
               have HMM : Hid ((dp[j].name.toList == nm.toList) = true → hasN (dp.take k) nm = true) := fun h => by
                have h1 : j < (dp.take k).length := by rw [List.length_take]; omega
                refine hasN_mem h1 ?_
                rw [List.getElem_take]; exact h
               have hsj := HJJ.out.2.1.size
               have hjI : (j : Int) < (k : Int) := by omega
               generalize dp[j] = z at *
               obtain ⟨n2, v2⟩ := z
               simp only at d0 d1 HMM HHN
               obtain ⟨eq, heq⟩ : ∃ b, b = (n2.toList == nm.toList) := ⟨_, rfl⟩
               rw [← heq] at HMM HHN
               have ke : (nm.toList == n2.toList) = eq := by rw [heq, str_beq, str_beq]; exact decide_eq_decide.2 eq_comm
               clear heq
               go_upto_region 13 with fail
               refine wp_world ?_
               intro W6 hW6
               have x6 : Box W6 wr.heap.size [.string n2, .string v2] := by rw [hW6]; exact Box.new wr [.string n2, .string v2] _ _ rfl
               have hb6 : Below wr.heap.size wr W6 := by rw [hW6]; exact (Below.refl _ _).alloc (Nat.le_refl _) _
               clear hW6 d0 d1
               have e0 := x6.cell 0 _ rfl
               have el := x6.lt
               have HB := Lib.hid (HJJ.out.2.1.trans (hb6.mono hsj))
               have HX := Lib.hid (HJJ.out.2.2.1.below hb6 HJJ.out.2.2.1.lt)
               have HY := Lib.hid (HJJ.out.2.2.2.below hb6 HJJ.out.2.2.2.lt)
               have a0 := HY.out.cell 0 _ rfl
               clear x6 hb6
               cases eq with
               | true =>
                have HN : Hid (r = false) := HBAD.out (by rw [HGO.out, HMM.out rfl]; rfl)
                clear HHN HMM HGO
                go_wp2
                go_ret
                exact ⟨by rw [HN.out]; rfl, HB.out⟩
               | false =>
                have HT : Hid (hasN (dp.take (j + 1)) nm = false) := by show _ = _; rw [HHN.out, HJJ.out.1]; rfl
                clear HHN HMM
                go_wp2
                go_roundw
                case rel => exact ⟨j + 1, hjl, by go_num, HT.out, HB.out, HX.out, HY.out⟩
                case measure => simp [intOf]; omega
             · obtain rfl : j = k := by omega
               have HB := Lib.hid HJJ.out.2.1
               have HX := Lib.hid HJJ.out.2.2.1
               have HT : Hid (propsGo dp [] = propsGo (dp.drop (j + 1)) (dp.take (j + 1))) := by show _ = _; rw [HGO.out, HJJ.out.1]; rfl
               clear hjl HJJ HGO
               go_wp2
               go_roundw
               case rel => exact ⟨j + 1, HLT.out, by go_num, HT.out, HB.out, HX.out⟩
               case measure => simp [intOf]; have := HLT.out; omega
        · obtain rfl : k = dp.length := by omega
          have HB := Lib.hid HRR.out.2.1
          have HX := Lib.hid HRR.out.2.2
          have hbq1 : bq = true := by rw [HBQ.out, HRR.out.1, List.drop_length]; rfl
          have HR1 := Lib.hid (HR.out.trans (by rw [hbq1]))
          clear hlt HRR hbq1 HR HBQ HPS
          have HR := HR1
          clear HR1
          obtain ⟨c0, c1, c2, c3, c4, c5, c6, c7, c8, c9, c10⟩ := bxc11 HX.out
          have cl := HX.out.lt
          go_wp2
          clear c0 c1 c2 c3 c4 c5 c6 c7 c8 c9 c10 cl
          obtain ⟨wo, rfl⟩ : ∃ wo : World, wo = wr := ⟨_, rfl⟩
          go_loopw [107] (fun i wr => ∃ k : Nat, k ≤ dm.length ∧ i = .int .i64 k ∧ Hid ((ml.take k).all (fun q => mayD 6 q.1) = true ∧ Below w.heap.size w wr ∧ Box wr w.heap.size [.bool hp, .string px, .string py, .string pz, .string dg, .string da, .string dv, .string dk, .slice ao1 dp.length cap1, .slice ao2 dm.length cap2, .slice ao3 dd.length cap3])) (fun i _ => dm.length - (intOf i).toNat)
          case atStart => exact ⟨0, Nat.zero_le _, rfl, rfl, HB.out, HX.out⟩
          case round =>
           clear HX HB
           obtain ⟨k, hk, rfl, HRR⟩ := hrel
           by_cases hlt : k < dm.length
           · have hlt2 : k < ml.length := by have := HLM.out; omega
             have HTK := Lib.hid (all_take2 (p := fun q : Dep × Value => mayD 6 q.1) hlt2)
             have HNO := Lib.hid (fun h => all_no2 (p := fun q : Dep × Value => mayD 6 q.1) hlt2 h)
             have HSK := Lib.hid (HMS.out ml[k] (List.getElem_mem hlt2))
             have hok := (HMO.out ml[k] (List.getElem_mem hlt2)).below HRR.out.2.1
             have hll := HM.out.below HRR.out.2.1
             rw [← HLM.out] at hll
             obtain ⟨g, o, rfl, hg, c0, c1, c2, c3, c4, c5, c6, c7⟩ := hll.atDep hlt2
             have hsr := HRR.out.2.1.size
             clear hll
             generalize ml[k] = q at *
             obtain ⟨qd, qx⟩ := q
             obtain ⟨xo, xc, rfl⟩ := hok.shape
             simp only at c0 c1 c2 c3 c4 c5 c6 c7
             have HOK : Hid (SliceOf 2 idC wr (.slice xo qd.excl.length xc) qd.excl) := hok
             clear hok
             go_upto_region 20 with fail
             refine wp_world ?_
             intro W4 hW4
             have x4 : Box W4 wr.heap.size [.string qd.group, .string qd.artifact, .string qd.version, .string qd.type, .string qd.classifier, .int .i64 qd.scope, .int .i64 qd.opt, .slice xo qd.excl.length xc] := by rw [hW4]; exact Box.new wr [.string qd.group, .string qd.artifact, .string qd.version, .string qd.type, .string qd.classifier, .int .i64 qd.scope, .int .i64 qd.opt, .slice xo qd.excl.length xc] _ _ rfl
             have hb4 : Below wr.heap.size wr W4 := by rw [hW4]; exact (Below.refl _ _).alloc (Nat.le_refl _) _
             clear hW4 c0 c1 c2 c3 c4 c5 c6 c7
             obtain ⟨a0, a1, a2, a3, a4, a5, a6, a7⟩ := bxc8 x4
             have al := x4.lt
             have HB4 := Lib.hid (HRR.out.2.1.trans (hb4.mono hsr))
             have HX4 := Lib.hid (HRR.out.2.2.below hb4 HRR.out.2.2.lt)
             have HDM : Hid (Calls Tryz.prog 63 #[.agg #[.string qd.group, .string qd.artifact, .string qd.version, .string qd.type, .string qd.classifier, .int .i64 qd.scope, .int .i64 qd.opt, .slice xo qd.excl.length xc], .int .i64 6] W4 fun e w' => e = .returned (.bool (mayD 6 qd)) ∧ Below W4.heap.size W4 w') := mayDepD_any qd (.slice xo qd.excl.length xc) 6 W4 (HOK.out.below hb4) HSK.out.own HSK.out.ex
             clear x4 hb4 HOK
             obtain ⟨b, hb⟩ : ∃ b, b = mayD 6 qd := ⟨_, rfl⟩
             rw [← hb] at HDM
             have HBQ := Lib.hid hb
             clear hb
             go_wp2_with fail
             refine HDM.out.mono ?_
             rintro e w7 ⟨rfl, hb7⟩
             have HB := Lib.hid (HB4.out.trans (hb7.mono HB4.out.size))
             have HX := Lib.hid (HX4.out.below hb7 HX4.out.lt)
             clear a0 a1 a2 a3 a4 a5 a6 a7 al hb7 HDM HB4 HX4
             cases b with
             | false =>
              have HN : Hid (r = false) := by show _ = _; rw [HR.out, HBM.out, HNO.out HBQ.out.symm]; simp
              clear HTK HNO
              go_wp2
              go_ret
              exact ⟨by rw [HN.out]; rfl, HB.out⟩
             | true =>
              have HT2 : Hid ((ml.take (k + 1)).all (fun q => mayD 6 q.1) = true) := by show _ = _; rw [HTK.out, HRR.out.1]; exact HBQ.out.symm
              clear HTK HNO
              go_wp2
              go_roundw
              case rel => exact ⟨k + 1, hlt, by go_num, HT2.out, HB.out, HX.out⟩
              case measure => simp [intOf]; omega
           · obtain rfl : k = dm.length := by omega
             have HB := Lib.hid HRR.out.2.1
             have HX := Lib.hid HRR.out.2.2
             have h1 := HRR.out.1
             rw [← HLM.out, List.take_length] at h1
             have HR1 := Lib.hid (HR.out.trans (by rw [HBM.out, h1]))
             clear hlt HRR h1 HR HBM
             have HR := HR1
             clear HR1
             obtain ⟨c0, c1, c2, c3, c4, c5, c6, c7, c8, c9, c10⟩ := bxc11 HX.out
             have cl := HX.out.lt
             go_wp2
             clear c0 c1 c2 c3 c4 c5 c6 c7 c8 c9 c10 cl
             obtain ⟨wo, rfl⟩ : ∃ wo : World, wo = wr := ⟨_, rfl⟩
             go_loopw [118] (fun i wr => ∃ k : Nat, k ≤ dd.length ∧ i = .int .i64 k ∧ Hid ((dl.take k).all (fun q => mayD 5 q.1) = true ∧ Below w.heap.size w wr ∧ Box wr w.heap.size [.bool hp, .string px, .string py, .string pz, .string dg, .string da, .string dv, .string dk, .slice ao1 dp.length cap1, .slice ao2 dm.length cap2, .slice ao3 dd.length cap3])) (fun i _ => dd.length - (intOf i).toNat)
             case atStart => exact ⟨0, Nat.zero_le _, rfl, rfl, HB.out, HX.out⟩
             case round =>
              clear HX HB
              obtain ⟨k, hk, rfl, HRR⟩ := hrel
              by_cases hlt : k < dd.length
              · have hlt2 : k < dl.length := by have := HLD.out; omega
                have HTK := Lib.hid (all_take2 (p := fun q : Dep × Value => mayD 5 q.1) hlt2)
                have HNO := Lib.hid (fun h => all_no2 (p := fun q : Dep × Value => mayD 5 q.1) hlt2 h)
                have HSK := Lib.hid (HDS.out dl[k] (List.getElem_mem hlt2))
                have hok := (HDO.out dl[k] (List.getElem_mem hlt2)).below HRR.out.2.1
                have hll := HD.out.below HRR.out.2.1
                rw [← HLD.out] at hll
                obtain ⟨g, o, rfl, hg, c0, c1, c2, c3, c4, c5, c6, c7⟩ := hll.atDep hlt2
                have hsr := HRR.out.2.1.size
                clear hll
                generalize dl[k] = q at *
                obtain ⟨qd, qx⟩ := q
                obtain ⟨xo, xc, rfl⟩ := hok.shape
                simp only at c0 c1 c2 c3 c4 c5 c6 c7
                have HOK : Hid (SliceOf 2 idC wr (.slice xo qd.excl.length xc) qd.excl) := hok
                clear hok
                go_upto_region 26 with fail
                refine wp_world ?_
                intro W4 hW4
                have x4 : Box W4 wr.heap.size [.string qd.group, .string qd.artifact, .string qd.version, .string qd.type, .string qd.classifier, .int .i64 qd.scope, .int .i64 qd.opt, .slice xo qd.excl.length xc] := by rw [hW4]; exact Box.new wr [.string qd.group, .string qd.artifact, .string qd.version, .string qd.type, .string qd.classifier, .int .i64 qd.scope, .int .i64 qd.opt, .slice xo qd.excl.length xc] _ _ rfl
                have hb4 : Below wr.heap.size wr W4 := by rw [hW4]; exact (Below.refl _ _).alloc (Nat.le_refl _) _
                clear hW4 c0 c1 c2 c3 c4 c5 c6 c7
                obtain ⟨a0, a1, a2, a3, a4, a5, a6, a7⟩ := bxc8 x4
                have al := x4.lt
                have HB4 := Lib.hid (HRR.out.2.1.trans (hb4.mono hsr))
                have HX4 := Lib.hid (HRR.out.2.2.below hb4 HRR.out.2.2.lt)
                have HDM : Hid (Calls Tryz.prog 63 #[.agg #[.string qd.group, .string qd.artifact, .string qd.version, .string qd.type, .string qd.classifier, .int .i64 qd.scope, .int .i64 qd.opt, .slice xo qd.excl.length xc], .int .i64 5] W4 fun e w' => e = .returned (.bool (mayD 5 qd)) ∧ Below W4.heap.size W4 w') := mayDepD_any qd (.slice xo qd.excl.length xc) 5 W4 (HOK.out.below hb4) HSK.out.own HSK.out.ex
                clear x4 hb4 HOK
                obtain ⟨b, hb⟩ : ∃ b, b = mayD 5 qd := ⟨_, rfl⟩
                rw [← hb] at HDM
                have HBQ := Lib.hid hb
                clear hb
                go_wp2_with fail
                refine HDM.out.mono ?_
                rintro e w7 ⟨rfl, hb7⟩
                have HB := Lib.hid (HB4.out.trans (hb7.mono HB4.out.size))
                have HX := Lib.hid (HX4.out.below hb7 HX4.out.lt)
                clear a0 a1 a2 a3 a4 a5 a6 a7 al hb7 HDM HB4 HX4
                cases b with
                | false =>
                 have HN : Hid (r = false) := by show _ = _; rw [HR.out, HBD.out, HNO.out HBQ.out.symm]; rfl
                 clear HTK HNO
                 go_wp2
                 go_ret
                 exact ⟨by rw [HN.out]; rfl, HB.out⟩
                | true =>
                 have HT2 : Hid ((dl.take (k + 1)).all (fun q => mayD 5 q.1) = true) := by show _ = _; rw [HTK.out, HRR.out.1]; exact HBQ.out.symm
                 clear HTK HNO
                 go_wp2
                 go_roundw
                 case rel => exact ⟨k + 1, hlt, by go_num, HT2.out, HB.out, HX.out⟩
                 case measure => simp [intOf]; omega
              · obtain rfl : k = dd.length := by omega
                have HB := Lib.hid HRR.out.2.1
                have HX := Lib.hid HRR.out.2.2
                have h1 := HRR.out.1
                rw [← HLD.out, List.take_length] at h1
                have HR1 := Lib.hid (HR.out.trans (by rw [HBD.out, h1]))
                clear hlt HRR h1 HR HBD
                have HR := HR1
                clear HR1
                go_wp2
                go_ret
                exact ⟨by rw [HR.out]; rfl, HB.out⟩

end Go.Proofs.YtbbbfjcikhpmbaaGreat

/- Rows of nodes of the call's own that grow; walks of pom's leaf and branch; the conditions stand in the theorems. -/

namespace Go.Proofs.YtbbbfjcikhpmbaaGreat
open Go Go.RowKit

/-- A row of trees made by the call: all in blocks from b on, no tree in the row's own block. -/
structure Grow (b : Nat) (w : World) (v : Value) (ts : List Tr) (L : List TrV) : Prop where
 are : L.map (·.1) = ts
 own : Owns b 25 4 trC w v L
 nodes : ∀ y ∈ L, NodeX (fun j => j < b ∨ some j = v.ownBlock) w y.1 y.2.1 y.2.2
theorem Grow.len {b : Nat} {w : World} {v : Value} {ts : List Tr} {L : List TrV} (h : Grow b w v ts L) : L.length = ts.length := by rw [← h.are, List.length_map]
theorem Grow.nil (b : Nat) (w : World) : Grow b w (.slice none 0 0) [] [] := ⟨rfl, Owns.nil, by simp⟩
theorem Grow.below {b : Nat} {w w' : World} {v : Value} {ts : List Tr} {L : List TrV} (h : Grow b w v ts L) (hb : Below w.heap.size w w') : Grow b w' v ts L :=
 ⟨h.are, h.own.below hb, fun y hy => (h.nodes y hy).later hb⟩
theorem Grow.lt {b : Nat} {w : World} {v : Value} {ts : List Tr} {L : List TrV} (h : Grow b w v ts L) : ∀ g, v.ownBlock = some g → b ≤ g ∧ g < w.heap.size := h.own.lt
/-- Another row of nodes that stands by itself. -/
theorem Grow.sliceX {b : Nat} {w : World} {v : Value} {ts : List Tr} {L : List TrV} (h : Grow b w v ts L) {X : Nat → Prop} (hX : ∀ g, v.ownBlock = some g → ¬ X g) : SliceX 4 trC X w v L := h.own.toX trC_len hX
/-- One more tree, all of it in blocks from B on, behind the row. -/
theorem Grow.snoc {b : Nat} {w w1 w' : World} {v v' : Value} {ts : List Tr} {L : List TrV} {t : Tr} {av kv : Value} (h : Grow b w v ts L) (hw : Below w.heap.size w w1) (hown : Owns b 25 4 trC w' v' (L ++ [(t, av, kv)])) (hg : w1.grownBy w' v.ownBlock)
    (hl : v'.ownBlock = v.ownBlock ∨ v'.ownBlock = some w1.heap.size) (hn : NodeX (fun j => j < b ∨ some j = v.ownBlock) w1 t av kv) : Grow b w' v' (ts ++ [t]) (L ++ [(t, av, kv)]) := by
 have hY : ∀ k, k < w1.heap.size → (k < b ∨ some k = v'.ownBlock) → (k < b ∨ some k = v.ownBlock) := fun k hk h => h.elim .inl (fun h => by
  rcases hl with e | e
  · exact .inr (by rw [h, e])
  · rw [e] at h; cases h; omega)
 have hk1 : KeptX (fun j => j < b ∨ some j = v.ownBlock) w1 w' := KeptX.grown hg (fun g e => .inr e.symm)
 refine ⟨by rw [List.map_append, h.are]; rfl, hown, fun y hy => ?_⟩
 rcases List.mem_append.1 hy with hy | hy
 · exact ((h.nodes y hy).later hw).keep hk1 hY
 · obtain rfl := List.mem_singleton.1 hy
   exact hn.keep hk1 hY
def leafT (n : Bs) (s : S) : List Tr := if s.toList.isEmpty then [] else [.mk n [] [.mk [] [] [] s.data.toList] []]
def branchT (n : Bs) (l : List Tr) : List Tr := match l with
 | [] => []
 | k :: r => [.mk n [] (k :: r) []]
theorem tr_one (n : Bs) (a1 a3 : Option Addr) (l1 l3 c1 c3 : Nat) (x : Bs) (ats : List At2) (ks : List Tr) : ∀ u ∈ trC (.mk n ats ks x, .slice a1 l1 c1, .slice a3 l3 c3), u.oneCell' = true := by
 intro u hu
 simp only [trC, nodeC, List.mem_cons, List.not_mem_nil, or_false] at hu
 rcases hu with rfl | rfl | rfl | rfl <;> rfl
theorem tr_lit (y : TrV) (W : World) (H : Nat) (hH : W.heap.size = H) : SliceOf 4 trC (W.alloc (.cells (trC y).toArray 25)) (.slice (some ⟨H, 0, none⟩) 1 1) [y] := by
 have h := sliceLit trC_len W [y] 25 H 1 hH rfl (by unfold maxLen; simp)
 simpa using h
/-- A leaf just made. -/
theorem leaf_node (X : Nat → Prop) (n x : Bs) (w : World) (H : Nat) (hH : w.heap.size = H) (hX : ¬ X H) : NodeX X (w.alloc (.cells #[.string ⟨#[]⟩, .slice none 0 0, .slice none 0 0, .string (bs x)] 25)) (.mk n [] [.mk [] [] [] x] []) (.slice none 0 0) (.slice (some ⟨H, 0, none⟩) 1 1) := by
 have hl := tr_lit ((.mk [] [] [] x, .slice none 0 0, .slice none 0 0) : TrV) w H hH
 refine .mk [(.mk [] [] [] x, .slice none 0 0, .slice none 0 0)] SliceX.nil rfl ?_ ?_
 · obtain ⟨ao, cap, e, h1, h2, h3, h4⟩ := hl
   simp only [Value.slice.injEq] at e
   obtain ⟨rfl, -, rfl⟩ := e
   refine ⟨_, _, rfl, h1, h2, h3, fun i y hy => ?_⟩
   obtain ⟨g, o, e1, e2, e3⟩ := h4 i y hy
   cases e1
   exact ⟨_, _, rfl, e2, hX, e3⟩
 · intro y hy
   obtain rfl := List.mem_singleton.1 hy
   exact .mk [] SliceX.nil rfl SliceX.nil (by simp)
/-- The post of a function that lets a row grow. -/
def GrowP (b : Nat) (w : World) (v : Value) (ts : List Tr) (e : Ending) (w' : World) : Prop := ∃ v' L', e = .returned v' ∧ Grow b w' v' ts L' ∧ w.grownBy w' v.ownBlock ∧ (v'.ownBlock = v.ownBlock ∨ ∃ g, v'.ownBlock = some g ∧ w.heap.size ≤ g)
set_option maxRecDepth 100000 in
set_option maxHeartbeats 4000000 in
theorem leafQ_any (b : Nat) (v : Value) (ts : List Tr) (L : List TrV) (n : Bs) (s : S) (w : World) (h : Grow b w v ts L) (hb : b ≤ w.heap.size) (hl : ts.length ≤ 100000) :
    Calls Tryz.prog 54 #[v, .string (bs n), .string s] w (GrowP b w v (ts ++ leafT n s)) := by
 have hLl := h.len
 obtain ⟨ao, ac, rfl⟩ := h.own.shape
 have HG := Lib.hid h
 have HLL := Lib.hid hLl
 have HLM : Hid (L.length ≤ 100000) := by show _ ≤ _; omega
 have HBW : Hid (b ≤ w.heap.size) := hb
 obtain ⟨em, hem⟩ : ∃ em, em = s.toList.isEmpty := ⟨_, rfl⟩
 have HE : Hid (leafT n s = if em then [] else [.mk n [] [.mk [] [] [] s.data.toList] []]) := by show _ = _; rw [hem]; rfl
 have hE : s.toList.isEmpty = em := hem.symm
 clear h hLl hl hb hem
 cases em with
 | true =>
  have HT : Hid (leafT n s = []) := HE.out
  clear HE
  go_enter Tryz.func54, Tryz.ntmps54
  go_wp2
  go_ret
  refine ⟨_, L, rfl, ?_, World.grownBy.refl _ _, .inl rfl⟩
  rw [HT.out, List.append_nil]
  exact HG.out
 | false =>
  have HT : Hid (leafT n s = [.mk n [] [.mk [] [] [] s.data.toList] []]) := HE.out
  have HA : Hid (∀ o1, Grow b (w.alloc o1) (.slice ao L.length ac) ts L) := fun o1 => HG.out.below ((Below.refl _ w).alloc (Nat.le_refl _) o1)
  have HA2 : Hid (∀ o1 o2, Grow b ((w.alloc o1).alloc o2) (.slice ao L.length ac) ts L) := fun o1 o2 => HG.out.below (((Below.refl _ w).alloc (Nat.le_refl _) o1).alloc (by simp) o2)
  have HLT : Hid (SliceOf 4 trC ((w.alloc (.cells #[.string ⟨#[]⟩, .slice none 0 0, .slice none 0 0, .string s] 25)).alloc (.cells #[.string (bs n), .slice none 0 0, .slice (some ⟨w.heap.size, 0, none⟩) 1 1, .string ⟨#[]⟩] 25)) (.slice (some ⟨w.heap.size + 1, 0, none⟩) 1 1) [((.mk n [] [.mk [] [] [] s.data.toList] [], .slice none 0 0, .slice (some ⟨w.heap.size, 0, none⟩) 1 1) : TrV)]) := tr_lit (.mk n [] [.mk [] [] [] s.data.toList] [], .slice none 0 0, .slice (some ⟨w.heap.size, 0, none⟩) 1 1) (w.alloc _) (w.heap.size + 1) (by simp)
  have HND : Hid (NodeX (fun j => j < b ∨ some j = (Value.slice ao L.length ac).ownBlock) ((w.alloc (.cells #[.string ⟨#[]⟩, .slice none 0 0, .slice none 0 0, .string s] 25)).alloc (.cells #[.string (bs n), .slice none 0 0, .slice (some ⟨w.heap.size, 0, none⟩) 1 1, .string ⟨#[]⟩] 25)) (.mk n [] [.mk [] [] [] s.data.toList] []) (.slice none 0 0) (.slice (some ⟨w.heap.size, 0, none⟩) 1 1)) := by
   have h1 := leaf_node (fun j => j < b ∨ some j = (Value.slice ao L.length ac).ownBlock) n s.data.toList w w.heap.size rfl (fun h => h.elim (fun h => absurd HBW.out (by omega)) (fun h => by have := (HG.out.lt _ h.symm).2; omega))
   rw [data_bs] at h1
   exact h1.later ((Below.refl _ _).alloc (Nat.le_refl _) _)
  go_enter Tryz.func54, Tryz.ntmps54
  go_wp2_with (at_builtin; refine wpList_append_slice _ rfl _ _ 23 rfl b 25 Tryz.underlying23 info_node rfl (by decide) trC_len (.slice ao L.length ac) L rfl (HA2.out _ _).own _ [((.mk n [] [.mk [] [] [] s.data.toList] [], .slice none 0 0, .slice (some ⟨w.heap.size, 0, none⟩) 1 1) : TrV)] rfl HLT.out (fun y hy => by obtain rfl := List.mem_singleton.1 hy; exact tr_one _ _ _ _ _ _ _ _ _ _) (by have h1 := HLM.out; simp only [List.length_cons, List.length_nil]; omega) (by decide) (by have h1 := HBW.out; simp; omega) ?_; intro v9 w9 hown9 hgrow9 hloc9; have HO9 := Lib.hid hown9; have HG9 := Lib.hid hgrow9; have HL9 := Lib.hid hloc9; clear hown9 hgrow9 hloc9)
  go_ret
  have hal : Below w.heap.size w ((w.alloc (.cells #[.string ⟨#[]⟩, .slice none 0 0, .slice none 0 0, .string s] 25)).alloc (.cells #[.string (bs n), .slice none 0 0, .slice (some ⟨w.heap.size, 0, none⟩) 1 1, .string ⟨#[]⟩] 25)) := ((Below.refl _ w).alloc (Nat.le_refl _) _).alloc (by simp) _
  refine ⟨v9, L ++ [(.mk n [] [.mk [] [] [] s.data.toList] [], .slice none 0 0, .slice (some ⟨w.heap.size, 0, none⟩) 1 1)], rfl, ?_, grown_after hal HG9.out, ?_⟩
  · rw [HT.out]
    exact HG.out.snoc hal HO9.out HG9.out HL9.out HND.out
  · exact HL9.out.imp id (fun h => ⟨_, h, by simp; omega⟩)
set_option maxRecDepth 100000 in
set_option maxHeartbeats 4000000 in
theorem branchQ_any (b kb : Nat) (v kv : Value) (ts ks : List Tr) (L KL : List TrV) (n : Bs) (w : World) (h : Grow b w v ts L) (hk : Grow kb w kv ks KL) (hb : b ≤ kb) (hv : ∀ g, v.ownBlock = some g → g < kb) (hbw : b ≤ w.heap.size) (hl : ts.length ≤ 100000) :
    Calls Tryz.prog 53 #[v, .string (bs n), kv] w (GrowP b w v (ts ++ branchT n ks)) := by
 have hLl := h.len
 have hKl := hk.len
 have hkm : KL.length ≤ 9223372036854775807 := by obtain ⟨a, c, e, h2, h3, -⟩ := hk.own.slice trC_len; exact Nat.le_trans h2 (Nat.le_trans h3 (by decide))
 obtain ⟨ao, ac, rfl⟩ := h.own.shape
 obtain ⟨ko, kc, rfl⟩ := hk.own.shape
 have HG := Lib.hid h
 have HK := Lib.hid hk
 have HLL := Lib.hid hLl
 have HLM : Hid (L.length ≤ 100000) := by show _ ≤ _; omega
 have HBK : Hid (b ≤ kb) := hb
 have HBW : Hid (b ≤ w.heap.size) := hbw
 have HV := Lib.hid hv
 clear h hk hLl hl hb hv hbw
 by_cases h0 : KL.length = 0
 · have HT : Hid (branchT n ks = []) := by
    show _ = _
    have : ks = [] := List.eq_nil_of_length_eq_zero (by omega)
    rw [this]; rfl
   have hz : ((KL.length : Int) == 0) = true := by rw [h0]; rfl
   clear hKl
   go_enter Tryz.func53, Tryz.ntmps53
   go_wp2
   go_ret
   refine ⟨_, L, rfl, ?_, World.grownBy.refl _ _, .inl rfl⟩
   rw [HT.out, List.append_nil]
   exact HG.out
 · have HT : Hid (branchT n ks = [.mk n [] ks []]) := by
    show _ = _
    cases ks with
    | nil => exact absurd hKl h0
    | cons k r => rfl
   have hz : ((KL.length : Int) == 0) = false := beq_eq_false_iff_ne.2 (by omega)
   have HA : Hid (∀ o1, Grow b (w.alloc o1) (.slice ao L.length ac) ts L) := fun o1 => HG.out.below ((Below.refl _ w).alloc (Nat.le_refl _) o1)
   have HLT : Hid (SliceOf 4 trC (w.alloc (.cells #[.string (bs n), .slice none 0 0, .slice ko KL.length kc, .string ⟨#[]⟩] 25)) (.slice (some ⟨w.heap.size, 0, none⟩) 1 1) [((.mk n [] ks [], .slice none 0 0, .slice ko KL.length kc) : TrV)]) := tr_lit (.mk n [] ks [], .slice none 0 0, .slice ko KL.length kc) w w.heap.size rfl
   have HND : Hid (NodeX (fun j => j < b ∨ some j = (Value.slice ao L.length ac).ownBlock) w (.mk n [] ks []) (.slice none 0 0) (.slice ko KL.length kc)) := by
    refine .mk KL SliceX.nil HK.out.are (HK.out.sliceX ?_) (fun y hy => (HK.out.nodes y hy).keep (KeptX.refl _ _) ?_)
    · intro g hg hX
      have h1 := (HK.out.lt g hg).1
      have h2 := HBK.out
      rcases hX with hX | hX
      · omega
      · have := HV.out g hX.symm; omega
    · intro j _ hX
      have h2 := HBK.out
      rcases hX with hX | hX
      · exact .inl (by omega)
      · exact .inl (HV.out j hX.symm)
   clear hKl h0
   go_enter Tryz.func53, Tryz.ntmps53
   go_wp2_with (at_builtin; refine wpList_append_slice _ rfl _ _ 23 rfl b 25 Tryz.underlying23 info_node rfl (by decide) trC_len (.slice ao L.length ac) L rfl (HA.out _).own _ [((.mk n [] ks [], .slice none 0 0, .slice ko KL.length kc) : TrV)] rfl HLT.out (fun y hy => by obtain rfl := List.mem_singleton.1 hy; exact tr_one _ _ _ _ _ _ _ _ _ _) (by have h1 := HLM.out; simp only [List.length_cons, List.length_nil]; omega) (by decide) (by have h1 := HBW.out; simp; omega) ?_; intro v9 w9 hown9 hgrow9 hloc9; have HO9 := Lib.hid hown9; have HG9 := Lib.hid hgrow9; have HL9 := Lib.hid hloc9; clear hown9 hgrow9 hloc9)
   go_ret
   have hal : Below w.heap.size w (w.alloc (.cells #[.string (bs n), .slice none 0 0, .slice ko KL.length kc, .string ⟨#[]⟩] 25)) := (Below.refl _ w).alloc (Nat.le_refl _) _
   refine ⟨v9, L ++ [(.mk n [] ks [], .slice none 0 0, .slice ko KL.length kc)], rfl, ?_, grown_after hal HG9.out, ?_⟩
   · rw [HT.out]
     exact HG.out.snoc hal HO9.out HG9.out HL9.out (HND.out.later hal)
   · exact HL9.out.imp id (fun h => ⟨_, h, by simp⟩)

end Go.Proofs.YtbbbfjcikhpmbaaGreat
