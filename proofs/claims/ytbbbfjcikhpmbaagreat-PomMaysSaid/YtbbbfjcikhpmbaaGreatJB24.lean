/- The walk of the document's May of projects; the conditions stand in the theorem. -/
import Derived.Test.YtbbbfjcikhpmbaaGreatJB23
import Derived.Test.YtbbbfjcikhpmbaaGreatJB19

namespace Go.Proofs.YtbbbfjcikhpmbaaGreat
open Go Go.RowKit

attribute [local go_sem ↓] eqg_prp neq_prp eqg_id neq_id eqg_gav eql_gav neq_gavQ
set_option maxRecDepth 100000 in
set_option maxHeartbeats 16000000 in
theorem mayPD_any (p : Pom) (pv mv dv : Value) (w : World) (hp : PomOf w (.agg (pomC p pv mv dv).toArray) p pv mv dv) (hs : PomSm p) :
    Calls Tryz.prog 20 #[.agg (pomC p pv mv dv).toArray] w fun e w' => e = .returned (.bool (mayP p)) ∧ Below w.heap.size w w' := by
  obtain ⟨r, hr⟩ : ∃ r, r = mayP p := ⟨_, rfl⟩
  have HR0 : Hid (r = mayP p) := hr
  rw [← hr]
  clear hr
  obtain ⟨-, p1, p2, p3⟩ := hp
  obtain ⟨hpo, hpp, hpm, hpd, hpg⟩ := hs
  obtain ⟨hp, ⟨px, py, pz⟩, dg, da, dv, dk, dp, dm, dd⟩ := p
  simp only [pomC]
  simp only at p1 p2 p3 hpo hpp hpm hpd hpg
  have hl1 : dp.length ≤ 9223372036854775807 := by obtain ⟨a, c, e, h2, h3, -⟩ := p1; exact Nat.le_trans h2 (Nat.le_trans h3 (by decide))
  obtain ⟨ao1, cap1, rfl⟩ := p1.shape
  obtain ⟨ml, hme, hm, hmo⟩ := p2
  obtain ⟨ao2, cap2, rfl⟩ := hm.shape
  obtain ⟨dl, hde, hd, hdo⟩ := p3
  obtain ⟨ao3, cap3, rfl⟩ := hd.shape
  obtain ⟨bg, hbg⟩ : ∃ b, b = okW dg true := ⟨_, rfl⟩
  obtain ⟨ba, hba⟩ : ∃ b, b = okW da false := ⟨_, rfl⟩
  obtain ⟨bv, hbv⟩ : ∃ b, b = okW dv true := ⟨_, rfl⟩
  obtain ⟨bk, hbk⟩ : ∃ b, b = okW dk true := ⟨_, rfl⟩
  obtain ⟨pb, hpb⟩ : ∃ b, b = parentB hp ⟨px, py, pz⟩ := ⟨_, rfl⟩
  have Hbg : Hid (∀ W, Calls Tryz.prog 61 #[.string dg, .bool true] W fun e w' => e = .returned (.bool bg) ∧ Below W.heap.size W w') := fun W => by rw [hbg]; exact plainD_any dg true W (hpo _ (by simp))
  have Hba : Hid (∀ W, Calls Tryz.prog 61 #[.string da, .bool false] W fun e w' => e = .returned (.bool ba) ∧ Below W.heap.size W w') := fun W => by rw [hba]; exact plainD_any da false W (hpo _ (by simp))
  have Hbv : Hid (∀ W, Calls Tryz.prog 61 #[.string dv, .bool true] W fun e w' => e = .returned (.bool bv) ∧ Below W.heap.size W w') := fun W => by rw [hbv]; exact plainD_any dv true W (hpo _ (by simp))
  have Hbk : Hid (∀ W, Calls Tryz.prog 61 #[.string dk, .bool true] W fun e w' => e = .returned (.bool bk) ∧ Below W.heap.size W w') := fun W => by rw [hbk]; exact plainD_any dk true W (hpo _ (by simp))

  obtain ⟨bq, hbq⟩ : ∃ b, b = propsGo dp [] := ⟨_, rfl⟩
  obtain ⟨bm, hbm⟩ : ∃ b, b = ml.all (fun q => mayD 6 q.1) := ⟨_, rfl⟩
  obtain ⟨bd, hbd⟩ : ∃ b, b = dl.all (fun q => mayD 5 q.1) := ⟨_, rfl⟩
  have HGV : Hid (hp = true → ∀ W, Calls Tryz.prog 60 #[.agg #[.string px, .string py, .string pz]] W fun e w' => e = .returned (.bool pb) ∧ Below W.heap.size W w') := fun h W => by
    rw [hpb, h]; exact refMayGav_any ⟨px, py, pz⟩ W (by have := hpg; exact this)
  have HZV : Hid (hp = false → pb = (decide (px = ⟨#[]⟩) && decide (py = ⟨#[]⟩) && decide (pz = ⟨#[]⟩))) := fun h => by rw [hpb, h]; unfold parentB; simp [Bool.and_assoc]
  have HR : Hid (r = (pb && ((bg && (ba && (bv && bk))) && (decide (dp.length ≤ 1024) && (bq && ((bm && decide (ml.length ≤ 1024)) && (bd && decide (dl.length ≤ 1024)))))))) := by
    show _ = _
    rw [HR0.out, hpb, hbg, hba, hbv, hbk, hbq, hbm, hbd]
    unfold mayP
    simp only
    rw [← hme, ← hde, List.all_map, List.all_map, List.length_map, List.length_map]
    rfl
  have HBB : Hid (∀ o, Below w.heap.size w (w.alloc o)) := fun o => (Below.refl _ _).alloc (Nat.le_refl _) _
  have HMS : Hid (∀ q ∈ ml, DepSm q.1) := fun q hq => hpm _ (by rw [← hme]; exact List.mem_map.2 ⟨q, hq, rfl⟩)
  have HDS : Hid (∀ q ∈ dl, DepSm q.1) := fun q hq => hpd _ (by rw [← hde]; exact List.mem_map.2 ⟨q, hq, rfl⟩)
  have HX1 := Lib.hid p1
  have HM := Lib.hid hm
  have HMO := Lib.hid hmo
  have HD := Lib.hid hd
  have HDO := Lib.hid hdo
  have HPS := Lib.hid hpp
  have HBQ := Lib.hid hbq
  have HBM := Lib.hid hbm
  have HBD := Lib.hid hbd
  have hlm : ml.length = dm.length := by rw [← hme, List.length_map]
  have hld : dl.length = dd.length := by rw [← hde, List.length_map]
  rw [hlm, hld] at HR ⊢
  rw [hlm] at HM
  rw [hld] at HD
  have HLM := Lib.hid hlm
  have HLD := Lib.hid hld
  clear hbg hba hbv hbk hpb hbq hbm hbd HR0 p1 hm hmo hd hdo hme hde hpo hpp hpm hpd hpg hlm hld
  have hcap1 : dp.length ≤ cap1 ∧ cap1 ≤ 9223372036854775807 := by obtain ⟨a, c, e, h2, h3, -⟩ := HX1.out; simp only [Value.slice.injEq] at e; obtain ⟨-, -, rfl⟩ := e; exact ⟨h2, h3⟩
  go_enter Tryz.func20, Tryz.ntmps20
  go_upto_region 1 with fail
  refine wp_world ?_
  intro W hW
  have x1 : Box W w.heap.size [.bool hp, .string px, .string py, .string pz, .string dg, .string da, .string dv, .string dk, .slice ao1 dp.length cap1, .slice ao2 dm.length cap2, .slice ao3 dd.length cap3] := by rw [hW]; exact Box.new w [.bool hp, .string px, .string py, .string pz, .string dg, .string da, .string dv, .string dk, .slice ao1 dp.length cap1, .slice ao2 dm.length cap2, .slice ao3 dd.length cap3] _ _ rfl
  have hb : Below w.heap.size w W := by rw [hW]; exact HBB.out _
  clear hW HBB
  have HX := Lib.hid x1
  have HB := Lib.hid hb
  clear x1 hb
  have c0 := HX.out.cell 0 _ rfl
  have c1 := HX.out.cell 1 _ rfl
  have c2 := HX.out.cell 2 _ rfl
  have c3 := HX.out.cell 3 _ rfl
  have c4 := HX.out.cell 4 _ rfl
  have c5 := HX.out.cell 5 _ rfl
  have c6 := HX.out.cell 6 _ rfl
  have c7 := HX.out.cell 7 _ rfl
  have c8 := HX.out.cell 8 _ rfl
  have c9 := HX.out.cell 9 _ rfl
  have c10 := HX.out.cell 10 _ rfl
  have cl := HX.out.lt
  have HNP : Hid (pb = false → r = false) := fun h => by rw [HR.out, h]; rfl
  go_cut [29] from 11 to 29 (fun v wx => v = .bool (!pb) ∧ Hid (Below w.heap.size w wx ∧ Box wx w.heap.size [.bool hp, .string px, .string py, .string pz, .string dg, .string da, .string dv, .string dk, .slice ao1 dp.length cap1, .slice ao2 dm.length cap2, .slice ao3 dd.length cap3]))
  case first =>
    cases hp with
    | false =>
      have hz := HZV.out rfl
      by_cases e1 : px = ⟨#[]⟩
      · subst e1
        by_cases e2 : py = ⟨#[]⟩
        · subst e2
          by_cases e3 : pz = ⟨#[]⟩
          · subst e3
            have HZ : Hid (pb = true) := by show _ = _; rw [hz]; simp
            clear hz
            go_wp2
            go_meet
            case rel => exact ⟨by rw [HZ.out]; simp, HB.out, HX.out⟩
          · have hd : decide (pz = ⟨#[]⟩) = false := decide_eq_false e3
            have HZ : Hid (pb = false) := by show _ = _; rw [hz, hd]; simp
            clear hz e3
            go_wp2
            go_meet
            case rel => exact ⟨by rw [HZ.out]; simp, HB.out, HX.out⟩
        · have hd : decide (py = ⟨#[]⟩) = false := decide_eq_false e2
          have HZ : Hid (pb = false) := by show _ = _; rw [hz, hd]; simp
          clear hz e2
          go_wp2
          go_meet
          case rel => exact ⟨by rw [HZ.out]; simp, HB.out, HX.out⟩
      · have hd : decide (px = ⟨#[]⟩) = false := decide_eq_false e1
        have HZ : Hid (pb = false) := by show _ = _; rw [hz, hd]; simp
        clear hz e1
        go_wp2
        go_meet
        case rel => exact ⟨by rw [HZ.out]; simp, HB.out, HX.out⟩
    | true =>
      have HG := Lib.hid (HGV.out rfl)
      go_wp2_with fail
      refine (HG.out _).mono ?_
      rintro e w7 ⟨rfl, hb7⟩
      have HX' := Lib.hid (HX.out.below hb7 HX.out.lt)
      have HB' := Lib.hid (HB.out.trans (hb7.mono HB.out.size))
      clear c0 c1 c2 c3 c4 c5 c6 c7 c8 c9 c10 cl
      clear hb7 HX HB
      have HX := HX'
      have HB := HB'
      clear HX' HB'
      have c0 := HX.out.cell 0 _ rfl
      have c1 := HX.out.cell 1 _ rfl
      have c2 := HX.out.cell 2 _ rfl
      have c3 := HX.out.cell 3 _ rfl
      have c4 := HX.out.cell 4 _ rfl
      have c5 := HX.out.cell 5 _ rfl
      have c6 := HX.out.cell 6 _ rfl
      have c7 := HX.out.cell 7 _ rfl
      have c8 := HX.out.cell 8 _ rfl
      have c9 := HX.out.cell 9 _ rfl
      have c10 := HX.out.cell 10 _ rfl
      have cl := HX.out.lt
      cases pb
      all_goals
        go_wp2
        go_meet
        case rel => exact ⟨rfl, HB.out, HX.out⟩
  case rest =>
    obtain ⟨rfl, hcc⟩ := hcut
    clear c0 c1 c2 c3 c4 c5 c6 c7 c8 c9 c10 cl
    clear HX HB HGV HZV
    have HB := Lib.hid hcc.out.1
    have HX := Lib.hid hcc.out.2
    clear hcc
    cases pb with
    | false =>
      have HN := Lib.hid (HNP.out rfl)
      go_wp2
      go_ret
      exact ⟨by rw [HN.out]; rfl, HB.out⟩
    | true =>
      clear HNP
      have c0 := HX.out.cell 0 _ rfl
      have c1 := HX.out.cell 1 _ rfl
      have c2 := HX.out.cell 2 _ rfl
      have c3 := HX.out.cell 3 _ rfl
      have c4 := HX.out.cell 4 _ rfl
      have c5 := HX.out.cell 5 _ rfl
      have c6 := HX.out.cell 6 _ rfl
      have c7 := HX.out.cell 7 _ rfl
      have c8 := HX.out.cell 8 _ rfl
      have c9 := HX.out.cell 9 _ rfl
      have c10 := HX.out.cell 10 _ rfl
      have cl := HX.out.lt
      go_wp2_with fail
      refine (Hbg.out _).mono ?_
      rintro e w7 ⟨rfl, hb7⟩
      have HX' := Lib.hid (HX.out.below hb7 HX.out.lt)
      have HB' := Lib.hid (HB.out.trans (hb7.mono HB.out.size))
      clear c0 c1 c2 c3 c4 c5 c6 c7 c8 c9 c10 cl
      clear hb7 HX HB
      have HX := HX'
      have HB := HB'
      clear HX' HB'
      clear Hbg
      cases bg with
      | false =>
        have c0 := HX.out.cell 0 _ rfl
        have c1 := HX.out.cell 1 _ rfl
        have c2 := HX.out.cell 2 _ rfl
        have c3 := HX.out.cell 3 _ rfl
        have c4 := HX.out.cell 4 _ rfl
        have c5 := HX.out.cell 5 _ rfl
        have c6 := HX.out.cell 6 _ rfl
        have c7 := HX.out.cell 7 _ rfl
        have c8 := HX.out.cell 8 _ rfl
        have c9 := HX.out.cell 9 _ rfl
        have c10 := HX.out.cell 10 _ rfl
        have cl := HX.out.lt
        go_wp2
        go_ret
        exact ⟨by rw [HR.out]; simp, HB.out⟩
      | true =>
        have c0 := HX.out.cell 0 _ rfl
        have c1 := HX.out.cell 1 _ rfl
        have c2 := HX.out.cell 2 _ rfl
        have c3 := HX.out.cell 3 _ rfl
        have c4 := HX.out.cell 4 _ rfl
        have c5 := HX.out.cell 5 _ rfl
        have c6 := HX.out.cell 6 _ rfl
        have c7 := HX.out.cell 7 _ rfl
        have c8 := HX.out.cell 8 _ rfl
        have c9 := HX.out.cell 9 _ rfl
        have c10 := HX.out.cell 10 _ rfl
        have cl := HX.out.lt
        go_wp2_with fail
        refine (Hba.out _).mono ?_
        rintro e w7 ⟨rfl, hb7⟩
        have HX' := Lib.hid (HX.out.below hb7 HX.out.lt)
        have HB' := Lib.hid (HB.out.trans (hb7.mono HB.out.size))
        clear c0 c1 c2 c3 c4 c5 c6 c7 c8 c9 c10 cl
        clear hb7 HX HB
        have HX := HX'
        have HB := HB'
        clear HX' HB'
        clear Hba
        cases ba with
        | false =>
          have c0 := HX.out.cell 0 _ rfl
          have c1 := HX.out.cell 1 _ rfl
          have c2 := HX.out.cell 2 _ rfl
          have c3 := HX.out.cell 3 _ rfl
          have c4 := HX.out.cell 4 _ rfl
          have c5 := HX.out.cell 5 _ rfl
          have c6 := HX.out.cell 6 _ rfl
          have c7 := HX.out.cell 7 _ rfl
          have c8 := HX.out.cell 8 _ rfl
          have c9 := HX.out.cell 9 _ rfl
          have c10 := HX.out.cell 10 _ rfl
          have cl := HX.out.lt
          go_wp2
          go_ret
          exact ⟨by rw [HR.out]; simp, HB.out⟩
        | true =>
          have c0 := HX.out.cell 0 _ rfl
          have c1 := HX.out.cell 1 _ rfl
          have c2 := HX.out.cell 2 _ rfl
          have c3 := HX.out.cell 3 _ rfl
          have c4 := HX.out.cell 4 _ rfl
          have c5 := HX.out.cell 5 _ rfl
          have c6 := HX.out.cell 6 _ rfl
          have c7 := HX.out.cell 7 _ rfl
          have c8 := HX.out.cell 8 _ rfl
          have c9 := HX.out.cell 9 _ rfl
          have c10 := HX.out.cell 10 _ rfl
          have cl := HX.out.lt
          go_wp2_with fail
          refine (Hbv.out _).mono ?_
          rintro e w7 ⟨rfl, hb7⟩
          have HX' := Lib.hid (HX.out.below hb7 HX.out.lt)
          have HB' := Lib.hid (HB.out.trans (hb7.mono HB.out.size))
          clear c0 c1 c2 c3 c4 c5 c6 c7 c8 c9 c10 cl
          clear hb7 HX HB
          have HX := HX'
          have HB := HB'
          clear HX' HB'
          clear Hbv
          cases bv with
          | false =>
            have c0 := HX.out.cell 0 _ rfl
            have c1 := HX.out.cell 1 _ rfl
            have c2 := HX.out.cell 2 _ rfl
            have c3 := HX.out.cell 3 _ rfl
            have c4 := HX.out.cell 4 _ rfl
            have c5 := HX.out.cell 5 _ rfl
            have c6 := HX.out.cell 6 _ rfl
            have c7 := HX.out.cell 7 _ rfl
            have c8 := HX.out.cell 8 _ rfl
            have c9 := HX.out.cell 9 _ rfl
            have c10 := HX.out.cell 10 _ rfl
            have cl := HX.out.lt
            go_wp2
            go_ret
            exact ⟨by rw [HR.out]; simp, HB.out⟩
          | true =>
            have c0 := HX.out.cell 0 _ rfl
            have c1 := HX.out.cell 1 _ rfl
            have c2 := HX.out.cell 2 _ rfl
            have c3 := HX.out.cell 3 _ rfl
            have c4 := HX.out.cell 4 _ rfl
            have c5 := HX.out.cell 5 _ rfl
            have c6 := HX.out.cell 6 _ rfl
            have c7 := HX.out.cell 7 _ rfl
            have c8 := HX.out.cell 8 _ rfl
            have c9 := HX.out.cell 9 _ rfl
            have c10 := HX.out.cell 10 _ rfl
            have cl := HX.out.lt
            go_wp2_with fail
            refine (Hbk.out _).mono ?_
            rintro e w7 ⟨rfl, hb7⟩
            have HX' := Lib.hid (HX.out.below hb7 HX.out.lt)
            have HB' := Lib.hid (HB.out.trans (hb7.mono HB.out.size))
            clear c0 c1 c2 c3 c4 c5 c6 c7 c8 c9 c10 cl
            clear hb7 HX HB
            have HX := HX'
            have HB := HB'
            clear HX' HB'
            clear Hbk
            cases bk with
            | false =>
              have c0 := HX.out.cell 0 _ rfl
              have c1 := HX.out.cell 1 _ rfl
              have c2 := HX.out.cell 2 _ rfl
              have c3 := HX.out.cell 3 _ rfl
              have c4 := HX.out.cell 4 _ rfl
              have c5 := HX.out.cell 5 _ rfl
              have c6 := HX.out.cell 6 _ rfl
              have c7 := HX.out.cell 7 _ rfl
              have c8 := HX.out.cell 8 _ rfl
              have c9 := HX.out.cell 9 _ rfl
              have c10 := HX.out.cell 10 _ rfl
              have cl := HX.out.lt
              go_wp2
              go_ret
              exact ⟨by rw [HR.out]; simp, HB.out⟩
            | true =>
              by_cases q1 : dp.length ≤ 1024
              rotate_left
              · have hI : (1024 : Int) < (dp.length : Int) := by omega
                have HN : Hid (r = false) := by show _ = _; rw [HR.out, decide_eq_false q1]; simp
                clear q1
                have c0 := HX.out.cell 0 _ rfl
                have c1 := HX.out.cell 1 _ rfl
                have c2 := HX.out.cell 2 _ rfl
                have c3 := HX.out.cell 3 _ rfl
                have c4 := HX.out.cell 4 _ rfl
                have c5 := HX.out.cell 5 _ rfl
                have c6 := HX.out.cell 6 _ rfl
                have c7 := HX.out.cell 7 _ rfl
                have c8 := HX.out.cell 8 _ rfl
                have c9 := HX.out.cell 9 _ rfl
                have c10 := HX.out.cell 10 _ rfl
                have cl := HX.out.lt
                go_wp2
                go_ret
                exact ⟨by rw [HN.out]; rfl, HB.out⟩
              have hIq1 : ¬ (1024 : Int) < (dp.length : Int) := by omega
              by_cases q2 : dm.length ≤ 1024
              rotate_left
              · have hI : (1024 : Int) < (dm.length : Int) := by omega
                have HN : Hid (r = false) := by show _ = _; rw [HR.out, decide_eq_false q2]; simp
                clear q2
                have c0 := HX.out.cell 0 _ rfl
                have c1 := HX.out.cell 1 _ rfl
                have c2 := HX.out.cell 2 _ rfl
                have c3 := HX.out.cell 3 _ rfl
                have c4 := HX.out.cell 4 _ rfl
                have c5 := HX.out.cell 5 _ rfl
                have c6 := HX.out.cell 6 _ rfl
                have c7 := HX.out.cell 7 _ rfl
                have c8 := HX.out.cell 8 _ rfl
                have c9 := HX.out.cell 9 _ rfl
                have c10 := HX.out.cell 10 _ rfl
                have cl := HX.out.lt
                go_wp2
                go_ret
                exact ⟨by rw [HN.out]; rfl, HB.out⟩
              have hIq2 : ¬ (1024 : Int) < (dm.length : Int) := by omega
              by_cases q3 : dd.length ≤ 1024
              rotate_left
              · have hI : (1024 : Int) < (dd.length : Int) := by omega
                have HN : Hid (r = false) := by show _ = _; rw [HR.out, decide_eq_false q3]; simp
                clear q3
                have c0 := HX.out.cell 0 _ rfl
                have c1 := HX.out.cell 1 _ rfl
                have c2 := HX.out.cell 2 _ rfl
                have c3 := HX.out.cell 3 _ rfl
                have c4 := HX.out.cell 4 _ rfl
                have c5 := HX.out.cell 5 _ rfl
                have c6 := HX.out.cell 6 _ rfl
                have c7 := HX.out.cell 7 _ rfl
                have c8 := HX.out.cell 8 _ rfl
                have c9 := HX.out.cell 9 _ rfl
                have c10 := HX.out.cell 10 _ rfl
                have cl := HX.out.lt
                go_wp2
                go_ret
                exact ⟨by rw [HN.out]; rfl, HB.out⟩
              have hIq3 : ¬ (1024 : Int) < (dd.length : Int) := by omega
              have HR1 : Hid (r = (bq && (bm && bd))) := by show _ = _; rw [HR.out, decide_eq_true q1, decide_eq_true q2, decide_eq_true q3]; simp
              clear HR
              have HR := HR1
              clear HR1
              have c0 := HX.out.cell 0 _ rfl
              have c1 := HX.out.cell 1 _ rfl
              have c2 := HX.out.cell 2 _ rfl
              have c3 := HX.out.cell 3 _ rfl
              have c4 := HX.out.cell 4 _ rfl
              have c5 := HX.out.cell 5 _ rfl
              have c6 := HX.out.cell 6 _ rfl
              have c7 := HX.out.cell 7 _ rfl
              have c8 := HX.out.cell 8 _ rfl
              have c9 := HX.out.cell 9 _ rfl
              have c10 := HX.out.cell 10 _ rfl
              have cl := HX.out.lt
              go_wp2
              clear c0 c1 c2 c3 c4 c5 c6 c7 c8 c9 c10 cl
              go_loopw [73] (fun i wr => ∃ k : Nat, k ≤ dp.length ∧ i = .int .i64 k ∧ Hid (propsGo dp [] = propsGo (dp.drop k) (dp.take k) ∧ Below w.heap.size w wr ∧ Box wr w.heap.size [.bool hp, .string px, .string py, .string pz, .string dg, .string da, .string dv, .string dk, .slice ao1 dp.length cap1, .slice ao2 dm.length cap2, .slice ao3 dd.length cap3])) (fun i _ => dp.length - (intOf i).toNat)
              case atStart => exact ⟨0, Nat.zero_le _, rfl, rfl, HB.out, HX.out⟩
              case round =>
                clear HX HB
                obtain ⟨k, hk, rfl, HRR⟩ := hrel
                by_cases hlt : k < dp.length
                · have HGO := Lib.hid (HRR.out.1.trans (propsGo_at hlt))
                  have HSK := Lib.hid (HPS.out dp[k] (List.getElem_mem hlt))
                  obtain ⟨g, o, rfl, hg, c0, c1⟩ := (HX1.out.below HRR.out.2.1).atPrp hlt
                  have hsr := HRR.out.2.1.size
                  have HLT : Hid (k < dp.length) := hlt
                  generalize dp[k] = q at *
                  obtain ⟨nm, vl⟩ := q
                  simp only at c0 c1 HGO
                  have hki : (k : Int) ≤ (cap1 : Int) := by omega
                  have hkc : k ≤ cap1 := by omega
                  have hk0 : (0 : Int) ≤ (k : Int) := by omega
                  go_upto_region 8 with fail
                  refine wp_world ?_
                  intro W4 hW4
                  have x4 : Box W4 wr.heap.size [.string nm, .string vl] := by rw [hW4]; exact Box.new wr [.string nm, .string vl] _ _ rfl
                  have hb4 : Below wr.heap.size wr W4 := by rw [hW4]; exact (Below.refl _ _).alloc (Nat.le_refl _) _
                  clear hW4 c0 c1
                  have HY := Lib.hid x4
                  have HB := Lib.hid (HRR.out.2.1.trans (hb4.mono hsr))
                  have HX := Lib.hid (HRR.out.2.2.below hb4 HRR.out.2.2.lt)
                  have HSY : Hid (w.heap.size < wr.heap.size) := HRR.out.2.2.lt
                  clear x4 hb4
                  have HNM := Lib.hid (fun W => refIsNm_any nm W (by have h2 : nm.size ≤ 1000000 := HSK.out.1; omega))
                  have HTX := Lib.hid (fun W => plainD_any vl true W HSK.out.2)
                  obtain ⟨ok, hok⟩ : ∃ b, b = okName nm.data.toList := ⟨_, rfl⟩
                  obtain ⟨tx, htx⟩ : ∃ b, b = okW vl true := ⟨_, rfl⟩
                  rw [← hok] at HNM HGO
                  rw [← htx] at HTX HGO
                  clear hok htx
                  have a0 := HY.out.cell 0 _ rfl
                  have a1 := HY.out.cell 1 _ rfl
                  have al := HY.out.lt
                  go_wp2_with fail
                  refine (HNM.out _).mono ?_
                  rintro e w5 ⟨rfl, hw5⟩
                  obtain rfl := hw5
                  have HBAD : Hid (propsGo dp [] = false → r = false) := fun h => by rw [HR.out, HBQ.out, h]; rfl
                  cases ok with
                  | false =>
                    have HN : Hid (r = false) := HBAD.out (by rw [HGO.out]; simp)
                    clear HGO
                    go_wp2
                    go_ret
                    exact ⟨by rw [HN.out]; rfl, HB.out⟩
                  | true =>
                    go_wp2_with fail
                    refine (HTX.out _).mono ?_
                    rintro e w7 ⟨rfl, hb7⟩
                    have HX' := Lib.hid (HX.out.below hb7 HX.out.lt)
                    have HB' := Lib.hid (HB.out.trans (hb7.mono HB.out.size))
                    have HY' := Lib.hid (HY.out.below hb7 HY.out.lt)
                    clear a0 a1 al hb7 HX HB HY
                    have HX := HX'
                    have HB := HB'
                    have HY := HY'
                    clear HX' HB' HY'
                    cases tx with
                    | false =>
                      have HN : Hid (r = false) := HBAD.out (by rw [HGO.out]; simp)
                      clear HGO
                      go_wp2
                      go_ret
                      exact ⟨by rw [HN.out]; rfl, HB.out⟩
                    | true =>
                      have c8 := HX.out.cell 8 _ rfl
                      have cl := HX.out.lt
                      go_wp2
                      clear c8 cl
                      obtain ⟨wo, rfl⟩ : ∃ wo : World, wo = wr := ⟨_, rfl⟩
                      go_loopw [93] (fun i wr => ∃ j : Nat, j ≤ k ∧ i = .int .i64 j ∧ Hid (hasN (dp.take j) nm = false ∧ Below w.heap.size w wr ∧ Box wr w.heap.size [.bool hp, .string px, .string py, .string pz, .string dg, .string da, .string dv, .string dk, .slice (some ⟨g, o, none⟩) dp.length cap1, .slice ao2 dm.length cap2, .slice ao3 dd.length cap3] ∧ Box wr wo.heap.size [.string nm, .string vl])) (fun i _ => k - (intOf i).toNat)
                      case atStart => exact ⟨0, Nat.zero_le _, rfl, rfl, HB.out, HX.out, HY.out⟩
                      case round =>
                        clear HX HB HY
                        obtain ⟨j, hj, rfl, HJJ⟩ := hrel
                        by_cases hjl : j < k
                        · have hjd : j < dp.length := by omega
                          have HHN := Lib.hid (hasN_take (n := nm) hjd)
                          obtain ⟨g2, o2, hgo, hg2, d0, d1⟩ := (HX1.out.below HJJ.out.2.1).atPrp hjd
                          simp only [Option.some.injEq, Addr.mk.injEq, and_true] at hgo
                          obtain ⟨rfl, rfl⟩ := hgo
                          have HMM : Hid ((dp[j].name.toList == nm.toList) = true → hasN (dp.take k) nm = true) := fun h => by
                            have h1 : j < (dp.take k).length := by rw [List.length_take]; omega
                            refine hasN_mem h1 ?_
                            rw [List.getElem_take]; exact h
                          have hsj := HJJ.out.2.1.size
                          have hjI : (j : Int) < (k : Int) := by omega
                          generalize dp[j] = z at *
                          obtain ⟨n2, v2⟩ := z
                          simp only at d0 d1 HMM HHN
                          obtain ⟨eq, heq⟩ : ∃ b, b = (n2.toList == nm.toList) := ⟨_, rfl⟩
                          rw [← heq] at HMM HHN
                          have ke : (nm.toList == n2.toList) = eq := by rw [heq, str_beq, str_beq]; exact decide_eq_decide.2 eq_comm
                          clear heq
                          go_upto_region 13 with fail
                          refine wp_world ?_
                          intro W6 hW6
                          have x6 : Box W6 wr.heap.size [.string n2, .string v2] := by rw [hW6]; exact Box.new wr [.string n2, .string v2] _ _ rfl
                          have hb6 : Below wr.heap.size wr W6 := by rw [hW6]; exact (Below.refl _ _).alloc (Nat.le_refl _) _
                          clear hW6 d0 d1
                          have e0 := x6.cell 0 _ rfl
                          have el := x6.lt
                          have HB := Lib.hid (HJJ.out.2.1.trans (hb6.mono hsj))
                          have HX := Lib.hid (HJJ.out.2.2.1.below hb6 HJJ.out.2.2.1.lt)
                          have HY := Lib.hid (HJJ.out.2.2.2.below hb6 HJJ.out.2.2.2.lt)
                          have a0 := HY.out.cell 0 _ rfl
                          clear x6 hb6
                          cases eq with
                          | true =>
                            have HN : Hid (r = false) := HBAD.out (by rw [HGO.out, HMM.out rfl]; rfl)
                            clear HHN HMM HGO
                            go_wp2
                            go_ret
                            exact ⟨by rw [HN.out]; rfl, HB.out⟩
                          | false =>
                            have HT : Hid (hasN (dp.take (j + 1)) nm = false) := by show _ = _; rw [HHN.out, HJJ.out.1]; rfl
                            clear HHN HMM
                            go_wp2
                            go_roundw
                            case rel => exact ⟨j + 1, hjl, by go_num, HT.out, HB.out, HX.out, HY.out⟩
                            case measure => simp [intOf]; omega
                        · obtain rfl : j = k := by omega
                          have HB := Lib.hid HJJ.out.2.1
                          have HX := Lib.hid HJJ.out.2.2.1
                          have HT : Hid (propsGo dp [] = propsGo (dp.drop (j + 1)) (dp.take (j + 1))) := by show _ = _; rw [HGO.out, HJJ.out.1]; rfl
                          clear hjl HJJ HGO
                          go_wp2
                          go_roundw
                          case rel => exact ⟨j + 1, HLT.out, by go_num, HT.out, HB.out, HX.out⟩
                          case measure => simp [intOf]; have := HLT.out; omega
                · obtain rfl : k = dp.length := by omega
                  have HB := Lib.hid HRR.out.2.1
                  have HX := Lib.hid HRR.out.2.2
                  have hbq1 : bq = true := by rw [HBQ.out, HRR.out.1, List.drop_length]; rfl
                  have HR1 := Lib.hid (HR.out.trans (by rw [hbq1]))
                  clear hlt HRR hbq1 HR HBQ HPS
                  have HR := HR1
                  clear HR1
                  have c0 := HX.out.cell 0 _ rfl
                  have c1 := HX.out.cell 1 _ rfl
                  have c2 := HX.out.cell 2 _ rfl
                  have c3 := HX.out.cell 3 _ rfl
                  have c4 := HX.out.cell 4 _ rfl
                  have c5 := HX.out.cell 5 _ rfl
                  have c6 := HX.out.cell 6 _ rfl
                  have c7 := HX.out.cell 7 _ rfl
                  have c8 := HX.out.cell 8 _ rfl
                  have c9 := HX.out.cell 9 _ rfl
                  have c10 := HX.out.cell 10 _ rfl
                  have cl := HX.out.lt
                  go_wp2
                  clear c0 c1 c2 c3 c4 c5 c6 c7 c8 c9 c10 cl
                  obtain ⟨wo, rfl⟩ : ∃ wo : World, wo = wr := ⟨_, rfl⟩
                  go_loopw [107] (fun i wr => ∃ k : Nat, k ≤ dm.length ∧ i = .int .i64 k ∧ Hid ((ml.take k).all (fun q => mayD 6 q.1) = true ∧ Below w.heap.size w wr ∧ Box wr w.heap.size [.bool hp, .string px, .string py, .string pz, .string dg, .string da, .string dv, .string dk, .slice ao1 dp.length cap1, .slice ao2 dm.length cap2, .slice ao3 dd.length cap3])) (fun i _ => dm.length - (intOf i).toNat)
                  case atStart => exact ⟨0, Nat.zero_le _, rfl, rfl, HB.out, HX.out⟩
                  case round =>
                    clear HX HB
                    obtain ⟨k, hk, rfl, HRR⟩ := hrel
                    by_cases hlt : k < dm.length
                    · have hlt2 : k < ml.length := by have := HLM.out; omega
                      have HTK := Lib.hid (all_take2 (p := fun q : Dep × Value => mayD 6 q.1) hlt2)
                      have HNO := Lib.hid (fun h => all_no2 (p := fun q : Dep × Value => mayD 6 q.1) hlt2 h)
                      have HSK := Lib.hid (HMS.out ml[k] (List.getElem_mem hlt2))
                      have hok := (HMO.out ml[k] (List.getElem_mem hlt2)).below HRR.out.2.1
                      have hll := HM.out.below HRR.out.2.1
                      rw [← HLM.out] at hll
                      obtain ⟨g, o, rfl, hg, c0, c1, c2, c3, c4, c5, c6, c7⟩ := hll.atDep hlt2
                      have hsr := HRR.out.2.1.size
                      clear hll
                      generalize ml[k] = q at *
                      obtain ⟨qd, qx⟩ := q
                      obtain ⟨xo, xc, rfl⟩ := hok.shape
                      simp only at c0 c1 c2 c3 c4 c5 c6 c7
                      have HOK : Hid (SliceOf 2 idC wr (.slice xo qd.excl.length xc) qd.excl) := hok
                      clear hok
                      go_upto_region 20 with fail
                      refine wp_world ?_
                      intro W4 hW4
                      have x4 : Box W4 wr.heap.size [.string qd.group, .string qd.artifact, .string qd.version, .string qd.type, .string qd.classifier, .int .i64 qd.scope, .int .i64 qd.opt, .slice xo qd.excl.length xc] := by rw [hW4]; exact Box.new wr [.string qd.group, .string qd.artifact, .string qd.version, .string qd.type, .string qd.classifier, .int .i64 qd.scope, .int .i64 qd.opt, .slice xo qd.excl.length xc] _ _ rfl
                      have hb4 : Below wr.heap.size wr W4 := by rw [hW4]; exact (Below.refl _ _).alloc (Nat.le_refl _) _
                      clear hW4 c0 c1 c2 c3 c4 c5 c6 c7
                      have a0 := x4.cell 0 _ rfl
                      have a1 := x4.cell 1 _ rfl
                      have a2 := x4.cell 2 _ rfl
                      have a3 := x4.cell 3 _ rfl
                      have a4 := x4.cell 4 _ rfl
                      have a5 := x4.cell 5 _ rfl
                      have a6 := x4.cell 6 _ rfl
                      have a7 := x4.cell 7 _ rfl
                      have al := x4.lt
                      have HB4 := Lib.hid (HRR.out.2.1.trans (hb4.mono hsr))
                      have HX4 := Lib.hid (HRR.out.2.2.below hb4 HRR.out.2.2.lt)
                      have HDM : Hid (Calls Tryz.prog 63 #[.agg #[.string qd.group, .string qd.artifact, .string qd.version, .string qd.type, .string qd.classifier, .int .i64 qd.scope, .int .i64 qd.opt, .slice xo qd.excl.length xc], .int .i64 6] W4 fun e w' => e = .returned (.bool (mayD 6 qd)) ∧ Below W4.heap.size W4 w') := mayDepD_any qd (.slice xo qd.excl.length xc) 6 W4 (HOK.out.below hb4) HSK.out.own HSK.out.ex
                      clear x4 hb4 HOK
                      obtain ⟨b, hb⟩ : ∃ b, b = mayD 6 qd := ⟨_, rfl⟩
                      rw [← hb] at HDM
                      have HBQ := Lib.hid hb
                      clear hb
                      go_wp2_with fail
                      refine HDM.out.mono ?_
                      rintro e w7 ⟨rfl, hb7⟩
                      have HB := Lib.hid (HB4.out.trans (hb7.mono HB4.out.size))
                      have HX := Lib.hid (HX4.out.below hb7 HX4.out.lt)
                      clear a0 a1 a2 a3 a4 a5 a6 a7 al hb7 HDM HB4 HX4
                      cases b with
                      | false =>
                        have HN : Hid (r = false) := by show _ = _; rw [HR.out, HBM.out, HNO.out HBQ.out.symm]; simp
                        clear HTK HNO
                        go_wp2
                        go_ret
                        exact ⟨by rw [HN.out]; rfl, HB.out⟩
                      | true =>
                        have HT2 : Hid ((ml.take (k + 1)).all (fun q => mayD 6 q.1) = true) := by show _ = _; rw [HTK.out, HRR.out.1]; exact HBQ.out.symm
                        clear HTK HNO
                        go_wp2
                        go_roundw
                        case rel => exact ⟨k + 1, hlt, by go_num, HT2.out, HB.out, HX.out⟩
                        case measure => simp [intOf]; omega
                    · obtain rfl : k = dm.length := by omega
                      have HB := Lib.hid HRR.out.2.1
                      have HX := Lib.hid HRR.out.2.2
                      have h1 := HRR.out.1
                      rw [← HLM.out, List.take_length] at h1
                      have HR1 := Lib.hid (HR.out.trans (by rw [HBM.out, h1]))
                      clear hlt HRR h1 HR HBM
                      have HR := HR1
                      clear HR1
                      have c0 := HX.out.cell 0 _ rfl
                      have c1 := HX.out.cell 1 _ rfl
                      have c2 := HX.out.cell 2 _ rfl
                      have c3 := HX.out.cell 3 _ rfl
                      have c4 := HX.out.cell 4 _ rfl
                      have c5 := HX.out.cell 5 _ rfl
                      have c6 := HX.out.cell 6 _ rfl
                      have c7 := HX.out.cell 7 _ rfl
                      have c8 := HX.out.cell 8 _ rfl
                      have c9 := HX.out.cell 9 _ rfl
                      have c10 := HX.out.cell 10 _ rfl
                      have cl := HX.out.lt
                      go_wp2
                      clear c0 c1 c2 c3 c4 c5 c6 c7 c8 c9 c10 cl
                      obtain ⟨wo, rfl⟩ : ∃ wo : World, wo = wr := ⟨_, rfl⟩
                      go_loopw [118] (fun i wr => ∃ k : Nat, k ≤ dd.length ∧ i = .int .i64 k ∧ Hid ((dl.take k).all (fun q => mayD 5 q.1) = true ∧ Below w.heap.size w wr ∧ Box wr w.heap.size [.bool hp, .string px, .string py, .string pz, .string dg, .string da, .string dv, .string dk, .slice ao1 dp.length cap1, .slice ao2 dm.length cap2, .slice ao3 dd.length cap3])) (fun i _ => dd.length - (intOf i).toNat)
                      case atStart => exact ⟨0, Nat.zero_le _, rfl, rfl, HB.out, HX.out⟩
                      case round =>
                        clear HX HB
                        obtain ⟨k, hk, rfl, HRR⟩ := hrel
                        by_cases hlt : k < dd.length
                        · have hlt2 : k < dl.length := by have := HLD.out; omega
                          have HTK := Lib.hid (all_take2 (p := fun q : Dep × Value => mayD 5 q.1) hlt2)
                          have HNO := Lib.hid (fun h => all_no2 (p := fun q : Dep × Value => mayD 5 q.1) hlt2 h)
                          have HSK := Lib.hid (HDS.out dl[k] (List.getElem_mem hlt2))
                          have hok := (HDO.out dl[k] (List.getElem_mem hlt2)).below HRR.out.2.1
                          have hll := HD.out.below HRR.out.2.1
                          rw [← HLD.out] at hll
                          obtain ⟨g, o, rfl, hg, c0, c1, c2, c3, c4, c5, c6, c7⟩ := hll.atDep hlt2
                          have hsr := HRR.out.2.1.size
                          clear hll
                          generalize dl[k] = q at *
                          obtain ⟨qd, qx⟩ := q
                          obtain ⟨xo, xc, rfl⟩ := hok.shape
                          simp only at c0 c1 c2 c3 c4 c5 c6 c7
                          have HOK : Hid (SliceOf 2 idC wr (.slice xo qd.excl.length xc) qd.excl) := hok
                          clear hok
                          go_upto_region 26 with fail
                          refine wp_world ?_
                          intro W4 hW4
                          have x4 : Box W4 wr.heap.size [.string qd.group, .string qd.artifact, .string qd.version, .string qd.type, .string qd.classifier, .int .i64 qd.scope, .int .i64 qd.opt, .slice xo qd.excl.length xc] := by rw [hW4]; exact Box.new wr [.string qd.group, .string qd.artifact, .string qd.version, .string qd.type, .string qd.classifier, .int .i64 qd.scope, .int .i64 qd.opt, .slice xo qd.excl.length xc] _ _ rfl
                          have hb4 : Below wr.heap.size wr W4 := by rw [hW4]; exact (Below.refl _ _).alloc (Nat.le_refl _) _
                          clear hW4 c0 c1 c2 c3 c4 c5 c6 c7
                          have a0 := x4.cell 0 _ rfl
                          have a1 := x4.cell 1 _ rfl
                          have a2 := x4.cell 2 _ rfl
                          have a3 := x4.cell 3 _ rfl
                          have a4 := x4.cell 4 _ rfl
                          have a5 := x4.cell 5 _ rfl
                          have a6 := x4.cell 6 _ rfl
                          have a7 := x4.cell 7 _ rfl
                          have al := x4.lt
                          have HB4 := Lib.hid (HRR.out.2.1.trans (hb4.mono hsr))
                          have HX4 := Lib.hid (HRR.out.2.2.below hb4 HRR.out.2.2.lt)
                          have HDM : Hid (Calls Tryz.prog 63 #[.agg #[.string qd.group, .string qd.artifact, .string qd.version, .string qd.type, .string qd.classifier, .int .i64 qd.scope, .int .i64 qd.opt, .slice xo qd.excl.length xc], .int .i64 5] W4 fun e w' => e = .returned (.bool (mayD 5 qd)) ∧ Below W4.heap.size W4 w') := mayDepD_any qd (.slice xo qd.excl.length xc) 5 W4 (HOK.out.below hb4) HSK.out.own HSK.out.ex
                          clear x4 hb4 HOK
                          obtain ⟨b, hb⟩ : ∃ b, b = mayD 5 qd := ⟨_, rfl⟩
                          rw [← hb] at HDM
                          have HBQ := Lib.hid hb
                          clear hb
                          go_wp2_with fail
                          refine HDM.out.mono ?_
                          rintro e w7 ⟨rfl, hb7⟩
                          have HB := Lib.hid (HB4.out.trans (hb7.mono HB4.out.size))
                          have HX := Lib.hid (HX4.out.below hb7 HX4.out.lt)
                          clear a0 a1 a2 a3 a4 a5 a6 a7 al hb7 HDM HB4 HX4
                          cases b with
                          | false =>
                            have HN : Hid (r = false) := by show _ = _; rw [HR.out, HBD.out, HNO.out HBQ.out.symm]; rfl
                            clear HTK HNO
                            go_wp2
                            go_ret
                            exact ⟨by rw [HN.out]; rfl, HB.out⟩
                          | true =>
                            have HT2 : Hid ((dl.take (k + 1)).all (fun q => mayD 5 q.1) = true) := by show _ = _; rw [HTK.out, HRR.out.1]; exact HBQ.out.symm
                            clear HTK HNO
                            go_wp2
                            go_roundw
                            case rel => exact ⟨k + 1, hlt, by go_num, HT2.out, HB.out, HX.out⟩
                            case measure => simp [intOf]; omega
                        · obtain rfl : k = dd.length := by omega
                          have HB := Lib.hid HRR.out.2.1
                          have HX := Lib.hid HRR.out.2.2
                          have h1 := HRR.out.1
                          rw [← HLD.out, List.take_length] at h1
                          have HR1 := Lib.hid (HR.out.trans (by rw [HBD.out, h1]))
                          clear hlt HRR h1 HR HBD
                          have HR := HR1
                          clear HR1
                          go_wp2
                          go_ret
                          exact ⟨by rw [HR.out]; rfl, HB.out⟩

end Go.Proofs.YtbbbfjcikhpmbaaGreat
