/- The walk of the law ChainCounts; its conditions stand in the theorems. -/
import Derived.Test.YtnhophaeimpkkaaT21
import Derived.Test.YtnhophaeimpkkaaOwn2
import Derived.Deep.RegionHeld3
import Derived.Deep.DrawnRows
import Derived.WalkKit
import Derived.WalkSpells
import Derived.WalkLawsBesides
namespace Go.Proofs.Ytnhophaeimpkkaa
open Go Go.RowKit

theorem neq_keyC (k : Key) (w : World) : (binOp .neq 45 (.agg (keyC k).toArray) (.agg (keyC k).toArray)).run Try.prog w = .ok (.bool false) w := by
  have := neq_key k.group k.artifact k.type k.classifier k.group k.artifact k.type k.classifier w
  simp only [decide_true, Bool.and_self, Bool.not_true] at this
  exact this

attribute [local go_sem ↓] neq_keyC Go.wp_at_zero Go.wp_at_succ sliced_cut cut_zero eqg_key neq_key eqg_gav eql_gav

set_option maxRecDepth 100000 in
set_option maxHeartbeats 1000000 in
theorem counts_any (c p : Pom) (pv mv dv pv2 mv2 dv2 : Value) (w : World) (hc : PomOf w (.agg (pomC c pv mv dv).toArray) c pv mv dv) (hp : PomOf w (.agg (pomC p pv2 mv2 dv2).toArray) p pv2 mv2 dv2) :
    Calls Try.prog 5 #[.agg (pomC c pv mv dv).toArray, .agg (pomC p pv2 mv2 dv2).toArray] w fun e w' => e = .returned (.bool true) ∧ Below w.heap.size w w' := by
  obtain ⟨ao1, cap1, ao2, cap2, ao3, cap3, rfl, rfl, rfl⟩ := pom_shape hc
  obtain ⟨bo1, bap1, bo2, bap2, bo3, bap3, rfl, rfl, rfl⟩ := pom_shape hp
  have hx1 : Box _ _ _ := (Box.new w (pomC c (.slice ao1 c.props.length cap1) (.slice ao2 c.managed.length cap2) (.slice ao3 c.deps.length cap3)) 27 _ rfl).alloc (.cells (pomC p (.slice bo1 p.props.length bap1) (.slice bo2 p.managed.length bap2) (.slice bo3 p.deps.length bap3)).toArray 27)
  have hx2 : Box _ _ _ := Box.new (w.alloc (.cells (pomC c (.slice ao1 c.props.length cap1) (.slice ao2 c.managed.length cap2) (.slice ao3 c.deps.length cap3)).toArray 27)) (pomC p (.slice bo1 p.props.length bap1) (.slice bo2 p.managed.length bap2) (.slice bo3 p.deps.length bap3)) 27 (w.heap.size + 1) (by simp)
  have hB := ((Below.refl w.heap.size w).alloc (Nat.le_refl _) (.cells (pomC c (.slice ao1 c.props.length cap1) (.slice ao2 c.managed.length cap2) (.slice ao3 c.deps.length cap3)).toArray 27)).alloc (by simp) (.cells (pomC p (.slice bo1 p.props.length bap1) (.slice bo2 p.managed.length bap2) (.slice bo3 p.deps.length bap3)).toArray 27)
  have Hc := Lib.hid hc
  have Hp := Lib.hid hp
  clear hc hp
  simp only [pomC] at hx1 hx2 hB ⊢
  have HX := Lib.hid (And.intro hx1 (And.intro hx2 hB))
  clear hx1 hx2 hB
  go_enter Try.func5, Try.ntmps5
  go_wp2_with fail
  refine Calls.world ?_
  intro W hW
  obtain ⟨x1, x2, hB⟩ : Box W w.heap.size [.bool c.hasParent, .string c.parent.group, .string c.parent.artifact, .string c.parent.version, .string c.group, .string c.artifact, .string c.version, .string c.packaging, .slice ao1 c.props.length cap1, .slice ao2 c.managed.length cap2, .slice ao3 c.deps.length cap3] ∧ Box W (w.heap.size + 1) [.bool p.hasParent, .string p.parent.group, .string p.parent.artifact, .string p.parent.version, .string p.group, .string p.artifact, .string p.version, .string p.packaging, .slice bo1 p.props.length bap1, .slice bo2 p.managed.length bap2, .slice bo3 p.deps.length bap3] ∧ Below w.heap.size w W := by rw [hW]; exact HX.out
  clear hW HX
  refine (light_any c (.slice ao1 c.props.length cap1) (.slice ao2 c.managed.length cap2) (.slice ao3 c.deps.length cap3) W (Hc.out.below hB)).mono ?_
  intro e w1 hR
  obtain ⟨b1, rfl, hb1t, hb1⟩ := hR
  have y1 := x1.below hb1 x1.lt
  have y2 := x2.below hb1 x2.lt
  have hB1 := hB.trans (hb1.mono hB.size)
  clear x1 x2 hB hb1
  cases b1 with
  | false =>
    clear hb1t
    go_wp2_with (go_at_call 8; refine (lives_any _).mono ?_; rintro e w2 ⟨rfl, hb2⟩)
    go_ret
    exact ⟨rfl, hB1.trans (hb2.mono hB1.size)⟩
  | true =>
  have L1 := Lib.hid (hb1t rfl)
  clear hb1t
  obtain ⟨c0, c1, c2, c3, c4, c5, c6, c7, c8, c9, c10⟩ := y2.pom
  go_wp2_with fail
  refine (light_any p (.slice bo1 p.props.length bap1) (.slice bo2 p.managed.length bap2) (.slice bo3 p.deps.length bap3) w1 (Hp.out.below hB1)).mono ?_
  intro e w2 hR
  obtain ⟨b2, rfl, hb2t, hb2⟩ := hR
  have z1 := y1.below hb2 y1.lt
  have z2 := y2.below hb2 y2.lt
  have hB2 := hB1.trans (hb2.mono hB1.size)
  clear y1 y2 hB1 hb2 c0 c1 c2 c3 c4 c5 c6 c7 c8 c9 c10
  cases b2 with
  | false =>
    clear hb2t
    go_wp2_with (go_at_call 8; refine (lives_any _).mono ?_; rintro e w3 ⟨rfl, hb3⟩)
    go_ret
    exact ⟨rfl, hB2.trans (hb3.mono hB2.size)⟩
  | true =>
  have hS := Lib.hid (small_of_light L1.out (hb2t rfl))
  have hMS := Lib.hid (merge_small L1.out (hb2t rfl))
  clear hb2t L1
  obtain ⟨c0, c1, c2, c3, c4, c5, c6, c7, c8, c9, c10⟩ := z1.pom
  obtain ⟨d0, d1, d2, d3, d4, d5, d6, d7, d8, d9, d10⟩ := z2.pom
  go_wp2_with fail
  refine (merge_any c p (.slice ao1 c.props.length cap1) (.slice ao2 c.managed.length cap2) (.slice ao3 c.deps.length cap3) (.slice bo1 p.props.length bap1) (.slice bo2 p.managed.length bap2) (.slice bo3 p.deps.length bap3) w2 (Hc.out.below hB2) (Hp.out.below hB2) hS.out).mono ?_
  intro e w3 hR
  obtain ⟨pv3, mv3, dv3, rfl, hM⟩ := hR
  clear c0 c1 c2 c3 c4 c5 c6 c7 c8 c9 c10 d0 d1 d2 d3 d4 d5 d6 d7 d8 d9 d10
  obtain ⟨mo1, map1, mo2, map2, mo3, map3, rfl, rfl, rfl⟩ := pom_shape hM.pom
  have hb3 := hM.below
  have u1 := z1.below hb3 z1.lt
  have u2 := z2.below hb3 z2.lt
  have hB3 := hB2.trans (hb3.mono hB2.size)
  have hlt1 := z1.lt
  have hlt2 := z2.lt
  have hM' := Lib.hid hM
  have hsz3 : Hid (w2.heap.size ≤ w3.heap.size) := hb3.size
  clear z1 z2 hb3 hM
  generalize hMM : merge c p = M at *
  have HMM := Lib.hid hMM
  clear hMM
  simp only [pomC]
  have c8 := u1.cell 8 _ rfl
  have hu1 := u1.lt
  go_wp2
  refine wp_world ?_
  intro W4 hW4
  clear c8
  have v1 : Box W4 w.heap.size [.bool c.hasParent, .string c.parent.group, .string c.parent.artifact, .string c.parent.version, .string c.group, .string c.artifact, .string c.version, .string c.packaging, .slice ao1 c.props.length cap1, .slice ao2 c.managed.length cap2, .slice ao3 c.deps.length cap3] := by rw [hW4]; exact u1.alloc _
  have v2 : Box W4 (w.heap.size + 1) [.bool p.hasParent, .string p.parent.group, .string p.parent.artifact, .string p.parent.version, .string p.group, .string p.artifact, .string p.version, .string p.packaging, .slice bo1 p.props.length bap1, .slice bo2 p.managed.length bap2, .slice bo3 p.deps.length bap3] := by rw [hW4]; exact u2.alloc _
  have v3 : Box W4 w3.heap.size [.bool M.hasParent, .string M.parent.group, .string M.parent.artifact, .string M.parent.version, .string M.group, .string M.artifact, .string M.version, .string M.packaging, .slice mo1 M.props.length map1, .slice mo2 M.managed.length map2, .slice mo3 M.deps.length map3] := by rw [hW4]; exact Box.new w3 _ _ _ rfl
  have hB4 : Below w.heap.size w W4 := by rw [hW4]; exact hB3.alloc hB3.size _
  have hb4 : Hid (Below w3.heap.size w3 W4) := by rw [hW4]; exact (Below.refl _ _).alloc (Nat.le_refl _) _
  clear hW4 u1 u2 hB3
  have hmd : M.deps = underD c.deps p.deps := by rw [← HMM.out]; rfl
  have hmp : M.props = over p.props c.props := by rw [← HMM.out]; rfl
  have hmf : Hid (M.artifact = c.artifact ∧ M.hasParent = c.hasParent ∧ M.parent = c.parent) := by rw [← HMM.out]; exact ⟨rfl, rfl, rfl⟩
  have HMD := Lib.hid hmd
  have HMP := Lib.hid hmp
  clear hmd hmp
  have pC := (Hc.out.below hB4).props
  have pP := (Hp.out.below hB4).props
  have pM := (hM'.out.pom.below hb4.out).props
  have hml := hMS.out.1
  have hcl : c.props.length ≤ 4398046511103 ∧ p.props.length ≤ 4398046511103 := by have := hS.out.props; omega
  obtain ⟨hcl, hpl⟩ := hcl
  clear hu1
  go_loopw [36] (fun i wr => ∃ k : Nat, k ≤ c.props.length ∧ i = .int .i64 k ∧ Below W4.heap.size W4 wr) (fun i _ => c.props.length - (intOf i).toNat)
  case atStart => exact ⟨0, Nat.zero_le _, rfl, Below.refl _ _⟩
  case round =>
    obtain ⟨k, hk, rfl, hb⟩ := hrel
    by_cases hlt : k < c.props.length
    · have hget : get M.props c.props[k].name = (lastV c.props[k].name (c.props.drop k) c.props[k].value, true) := by rw [HMP.out]; exact get_over_at _ _ _ hlt
      have hcap : k < cap1 := by obtain ⟨_, _, e, h2, _⟩ := pC; cases e; omega
      have pCb := pC.below hb
      obtain ⟨bb, oo, rfl, hbl, g0, g1⟩ := pCb.atPrp hlt
      have pD := pCb.cut hk
      have hDl : (c.props.drop k).length = c.props.length - k := by simp
      have a1 := v1.below hb v1.lt
      have a3 := v3.below hb v3.lt
      have pMb := pM.below hb
      have hwl := hb.size
      generalize c.props[k].name = n at *
      generalize c.props[k].value = v0 at *
      generalize c.props.drop k = D at *
      obtain ⟨lv, hlv⟩ : ∃ lv, lastV n D v0 = lv := ⟨_, rfl⟩
      rw [hlv] at hget
      have HG := Lib.hid hget
      have HV := Lib.hid hlv
      clear hget hlv pCb
      have e8 := a3.cell 8 _ rfl
      have l3 := a3.lt
      go_wp2_with fail
      refine Calls.world ?_
      intro W5 hW5
      have x5 : Box W5 wr.heap.size [.string n, .string v0] := by rw [hW5]; exact Box.new _ _ _ _ rfl
      have hb5' : Below wr.heap.size wr W5 := by rw [hW5]; exact (Below.refl _ _).alloc (Nat.le_refl _) _
      clear hW5 e8 g0 g1
      refine (get_any M.props n _ _ (pMb.below hb5') hml).mono ?_
      rintro e w6 ⟨rfl, hb6'⟩
      rw [HG.out]
      have hb6 := hb5'.trans (hb6'.mono hb5'.size)
      have x6 := x5.below hb6' x5.lt
      have a16 := a1.below hb6 a1.lt
      have hx6 := x6.lt
      have d0 := x6.cell 0 _ rfl
      have d1 := x6.cell 1 _ rfl
      have d8 := a16.cell 8 _ rfl
      have pD6 := pD.below hb6
      clear x5 hb5' hb6' a1 pMb pD
      go_wp2
      clear d0 d1 d8
      generalize cut (some ⟨bb, oo, none⟩) k cap1 2 = so at *
      go_loopw [10, 56] (fun u i wr2 => ∃ j : Nat, j ≤ c.props.length - k ∧ i = .int .i64 j ∧ ∃ s, u = .string s ∧ Hid (lv = lastV n (D.drop j) s) ∧ Below w6.heap.size w6 wr2) (fun _ i _ => c.props.length - k - (intOf i).toNat)
      case atStart => exact ⟨0, Nat.zero_le _, rfl, _, rfl, HV.out.symm, Below.refl _ _⟩
      case round =>
        obtain ⟨j, hj, rfl, s, rfl, HS, hb7⟩ := hrel
        by_cases hjl : j < c.props.length - k
        · have hjD : j < D.length := by omega
          have HD := Lib.hid (drop_cons' hjD)
          obtain ⟨b3, o3, rfl, hbl2, g0, g1⟩ := (pD6.below hb7).atPrp hjD
          have x7 := x6.below hb7 x6.lt
          have d0 := x7.cell 0 _ rfl
          have hx7 := x7.lt
          generalize D[j] = y at *
          obtain ⟨yn, yv⟩ := y
          simp only at g0 g1
          by_cases hn : yn = n
          rotate_left
          · have hq : (yn.toList == n.toList) = false := by rw [str_beq]; simpa using hn
            have Hn := Lib.hid hn
            clear hn
            go_wp2
            go_roundw
            case rel => exact ⟨j + 1, hjl, by go_num, s, rfl, by show _ = _; rw [HS.out, HD.out]; simp only [lastV]; rw [if_neg Hn.out], hb7.alloc hb7.size _⟩
            case measure => simp [intOf]; omega
          · have hq : (yn.toList == n.toList) = true := by rw [str_beq]; simpa using hn
            have Hn := Lib.hid hn
            clear hn
            go_wp2
            go_roundw
            case rel => exact ⟨j + 1, hjl, by go_num, yv, rfl, by show _ = _; rw [HS.out, HD.out]; simp only [lastV]; rw [if_pos Hn.out], hb7.alloc hb7.size _⟩
            case measure => simp [intOf]; omega
        · obtain rfl : s = lv := by have := HS.out; rw [List.drop_of_length_le (by omega)] at this; exact this.symm
          go_wp2
          go_roundw
          case rel => exact ⟨k + 1, hlt, by go_num, hb.trans ((hb6.trans (hb7.mono hb6.size)).mono hb.size)⟩
          case measure => simp [intOf]; omega
    · have a2 := v2.below hb v2.lt
      have e8 := a2.cell 8 _ rfl
      have l2 := a2.lt
      clear pC hcl
      go_wp2
      clear e8 l2 a2
      go_loopw [79] (fun i wr => ∃ k : Nat, k ≤ p.props.length ∧ i = .int .i64 k ∧ Below W4.heap.size W4 wr) (fun i _ => p.props.length - (intOf i).toNat)
      case atStart => exact ⟨0, Nat.zero_le _, rfl, hb⟩
      case round =>
        clear hb hlt hk
        obtain ⟨k, hk, rfl, hb⟩ := hrel
        by_cases hlt : k < p.props.length
        · have hget : (get M.props p.props[k].name).2 = true := by rw [HMP.out]; exact get_over_old _ _ _ hlt
          obtain ⟨bb, oo, rfl, hbl, g0, g1⟩ := (pP.below hb).atPrp hlt
          have a3 := v3.below hb v3.lt
          have pMb := pM.below hb
          have hwl := hb.size
          generalize p.props[k].name = n at *
          generalize p.props[k].value = v0 at *
          have HG := Lib.hid hget
          clear hget
          have e8 := a3.cell 8 _ rfl
          have l3 := a3.lt
          go_wp2_with fail
          refine Calls.world ?_
          intro W5 hW5
          have hb5' : Below wr.heap.size wr W5 := by rw [hW5]; exact (Below.refl _ _).alloc (Nat.le_refl _) _
          clear hW5 e8 g0 g1
          refine (get_any M.props n _ _ (pMb.below hb5') hml).mono ?_
          rintro e w6 ⟨rfl, hb6'⟩
          rw [HG.out]
          have hb6 := hb5'.trans (hb6'.mono hb5'.size)
          clear hb5' hb6'
          go_wp2
          go_roundw
          case rel => exact ⟨k + 1, hlt, by go_num, hb.trans (hb6.mono hb.size)⟩
          case measure => simp [intOf]; omega
        · clear pP pM hml hpl
          have a1 := v1.below hb v1.lt
          have a2 := v2.below hb v2.lt
          have a3 := v3.below hb v3.lt
          obtain ⟨cm, hcm, sC, oC⟩ := ((Hc.out.below hB4).deps.below hb)
          have DC := Lib.hid ((Hc.out.below hB4).deps.below hb)
          have DM := Lib.hid ((hM'.out.pom.below hb4.out).deps.below hb)
          have hle : c.deps.length ≤ M.deps.length := by rw [HMD.out]; exact under_ge _ _
          have hcapM : M.deps.length ≤ map3 := by obtain ⟨x, h1, ⟨_, _, e, h2, _⟩, -⟩ := DM.out; simp only [Value.slice.injEq] at e; obtain ⟨-, e1, e2⟩ := e; subst e2; omega
          have hML : M.deps.length ≤ 4398046511103 := by have := hS.out.deps; have h2 := under_fit c.deps p.deps; rw [← HMD.out] at h2; omega
          have DT : Hid (DepsOf wr (.slice mo3 c.deps.length map3) c.deps) := by
            have := DM.out.take hle
            rw [show M.deps.take c.deps.length = c.deps by rw [HMD.out]; exact under_take _ _] at this
            exact this
          have hcx := Lib.hid (fun d (hd : d ∈ c.deps) => by have := hMS.out.2.2.2.2 d (by rw [HMD.out]; exact List.mem_append_left _ hd); exact this : ∀ d ∈ c.deps, d.excl.length ≤ 140737488355328)
          have hcutI : (c.deps.length : Int) ≤ (map3 : Int) := by omega
          have c10 := a1.cell 10 _ rfl
          have e10 := a3.cell 10 _ rfl
          have l1 := a1.lt
          have l3 := a3.lt
          have hlss : decide ((M.deps.length : Int) < (c.deps.length : Int)) = false := by simp; omega
          have hlssN : decide (M.deps.length < c.deps.length) = false := by simp; omega
          have hlssQ : ¬ M.deps.length < c.deps.length := by omega
          have hlssI : ¬ (M.deps.length : Int) < (c.deps.length : Int) := by omega
          go_wp2
          have hL := @Later.cells wr
          refine region_later (by kernel_rfl) (by kernel_rfl) ?_
          repeat (go_big_quiet_step ((go_at_call 14; exact Later.call (sameDeps_yes c.deps _ _ _ (DT.out.below (Later.below _)) (DC.out.below (Later.below _)) (by omega) hcx.out))))
          refine wpQuiet_nil ?_
          rintro _ ⟨nx, rfl⟩
          obtain ⟨mm, hmm, sM, oM⟩ := (hM'.out.pom.below hb4.out).deps
          have hmml : mm.length = M.deps.length := by rw [← hmm]; simp
          have sD := sM.cut (k := c.deps.length) (by omega)
          have hEE : Hid (∀ q ∈ mm.drop c.deps.length, has c.deps (keyOf q.1) = false ∧ has p.deps (keyOf q.1) = true ∧ DepOk W4 q) := fun q hq => by
            have h1 : q.1 ∈ (underD c.deps p.deps).drop c.deps.length := by
              rw [← HMD.out, ← hmm, ← List.map_drop]; exact List.mem_map.2 ⟨q, hq, rfl⟩
            exact ⟨(under_new h1).1, (under_new h1).2, oM q (List.mem_of_mem_drop hq)⟩
          have hEl : (mm.drop c.deps.length).length = M.deps.length - c.deps.length := by rw [List.length_drop, hmml]
          have hbN := hb.trans (nx.below.mono hb.size)
          have a1 := v1.below hbN v1.lt
          have a3 := v3.below hbN v3.lt
          have c10 := a1.cell 10 _ rfl
          have e10 := a3.cell 10 _ rfl
          have l1 := a1.lt
          have l3 := a3.lt
          have hMM := Lib.hid (And.intro hmm (And.intro sM oM))
          clear hb hL DT DC DM hcm sC oC cm hcx hmm sM oM hk hlt
          generalize nx.at_ = wn at *
          clear nx
          go_wp2
          generalize cut mo3 c.deps.length map3 8 = so at *
          generalize mm.drop c.deps.length = E at *
          clear c10 e10 l1 l3 a1 a3
          go_loopw [120] (fun i wr => ∃ k : Nat, k ≤ M.deps.length - c.deps.length ∧ i = .int .i64 k ∧ Below W4.heap.size W4 wr) (fun i _ => M.deps.length - c.deps.length - (intOf i).toNat)
          case atStart => exact ⟨0, Nat.zero_le _, by simp, hbN⟩
          case round =>
            clear hbN
            obtain ⟨k, hk, rfl, hb⟩ := hrel
            by_cases hlt : k < M.deps.length - c.deps.length
            · have hkE : k < E.length := by omega
              obtain ⟨h1, h2, hok'⟩ := hEE.out E[k] (by simp)
              have hok := hok'.below hb
              obtain ⟨b, o, rfl, hbl, g0, g1, g2, g3, g4, g5, g6, g7⟩ := (sD.below hb).atDep hkE
              have a1 := v1.below hb v1.lt
              have a2 := v2.below hb v2.lt
              generalize E[k] = q at *
              obtain ⟨qd, qx⟩ := q
              obtain ⟨ao4, cap4, rfl⟩ := hok.shape
              simp only at g0 g1 g2 g3 g4 g5 g6 g7 h1 h2
              obtain ⟨cm, hcm, sC, oC⟩ := (Hc.out.below hB4).deps
              obtain ⟨qm, hqm, sQ, oQ⟩ := (Hp.out.below hB4).deps
              rw [← hcm] at h1
              rw [← hqm] at h2
              have hlc : cm.length ≤ 140737488355328 := by have := congrArg List.length hcm; simp at this; omega
              have hlq : qm.length ≤ 140737488355328 := by have h3 := congrArg List.length hqm; have h4 := hS.out.deps; simp at h3; omega
              have T1 := Lib.hid (And.intro h1 (And.intro (sC.below hb) (And.intro (fun q hq => (oC q hq).below hb : ∀ q ∈ cm, DepOk wr q) hlc)))
              have T2 := Lib.hid (And.intro h2 (And.intro (sQ.below hb) (And.intro (fun q hq => (oQ q hq).below hb : ∀ q ∈ qm, DepOk wr q) hlq)))
              have hbx : Box _ _ _ := Box.new wr (depC (qd, .slice ao4 qd.excl.length cap4)) 34 wr.heap.size rfl
              clear h1 h2 hcm hqm sC sQ oC oQ hlc hlq hok' hok
              simp only [depC] at hbx
              go_wp2
              refine wp_world ?_
              intro w5 hw5
              rw [← hw5] at hbx
              have hb5 : Below wr.heap.size wr w5 := by rw [hw5]; exact (Below.refl _ _).alloc (Nat.le_refl _) _
              clear hw5 g0 g1 g2 g3 g4 g5 g6 g7
              have c10 := (a1.below hb5 a1.lt).cell 10 _ rfl
              have b10 := (a2.below hb5 a2.lt).cell 10 _ rfl
              have l1 := (a1.below hb5 a1.lt).lt
              have l2 := (a2.below hb5 a2.lt).lt
              have l5 := hbx.lt
              have q0 := hbx.cell 0 _ rfl
              have q1 := hbx.cell 1 _ rfl
              have q2 := hbx.cell 2 _ rfl
              have q3 := hbx.cell 3 _ rfl
              have q4 := hbx.cell 4 _ rfl
              have q5 := hbx.cell 5 _ rfl
              have q6 := hbx.cell 6 _ rfl
              have q7 := hbx.cell 7 _ rfl
              have hL := @Later.cells w5
              refine region_later (by kernel_rfl) (by kernel_rfl) ?_
              repeat (go_big_quiet_step ((first | (go_at_call 16; exact Later.call (refKey_any qd (.slice ao4 qd.excl.length cap4) _)) | (go_at_call 17; exact Later.call (key_any qd (.slice ao4 qd.excl.length cap4) _)) | (go_at_call_of 15 (Value.slice ao3 c.deps.length cap3); exact Later.call (has_B T1.out.1 ((T1.out.2.1.below hb5).below (Later.below _)) (fun q hq => ((T1.out.2.2.1 q hq).below hb5).below (Later.below _)) T1.out.2.2.2)) | (go_at_call_of 15 (Value.slice bo3 p.deps.length bap3); exact Later.call (has_B T2.out.1 ((T2.out.2.1.below hb5).below (Later.below _)) (fun q hq => ((T2.out.2.2.1 q hq).below hb5).below (Later.below _)) T2.out.2.2.2)))))
              refine wpQuiet_nil ?_
              rintro _ ⟨nx, rfl⟩
              go_wp2
              go_roundw
              case rel => exact ⟨k + 1, hlt, by go_num, hb.trans ((hb5.trans (nx.below.mono hb5.size)).mono hb.size)⟩
              case measure => simp [intOf]; omega
            · have a2 := v2.below hb v2.lt
              have b10 := a2.cell 10 _ rfl
              have l2 := a2.lt
              clear sD hEE hEl
              go_wp2
              clear a2 b10 l2
              go_loopw [148] (fun i wr => ∃ k : Nat, k ≤ p.deps.length ∧ i = .int .i64 k ∧ Below W4.heap.size W4 wr) (fun i _ => p.deps.length - (intOf i).toNat)
              case atStart => exact ⟨0, Nat.zero_le _, rfl, hb⟩
              case round =>
                clear hb hlt hk
                obtain ⟨k, hk, rfl, hb⟩ := hrel
                obtain ⟨qm, hqm, sQ, oQ⟩ := (Hp.out.below hB4).deps
                have hqml : qm.length = p.deps.length := by rw [← hqm]; simp
                have hpd : p.deps.length ≤ 4398046511103 := by have h4 := hS.out.deps; omega
                by_cases hlt : k < p.deps.length
                · have hkE : k < qm.length := by omega
                  have h1 : has M.deps (keyOf qm[k].1) = true := by rw [HMD.out]; exact under_has (by rw [← hqm]; exact List.mem_map.2 ⟨qm[k], by simp, rfl⟩)
                  have hok := (oQ qm[k] (by simp)).below hb
                  obtain ⟨b, o, rfl, hbl, g0, g1, g2, g3, g4, g5, g6, g7⟩ := (sQ.below hb).atDep hkE
                  have a3 := v3.below hb v3.lt
                  generalize qm[k] = q at *
                  obtain ⟨qd, qx⟩ := q
                  obtain ⟨ao4, cap4, rfl⟩ := hok.shape
                  simp only at g0 g1 g2 g3 g4 g5 g6 g7 h1
                  obtain ⟨hmm1, sM, oM⟩ := hMM.out
                  rw [← hmm1] at h1
                  have T1 := Lib.hid (And.intro h1 (And.intro (sM.below hb) (And.intro (fun q hq => (oM q hq).below hb : ∀ q ∈ mm, DepOk wr q) (by omega : mm.length ≤ 140737488355328))))
                  have hbx : Box _ _ _ := Box.new wr (depC (qd, .slice ao4 qd.excl.length cap4)) 34 wr.heap.size rfl
                  clear h1 hqm sQ oQ hok sM oM hmm1
                  simp only [depC] at hbx
                  go_wp2
                  refine wp_world ?_
                  intro w5 hw5
                  rw [← hw5] at hbx
                  have hb5 : Below wr.heap.size wr w5 := by rw [hw5]; exact (Below.refl _ _).alloc (Nat.le_refl _) _
                  clear hw5 g0 g1 g2 g3 g4 g5 g6 g7
                  have e10 := (a3.below hb5 a3.lt).cell 10 _ rfl
                  have l3 := (a3.below hb5 a3.lt).lt
                  have l5 := hbx.lt
                  have q0 := hbx.cell 0 _ rfl
                  have q1 := hbx.cell 1 _ rfl
                  have q2 := hbx.cell 2 _ rfl
                  have q3 := hbx.cell 3 _ rfl
                  have q4 := hbx.cell 4 _ rfl
                  have q5 := hbx.cell 5 _ rfl
                  have q6 := hbx.cell 6 _ rfl
                  have q7 := hbx.cell 7 _ rfl
                  have hL := @Later.cells w5
                  refine region_later (by kernel_rfl) (by kernel_rfl) ?_
                  repeat (go_big_quiet_step ((first | (go_at_call 16; exact Later.call (refKey_any qd (.slice ao4 qd.excl.length cap4) _)) | (go_at_call 15; exact Later.call (has_B T1.out.1 ((T1.out.2.1.below hb5).below (Later.below _)) (fun q hq => ((T1.out.2.2.1 q hq).below hb5).below (Later.below _)) T1.out.2.2.2)))))
                  refine wpQuiet_nil ?_
                  rintro _ ⟨nx, rfl⟩
                  go_wp2
                  go_roundw
                  case rel => exact ⟨k + 1, hlt, by go_num, hb.trans ((hb5.trans (nx.below.mono hb5.size)).mono hb.size)⟩
                  case measure => simp [intOf]; omega
                · clear sQ oQ hqm hqml hMM
                  have a1 := v1.below hb v1.lt
                  have a2 := v2.below hb v2.lt
                  have a3 := v3.below hb v3.lt
                  rw [hmf.out.1, hmf.out.2.1, hmf.out.2.2] at a3
                  have GC := Lib.hid ((Hc.out.below hB4).managed.below hb)
                  have GP := Lib.hid ((Hp.out.below hB4).managed.below hb)
                  have HX := Lib.hid hS.out.manX
                  have hBw := hB4.trans (hb.mono hB4.size)
                  have G2 := Lib.hid hS.out.man
                  have G3 : Hid ((underD c.managed p.managed).length ≤ 140737488355328) := by have := hS.out.man; have h2 := under_fit c.managed p.managed; show _ ≤ _; omega
                  have l1 := a1.lt
                  have l2 := a2.lt
                  have l3 := a3.lt
                  obtain ⟨c0, c1, c2, c3, c4, c5, c6, c7, c8, c9, c10⟩ := a1.pom
                  obtain ⟨d0, d1, d2, d3, d4, d5, d6, d7, d8, d9, d10⟩ := a2.pom
                  obtain ⟨e0, e1, e2, e3, e4, e5, e6, e7, e8, e9, e10⟩ := a3.pom
                  clear a1 a2 a3
                  go_wp2
                  go_region_held3 (fun w' => ∀ b o, b < wr.heap.size → w'.cell? ⟨b, o, none⟩ = wr.cell? ⟨b, o, none⟩) (first | (intro b o h; rfl) | exact fun b o h => hb5.cell h | exact fun b o h => hb6.cell h | exact fun b o h => hb7.cell h | exact fun b o h => hb8.cell h) (first | (go_at_call 18; refine (chainUnder_D c.managed p.managed _ _ _ (GC.out.below ((Below.refl _ _).drew)) (GP.out.below ((Below.refl _ _).drew)) G2.out HX.out).mono ?_; intro e w5 hR; obtain ⟨v5, rfl, D5, hb5'⟩ := hR; obtain ⟨so5, cp5, rfl⟩ := D5.shape; have hb5 := below_of_drew hb5') | (go_at_call 19; refine (refUnder_D c.managed p.managed _ _ _ (GC.out.below hb5) (GP.out.below hb5) G2.out).mono ?_; intro e w6 hR; obtain ⟨v6, rfl, D6, hb6'⟩ := hR; obtain ⟨so6, cp6, rfl⟩ := D6.shape; have hb6 := hb5.trans (hb6'.mono (by exact hb5.size)); have D56 := D5.below hb6') | (go_at_call 14; refine (sameDeps_yes _ _ _ _ D56 D6 G3.out (fun d hd => by have := HX.out d hd; omega)).mono ?_; rintro e w7 ⟨rfl, hb7'⟩; have hb7 := hb6.trans (hb7'.mono (by exact hb6.size))) | (go_at_call 8; refine (lives_any _).mono ?_; rintro e w8 ⟨rfl, hb8'⟩; have hb8 := hb7.trans (hb8'.mono (by exact hb7.size))))
                  go_wp2
                  go_ret
                  exact ⟨rfl, hBw.trans (hb8.mono hBw.size)⟩

end Go.Proofs.Ytnhophaeimpkkaa
