/- The walk of the law ChainMerges; its conditions stand in the theorems. -/
import Derived.Test.YtnhophaeimpkkaaT17
import Derived.Test.YtnhophaeimpkkaaOwn2
import Derived.Deep.RegionHeld3
import Derived.Deep.DrawnRows
import Derived.WalkKit
import Derived.WalkSpells
import Derived.WalkLawsBesides
namespace Go.Proofs.Ytnhophaeimpkkaa
open Go Go.RowKit

attribute [local go_sem ↓] Go.wp_at_zero Go.wp_at_succ

theorem small_of_light {c p : Pom} (hc : Light c) (hp : Light p) : Small c p := by
  have h1 := hc.props; have h2 := hp.props; have h3 := hc.managed; have h4 := hp.managed; have h5 := hc.deps; have h6 := hp.deps
  refine ⟨by omega, by omega, by omega, fun d hd => ?_, fun d hd => ?_⟩
  · have : LightDep d := by
      rcases List.mem_append.1 hd with h | h
      · exact hc.managedL d h
      · exact hp.managedL d (List.mem_filter.1 h).1
    have := this.excl; omega
  · have : LightDep d := by
      rcases List.mem_append.1 hd with h | h
      · exact hc.depsL d h
      · exact hp.depsL d (List.mem_filter.1 h).1
    have := this.excl; omega

/-- What two light projects are merged to is small enough to be compared. -/
theorem merge_small {c p : Pom} (hc : Light c) (hp : Light p) : (merge c p).props.length ≤ 140737488355328 ∧ (merge c p).managed.length ≤ 140737488355328 ∧ (merge c p).deps.length ≤ 140737488355328 ∧
    (∀ d ∈ (merge c p).managed, d.excl.length ≤ 140737488355328) ∧ ∀ d ∈ (merge c p).deps, d.excl.length ≤ 140737488355328 := by
  have hS := small_of_light hc hp
  have h1 := over_len p.props c.props
  have h2 := hS.props
  have l1 : (underD c.managed p.managed).length ≤ c.managed.length + p.managed.length := by
    unfold underD; rw [List.length_append]; have := List.length_filter_le (fun d : Dep => !(has c.managed (keyOf d))) p.managed; omega
  have l2 : (underD c.deps p.deps).length ≤ c.deps.length + p.deps.length := by
    unfold underD; rw [List.length_append]; have := List.length_filter_le (fun d : Dep => !(has c.deps (keyOf d))) p.deps; omega
  have h3 := hS.man
  have h4 := hS.deps
  exact ⟨by show (over p.props c.props).length ≤ _; omega, by show (underD c.managed p.managed).length ≤ _; omega, by show (underD c.deps p.deps).length ≤ _; omega,
    fun d hd => by have := hS.manX d hd; omega, fun d hd => by have := hS.depsX d hd; omega⟩

theorem Box.pom {w : World} {b : Nat} {a0 a1 a2 a3 a4 a5 a6 a7 a8 a9 a10 : Value} (h : Box w b [a0, a1, a2, a3, a4, a5, a6, a7, a8, a9, a10]) :
    w.cell? ⟨b, 0, none⟩ = some a0 ∧ w.cell? ⟨b, 1, none⟩ = some a1 ∧ w.cell? ⟨b, 2, none⟩ = some a2 ∧ w.cell? ⟨b, 3, none⟩ = some a3 ∧ w.cell? ⟨b, 4, none⟩ = some a4 ∧ w.cell? ⟨b, 5, none⟩ = some a5 ∧
      w.cell? ⟨b, 6, none⟩ = some a6 ∧ w.cell? ⟨b, 7, none⟩ = some a7 ∧ w.cell? ⟨b, 8, none⟩ = some a8 ∧ w.cell? ⟨b, 9, none⟩ = some a9 ∧ w.cell? ⟨b, 10, none⟩ = some a10 :=
  ⟨h.cell 0 _ rfl, h.cell 1 _ rfl, h.cell 2 _ rfl, h.cell 3 _ rfl, h.cell 4 _ rfl, h.cell 5 _ rfl, h.cell 6 _ rfl, h.cell 7 _ rfl, h.cell 8 _ rfl, h.cell 9 _ rfl, h.cell 10 _ rfl⟩

theorem pom_shape {w : World} {P : Pom} {pv mv dv : Value} (h : PomOf w (.agg (pomC P pv mv dv).toArray) P pv mv dv) : ∃ ao1 cap1 ao2 cap2 ao3 cap3, pv = .slice ao1 P.props.length cap1 ∧ mv = .slice ao2 P.managed.length cap2 ∧ dv = .slice ao3 P.deps.length cap3 := by
  obtain ⟨ao1, cap1, h1⟩ := h.props.shape
  obtain ⟨ao2, cap2, h2⟩ := h.managed.shape
  obtain ⟨ao3, cap3, h3⟩ := h.deps.shape
  exact ⟨ao1, cap1, ao2, cap2, ao3, cap3, h1, h2, h3⟩

theorem merge_M {M : Pom} (c p : Pom) (hM : merge c p = M) (pv mv dv pv2 mv2 dv2 : Value) (w : World) (hc : PomOf w (.agg (pomC c pv mv dv).toArray) c pv mv dv) (hp : PomOf w (.agg (pomC p pv2 mv2 dv2).toArray) p pv2 mv2 dv2) (hS : Small c p) :
    Calls Try.prog 9 #[.agg (pomC c pv mv dv).toArray, .agg (pomC p pv2 mv2 dv2).toArray] w (RetMerged M w) := by
  subst hM; exact merge_any c p pv mv dv pv2 mv2 dv2 w hc hp hS
theorem refMerge_M {M : Pom} (c p : Pom) (hM : merge c p = M) (pv mv dv pv2 mv2 dv2 : Value) (w : World) (hc : PomOf w (.agg (pomC c pv mv dv).toArray) c pv mv dv) (hp : PomOf w (.agg (pomC p pv2 mv2 dv2).toArray) p pv2 mv2 dv2) (hS : Small c p) :
    Calls Try.prog 11 #[.agg (pomC c pv mv dv).toArray, .agg (pomC p pv2 mv2 dv2).toArray] w (RetPom M w) := by
  subst hM; exact refMerge_any c p pv mv dv pv2 mv2 dv2 w hc hp hS

set_option maxRecDepth 100000 in
set_option maxHeartbeats 1000000 in
theorem merges_any (c p : Pom) (pv mv dv pv2 mv2 dv2 : Value) (w : World) (hc : PomOf w (.agg (pomC c pv mv dv).toArray) c pv mv dv) (hp : PomOf w (.agg (pomC p pv2 mv2 dv2).toArray) p pv2 mv2 dv2) :
    Calls Try.prog 3 #[.agg (pomC c pv mv dv).toArray, .agg (pomC p pv2 mv2 dv2).toArray] w fun e w' => e = .returned (.bool true) ∧ Below w.heap.size w w' := by
  obtain ⟨ao1, cap1, ao2, cap2, ao3, cap3, rfl, rfl, rfl⟩ := pom_shape hc
  obtain ⟨bo1, bap1, bo2, bap2, bo3, bap3, rfl, rfl, rfl⟩ := pom_shape hp
  have hx1 : Box _ _ _ := (Box.new w (pomC c (.slice ao1 c.props.length cap1) (.slice ao2 c.managed.length cap2) (.slice ao3 c.deps.length cap3)) 27 _ rfl).alloc (.cells (pomC p (.slice bo1 p.props.length bap1) (.slice bo2 p.managed.length bap2) (.slice bo3 p.deps.length bap3)).toArray 27)
  have hx2 : Box _ _ _ := Box.new (w.alloc (.cells (pomC c (.slice ao1 c.props.length cap1) (.slice ao2 c.managed.length cap2) (.slice ao3 c.deps.length cap3)).toArray 27)) (pomC p (.slice bo1 p.props.length bap1) (.slice bo2 p.managed.length bap2) (.slice bo3 p.deps.length bap3)) 27 (w.heap.size + 1) (by simp)
  have hB := ((Below.refl w.heap.size w).alloc (Nat.le_refl _) (.cells (pomC c (.slice ao1 c.props.length cap1) (.slice ao2 c.managed.length cap2) (.slice ao3 c.deps.length cap3)).toArray 27)).alloc (by simp) (.cells (pomC p (.slice bo1 p.props.length bap1) (.slice bo2 p.managed.length bap2) (.slice bo3 p.deps.length bap3)).toArray 27)
  have Hc := Lib.hid hc
  have Hp := Lib.hid hp
  clear hc hp
  simp only [pomC] at hx1 hx2 hB ⊢
  have HX := Lib.hid (And.intro hx1 (And.intro hx2 hB))
  clear hx1 hx2 hB
  go_enter Try.func3, Try.ntmps3
  go_wp2_with fail
  refine Calls.world ?_
  intro W hW
  obtain ⟨x1, x2, hB⟩ : Box W w.heap.size [.bool c.hasParent, .string c.parent.group, .string c.parent.artifact, .string c.parent.version, .string c.group, .string c.artifact, .string c.version, .string c.packaging, .slice ao1 c.props.length cap1, .slice ao2 c.managed.length cap2, .slice ao3 c.deps.length cap3] ∧ Box W (w.heap.size + 1) [.bool p.hasParent, .string p.parent.group, .string p.parent.artifact, .string p.parent.version, .string p.group, .string p.artifact, .string p.version, .string p.packaging, .slice bo1 p.props.length bap1, .slice bo2 p.managed.length bap2, .slice bo3 p.deps.length bap3] ∧ Below w.heap.size w W := by rw [hW]; exact HX.out
  clear hW HX
  refine (light_any c (.slice ao1 c.props.length cap1) (.slice ao2 c.managed.length cap2) (.slice ao3 c.deps.length cap3) W (Hc.out.below hB)).mono ?_
  intro e w1 hR
  obtain ⟨b1, rfl, hb1t, hb1⟩ := hR
  have y1 := x1.below hb1 x1.lt
  have y2 := x2.below hb1 x2.lt
  have hB1 := hB.trans (hb1.mono hB.size)
  clear x1 x2 hB hb1
  cases b1 with
  | false =>
    clear hb1t
    go_wp2_with (go_at_call 8; refine (lives_any _).mono ?_; rintro e w2 ⟨rfl, hb2⟩)
    go_ret
    exact ⟨rfl, hB1.trans (hb2.mono hB1.size)⟩
  | true =>
  have L1 := Lib.hid (hb1t rfl)
  clear hb1t
  obtain ⟨c0, c1, c2, c3, c4, c5, c6, c7, c8, c9, c10⟩ := y2.pom
  go_wp2_with fail
  refine (light_any p (.slice bo1 p.props.length bap1) (.slice bo2 p.managed.length bap2) (.slice bo3 p.deps.length bap3) w1 (Hp.out.below hB1)).mono ?_
  intro e w2 hR
  obtain ⟨b2, rfl, hb2t, hb2⟩ := hR
  have z1 := y1.below hb2 y1.lt
  have z2 := y2.below hb2 y2.lt
  have hB2 := hB1.trans (hb2.mono hB1.size)
  clear y1 y2 hB1 hb2 c0 c1 c2 c3 c4 c5 c6 c7 c8 c9 c10
  cases b2 with
  | false =>
    clear hb2t
    go_wp2_with (go_at_call 8; refine (lives_any _).mono ?_; rintro e w3 ⟨rfl, hb3⟩)
    go_ret
    exact ⟨rfl, hB2.trans (hb3.mono hB2.size)⟩
  | true =>
  have hS := Lib.hid (small_of_light L1.out (hb2t rfl))
  have hMS := Lib.hid (merge_small L1.out (hb2t rfl))
  clear hb2t L1
  obtain ⟨c0, c1, c2, c3, c4, c5, c6, c7, c8, c9, c10⟩ := z1.pom
  obtain ⟨d0, d1, d2, d3, d4, d5, d6, d7, d8, d9, d10⟩ := z2.pom
  go_wp2_with fail
  refine (merge_any c p (.slice ao1 c.props.length cap1) (.slice ao2 c.managed.length cap2) (.slice ao3 c.deps.length cap3) (.slice bo1 p.props.length bap1) (.slice bo2 p.managed.length bap2) (.slice bo3 p.deps.length bap3) w2 (Hc.out.below hB2) (Hp.out.below hB2) hS.out).mono ?_
  intro e w3 hR
  obtain ⟨pv3, mv3, dv3, rfl, hM⟩ := hR
  clear c0 c1 c2 c3 c4 c5 c6 c7 c8 c9 c10 d0 d1 d2 d3 d4 d5 d6 d7 d8 d9 d10
  obtain ⟨mo1, map1, mo2, map2, mo3, map3, rfl, rfl, rfl⟩ := pom_shape hM.pom
  have hb3 := hM.below
  have u1 := z1.below hb3 z1.lt
  have u2 := z2.below hb3 z2.lt
  have hB3 := hB2.trans (hb3.mono hB2.size)
  have hlt1 := z1.lt
  have hlt2 := z2.lt
  have hM' := Lib.hid hM
  have hsz3 : Hid (w2.heap.size ≤ w3.heap.size) := hb3.size
  clear z1 z2 hb3 hM
  generalize hMM : merge c p = M at *
  have HMM := Lib.hid hMM
  clear hMM
  simp only [pomC]
  go_wp2
  refine wp_world ?_
  intro W4 hW4
  have v1 : Box W4 w.heap.size [.bool c.hasParent, .string c.parent.group, .string c.parent.artifact, .string c.parent.version, .string c.group, .string c.artifact, .string c.version, .string c.packaging, .slice ao1 c.props.length cap1, .slice ao2 c.managed.length cap2, .slice ao3 c.deps.length cap3] := by rw [hW4]; exact u1.alloc _
  have v2 : Box W4 (w.heap.size + 1) [.bool p.hasParent, .string p.parent.group, .string p.parent.artifact, .string p.parent.version, .string p.group, .string p.artifact, .string p.version, .string p.packaging, .slice bo1 p.props.length bap1, .slice bo2 p.managed.length bap2, .slice bo3 p.deps.length bap3] := by rw [hW4]; exact u2.alloc _
  have v3 : Box W4 w3.heap.size [.bool M.hasParent, .string M.parent.group, .string M.parent.artifact, .string M.parent.version, .string M.group, .string M.artifact, .string M.version, .string M.packaging, .slice mo1 M.props.length map1, .slice mo2 M.managed.length map2, .slice mo3 M.deps.length map3] := by rw [hW4]; exact Box.new w3 _ _ _ rfl
  have hB4 : Below w.heap.size w W4 := by rw [hW4]; exact hB3.alloc hB3.size _
  have hb4 : Hid (Below w3.heap.size w3 W4) := by rw [hW4]; exact (Below.refl _ _).alloc (Nat.le_refl _) _
  clear hW4 u1 u2 hB3
  have hl1 := v1.lt
  have hl2 := v2.lt
  have hl3 := v3.lt
  obtain ⟨c0, c1, c2, c3, c4, c5, c6, c7, c8, c9, c10⟩ := v1.pom
  obtain ⟨d0, d1, d2, d3, d4, d5, d6, d7, d8, d9, d10⟩ := v2.pom
  obtain ⟨e0, e1, e2, e3, e4, e5, e6, e7, e8, e9, e10⟩ := v3.pom
  go_region_held3 (fun w' => ∀ b o, b < W4.heap.size → w'.cell? ⟨b, o, none⟩ = W4.cell? ⟨b, o, none⟩) (first | (intro b o h; rfl) | exact fun b o h => (below_of_drew hb5).cell h | exact fun b o h => hb6.cell h)
    (first | (go_at_call 11; refine (refMerge_M c p HMM.out (.slice ao1 c.props.length cap1) (.slice ao2 c.managed.length cap2) (.slice ao3 c.deps.length cap3) (.slice bo1 p.props.length bap1) (.slice bo2 p.managed.length bap2) (.slice bo3 p.deps.length bap3) _ (Hc.out.below hB4.drew) (Hp.out.below hB4.drew) hS.out).mono ?_; intro e w5 hR; obtain ⟨pv5, mv5, dv5, rfl, hP5, hb5⟩ := hR; obtain ⟨no1, nap1, no2, nap2, no3, nap3, rfl, rfl, rfl⟩ := pom_shape hP5) | (go_at_call 10; refine (same_yes M (.slice mo1 M.props.length map1) (.slice mo2 M.managed.length map2) (.slice mo3 M.deps.length map3) _ _ _ _ (((hM'.out.pom).below hb4.out).below (below_of_drew hb5)) hP5 hMS.out.1 hMS.out.2.1 hMS.out.2.2.1 hMS.out.2.2.2.1 hMS.out.2.2.2.2).mono ?_; rintro e w6 ⟨rfl, hb6'⟩; have hb6 := (below_of_drew hb5).trans (hb6'.mono (by exact hb5.size))))
  have hS4 := hb4.out.size
  have a1 := v1.below hb6 v1.lt
  have a2 := v2.below hb6 v2.lt
  have a3 := v3.below hb6 v3.lt
  have hB6 := hB4.trans (hb6.mono hB4.size)
  have oP : Owns w2.heap.size 36 2 prpC w6 (.slice mo1 M.props.length map1) M.props := (hM'.out.props.below hb4.out).below hb6
  obtain ⟨cur0, oM, -, -⟩ := hM'.out.man
  have hgM : Hid (∀ g, (Value.slice mo2 M.managed.length map2).ownBlock = some g → g < w3.heap.size) := fun g hg => (oM.lt g hg).2
  have hgP : Hid (∀ g, (Value.slice mo1 M.props.length map1).ownBlock = some g → g < w3.heap.size) := fun g hg => (hM'.out.props.lt g hg).2
  have oM6 : Owns w2.heap.size 34 8 depC w6 (.slice mo2 M.managed.length map2) cur0 := (oM.below hb4.out).below hb6
  have hml := hMS.out.2.1
  have hpl := hMS.out.1
  clear v1 v2 v3 oM hb6' hb6 hb5 hP5 hB4 hS4 hl1 hl2 hl3 c0 c1 c2 c3 c4 c5 c6 c7 c8 c9 c10 d0 d1 d2 d3 d4 d5 d6 d7 d8 d9 d10 e0 e1 e2 e3 e4 e5 e6 e7 e8 e9 e10
  have e9 := a3.cell 9 _ rfl
  go_wp2
  go_loopw [29] (fun i wr => ∃ (k : Nat) (cur : List (Dep × Value)), k ≤ M.managed.length ∧ i = .int .i64 k ∧ Below w.heap.size w wr ∧ Box wr w.heap.size [.bool c.hasParent, .string c.parent.group, .string c.parent.artifact, .string c.parent.version, .string c.group, .string c.artifact, .string c.version, .string c.packaging, .slice ao1 c.props.length cap1, .slice ao2 c.managed.length cap2, .slice ao3 c.deps.length cap3] ∧ Box wr (w.heap.size + 1) [.bool p.hasParent, .string p.parent.group, .string p.parent.artifact, .string p.parent.version, .string p.group, .string p.artifact, .string p.version, .string p.packaging, .slice bo1 p.props.length bap1, .slice bo2 p.managed.length bap2, .slice bo3 p.deps.length bap3] ∧ Box wr w3.heap.size [.bool M.hasParent, .string M.parent.group, .string M.parent.artifact, .string M.parent.version, .string M.group, .string M.artifact, .string M.version, .string M.packaging, .slice mo1 M.props.length map1, .slice mo2 M.managed.length map2, .slice mo3 M.deps.length map3] ∧ Owns w2.heap.size 34 8 depC wr (.slice mo2 M.managed.length map2) cur ∧ Owns w2.heap.size 36 2 prpC wr (.slice mo1 M.props.length map1) M.props) (fun i _ => M.managed.length - (intOf i).toNat)
  case atStart => exact ⟨0, cur0, Nat.zero_le _, rfl, hB6, a1, a2, a3, oM6, oP⟩
  case round =>
    clear hB6 a1 a2 a3 oM6 oP e9
    obtain ⟨k, cur, hk, rfl, hB6, a1, a2, a3, oM6, oP⟩ := hrel
    have hcl : M.managed.length = cur.length := by
      obtain ⟨x, y, h⟩ := oM6.shape
      simp only [Value.slice.injEq] at h; exact h.2.1
    by_cases hlt : k < M.managed.length
    · obtain ⟨qq, hck⟩ : ∃ qq, cur[k]? = some qq := ⟨_, List.getElem?_eq_getElem (hcl ▸ hlt)⟩
      obtain ⟨g, rfl, hg1, hg2, hcell, hfree, -, hset⟩ := own_store (j := 0) depC_len oM6 hck (by decide)
      have hgl := hgM.out g rfl
      have hap := hM'.out.apart g rfl
      have q0 : wr.cell? ⟨g, k * 8, none⟩ = some (.string qq.1.group) := hcell
      have qf : wr.frozen? ⟨g, k * 8, none⟩ = false := hfree
      have e9 := a3.cell 9 _ rfl
      have HS := Lib.hid hset
      have HAP := Lib.hid hap
      have Hcl := Lib.hid hcl
      clear hcell hfree hset hck hap hcl
      go_wp2
      go_roundw
      case rel =>
        have hg := setCell_grown wr g (k * 8) (.string ⟨#[111, 116, 104, 101, 114]⟩)
        exact ⟨k + 1, _, hlt, by go_num, hB6.setCell (by show _ ≤ g; omega) _, a1.grown hg (by simp; omega), a2.grown hg (by simp; omega), a3.grown hg (by simp; omega), HS.out (.string ⟨#[111, 116, 104, 101, 114]⟩) (⟨⟨#[111, 116, 104, 101, 114]⟩, qq.1.artifact, qq.1.version, qq.1.type, qq.1.classifier, qq.1.scope, qq.1.opt, qq.1.excl⟩, qq.2) rfl, oP.kept hg (.inr HAP.out)⟩
      case measure => simp [intOf]; omega
    · clear oM6 hcl
      have e8 := a3.cell 8 _ rfl
      go_wp2
      go_loopw [41] (fun i wr => ∃ (k : Nat) (cur : List Prp), k ≤ M.props.length ∧ i = .int .i64 k ∧ Below w.heap.size w wr ∧ Box wr w.heap.size [.bool c.hasParent, .string c.parent.group, .string c.parent.artifact, .string c.parent.version, .string c.group, .string c.artifact, .string c.version, .string c.packaging, .slice ao1 c.props.length cap1, .slice ao2 c.managed.length cap2, .slice ao3 c.deps.length cap3] ∧ Box wr (w.heap.size + 1) [.bool p.hasParent, .string p.parent.group, .string p.parent.artifact, .string p.parent.version, .string p.group, .string p.artifact, .string p.version, .string p.packaging, .slice bo1 p.props.length bap1, .slice bo2 p.managed.length bap2, .slice bo3 p.deps.length bap3] ∧ Box wr w3.heap.size [.bool M.hasParent, .string M.parent.group, .string M.parent.artifact, .string M.parent.version, .string M.group, .string M.artifact, .string M.version, .string M.packaging, .slice mo1 M.props.length map1, .slice mo2 M.managed.length map2, .slice mo3 M.deps.length map3] ∧ Owns w2.heap.size 36 2 prpC wr (.slice mo1 M.props.length map1) cur) (fun i _ => M.props.length - (intOf i).toNat)
      case atStart => exact ⟨0, _, Nat.zero_le _, rfl, hB6, a1, a2, a3, oP⟩
      case round =>
        clear hB6 a1 a2 a3 oP e8 hlt hk
        obtain ⟨k, cur, hk, rfl, hB6, a1, a2, a3, oP⟩ := hrel
        have hcl : M.props.length = cur.length := by
          obtain ⟨x, y, h⟩ := oP.shape
          simp only [Value.slice.injEq] at h; exact h.2.1
        by_cases hlt : k < M.props.length
        · obtain ⟨qq, hck⟩ : ∃ qq, cur[k]? = some qq := ⟨_, List.getElem?_eq_getElem (hcl ▸ hlt)⟩
          obtain ⟨g, rfl, hg1, hg2, hcell, hfree, -, hset⟩ := own_store (j := 1) prpC_len oP hck (by decide)
          have hgl := hgP.out g rfl
          have q0 : wr.cell? ⟨g, k * 2 + 1, none⟩ = some (.string qq.value) := hcell
          have e8 := a3.cell 8 _ rfl
          have HS := Lib.hid hset
          have Hcl := Lib.hid hcl
          clear hcell hset hck hcl
          go_wp2
          go_roundw
          case rel =>
            have hg := setCell_grown wr g (k * 2 + 1) (.string ⟨#[111, 116, 104, 101, 114]⟩)
            exact ⟨k + 1, _, hlt, by go_num, hB6.setCell (by show _ ≤ g; omega) _, a1.grown hg (by simp; omega), a2.grown hg (by simp; omega), a3.grown hg (by simp; omega), HS.out (.string ⟨#[111, 116, 104, 101, 114]⟩) ⟨qq.name, ⟨#[111, 116, 104, 101, 114]⟩⟩ rfl⟩
          case measure => simp [intOf]; omega
        · clear oP hcl
          have hl1 := a1.lt
          have hl2 := a2.lt
          obtain ⟨c0, c1, c2, c3, c4, c5, c6, c7, c8, c9, c10⟩ := a1.pom
          obtain ⟨d0, d1, d2, d3, d4, d5, d6, d7, d8, d9, d10⟩ := a2.pom
          clear a3
          go_wp2
          go_region_held3 (fun w' => ∀ b o, b < wr.heap.size → w'.cell? ⟨b, o, none⟩ = wr.cell? ⟨b, o, none⟩) (first | (intro b o h; rfl) | exact fun b o h => (below_of_drew hb7).cell h | exact fun b o h => hb8.cell h | exact fun b o h => hb9.cell h | exact fun b o h => hb10.cell h) (first | (go_at_call 9; refine (merge_M c p HMM.out (.slice ao1 c.props.length cap1) (.slice ao2 c.managed.length cap2) (.slice ao3 c.deps.length cap3) (.slice bo1 p.props.length bap1) (.slice bo2 p.managed.length bap2) (.slice bo3 p.deps.length bap3) _ (Hc.out.below hB6.drew) (Hp.out.below hB6.drew) hS.out).mono ?_; intro e w7 hR; obtain ⟨pv7, mv7, dv7, rfl, hM7⟩ := hR; have hb7 := hM7.below; obtain ⟨lo1, lap1, lo2, lap2, lo3, lap3, rfl, rfl, rfl⟩ := pom_shape hM7.pom; have hB7 := hB6.trans ((below_of_drew hb7).mono hB6.size)) | (go_at_call 11; refine (refMerge_M c p HMM.out (.slice ao1 c.props.length cap1) (.slice ao2 c.managed.length cap2) (.slice ao3 c.deps.length cap3) (.slice bo1 p.props.length bap1) (.slice bo2 p.managed.length bap2) (.slice bo3 p.deps.length bap3) _ (Hc.out.below hB7) (Hp.out.below hB7) hS.out).mono ?_; intro e w8 hR; obtain ⟨pv8, mv8, dv8, rfl, hP8, hb8'⟩ := hR; obtain ⟨no1, nap1, no2, nap2, no3, nap3, rfl, rfl, rfl⟩ := pom_shape hP8; have hb8 := (below_of_drew hb7).trans (hb8'.mono (by exact hb7.size)); have hB8 := hB7.trans (hb8'.mono hB7.size)) | (go_at_call 10; refine (same_yes M _ _ _ _ _ _ _ (hM7.pom.below hb8') hP8 hMS.out.1 hMS.out.2.1 hMS.out.2.2.1 hMS.out.2.2.2.1 hMS.out.2.2.2.2).mono ?_; rintro e w9 ⟨rfl, hb9'⟩; have hb9 := hb8.trans (hb9'.mono hb8.size); have hB9 := hB8.trans (hb9'.mono hB8.size)) | (go_at_call 8; refine (lives_any _).mono ?_; rintro e w10 ⟨rfl, hb10'⟩; have hb10 := hb9.trans (hb10'.mono hb9.size); have hB10 := hB9.trans (hb10'.mono hB9.size)))
          go_wp2
          go_ret
          exact ⟨rfl, hB10⟩

end Go.Proofs.Ytnhophaeimpkkaa
