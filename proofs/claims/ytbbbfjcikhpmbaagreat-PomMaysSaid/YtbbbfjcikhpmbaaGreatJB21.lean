/- Walks: Same of projects, the document's and pom's; the conditions stand in the theorems. -/
import Derived.Test.YtbbbfjcikhpmbaaGreatJB20
import Derived.Test.YtbbbfjcikhpmbaaGreatJB11
import Derived.Test.YtbbbfjcikhpmbaaGreatJB08
import Derived.Test.YtbbbfjcikhpmbaaGreatJB13
import Derived.Test.YtbbbfjcikhpmbaaGreatJB05
import Derived.Test.YtbbbfjcikhpmbaaGreatJB19

namespace Go.Proofs.YtbbbfjcikhpmbaaGreat
open Go Go.RowKit

attribute [local go_sem ↓] eqg_prp neq_prp eqg_id neq_id eqg_gav eql_gav
set_option maxRecDepth 100000 in
set_option maxHeartbeats 4000000 in
theorem sameX_any (p q : Pom) (pv mv dv pv2 mv2 dv2 : Value) (w : World) (hp : PomOf w (.agg (pomC p pv mv dv).toArray) p pv mv dv) (hq : PomOf w (.agg (pomC q pv2 mv2 dv2).toArray) q pv2 mv2 dv2)
    (x2 : ∀ d ∈ p.managed, d.excl.length ≤ 140737488355328) (x3 : ∀ d ∈ p.deps, d.excl.length ≤ 140737488355328) (y2 : ∀ d ∈ q.managed, d.excl.length ≤ 140737488355328) (y3 : ∀ d ∈ q.deps, d.excl.length ≤ 140737488355328) :
    Calls Tryz.prog 15 #[.agg (pomC p pv mv dv).toArray, .agg (pomC q pv2 mv2 dv2).toArray] w fun e w' => e = .returned (.bool (decide (p = q))) ∧ Below w.heap.size w w' := by
  obtain ⟨r, hr⟩ : ∃ r, r = decide (p = q) := ⟨_, rfl⟩
  have HR : Hid (r = decide (p = q)) := hr
  rw [← hr]
  clear hr
  obtain ⟨-, p1, p2, p3⟩ := hp
  obtain ⟨-, q1, q2, q3⟩ := hq
  obtain ⟨dh, ⟨dx, dy, dz⟩, dg, da, dv', dk, dp, dm, dd⟩ := p
  obtain ⟨eh, ⟨ex, ey, ez⟩, eg, ea, ev, ek, ep, em, ed⟩ := q
  simp only [Pom.mk.injEq, Gav.mk.injEq] at HR
  simp only [pomC]
  simp only at p1 p2 p3 q1 q2 q3 x2 x3 y2 y3
  obtain ⟨ao1, cap1, rfl⟩ := p1.shape
  obtain ⟨ao2, cap2, rfl⟩ := p2.shape
  obtain ⟨ao3, cap3, rfl⟩ := p3.shape
  obtain ⟨ao4, cap4, rfl⟩ := q1.shape
  obtain ⟨ao5, cap5, rfl⟩ := q2.shape
  obtain ⟨ao6, cap6, rfl⟩ := q3.shape
  have H1 : Hid (∀ W, Below w.heap.size w W → Calls Tryz.prog 48 #[.slice ao1 dp.length cap1, .slice ao4 ep.length cap4] W fun e w' => e = .returned (.bool (decide (dp = ep))) ∧ Below W.heap.size W w') := fun W h => sameProps_any dp ep _ _ W (p1.below h) (q1.below h)
  have H2 : Hid (∀ W, Below w.heap.size w W → Calls Tryz.prog 49 #[.slice ao2 dm.length cap2, .slice ao5 em.length cap5] W fun e w' => e = .returned (.bool (decide (dm = em))) ∧ Below W.heap.size W w') := fun W h => sameDepsX_any dm em _ _ W (p2.below h) (q2.below h) x2 y2
  have H3 : Hid (∀ W, Below w.heap.size w W → Calls Tryz.prog 49 #[.slice ao3 dd.length cap3, .slice ao6 ed.length cap6] W fun e w' => e = .returned (.bool (decide (dd = ed))) ∧ Below W.heap.size W w') := fun W h => sameDepsX_any dd ed _ _ W (p3.below h) (q3.below h) x3 y3
  have HBB : Hid (∀ o1 o2, Below w.heap.size w ((w.alloc o1).alloc o2)) := fun o1 o2 => ((Below.refl _ _).alloc (Nat.le_refl _) _).alloc (by simp) _
  clear p1 p2 p3 q1 q2 q3 x2 x3 y2 y3
  by_cases hh : dh = eh
  rotate_left
  · have HN : Hid (r = false) := by show _ = _; rw [HR.out]; exact decide_eq_false (fun h => hh h.1)
    have hb : (dh == eh) = false := beq_eq_false_iff_ne.2 hh
    clear hh HR H1 H2 H3
    go_enter Tryz.func15, Tryz.ntmps15
    go_wp2
    go_ret
    exact ⟨by rw [HN.out]; rfl, HBB.out _ _⟩
  subst hh
  by_cases hx : dx = ex
  rotate_left
  · have HN : Hid (r = false) := by show _ = _; rw [HR.out]; exact decide_eq_false (fun h => hx h.2.1.1)
    have hb : decide (dx = ex) = false := decide_eq_false hx
    clear hx HR H1 H2 H3
    go_enter Tryz.func15, Tryz.ntmps15
    go_wp2
    go_ret
    exact ⟨by rw [HN.out]; rfl, HBB.out _ _⟩
  subst hx
  by_cases hy : dy = ey
  rotate_left
  · have HN : Hid (r = false) := by show _ = _; rw [HR.out]; exact decide_eq_false (fun h => hy h.2.1.2.1)
    have hb : decide (dy = ey) = false := decide_eq_false hy
    clear hy HR H1 H2 H3
    go_enter Tryz.func15, Tryz.ntmps15
    go_wp2
    go_ret
    exact ⟨by rw [HN.out]; rfl, HBB.out _ _⟩
  subst hy
  by_cases hz : dz = ez
  rotate_left
  · have HN : Hid (r = false) := by show _ = _; rw [HR.out]; exact decide_eq_false (fun h => hz h.2.1.2.2)
    have hb : decide (dz = ez) = false := decide_eq_false hz
    clear hz HR H1 H2 H3
    go_enter Tryz.func15, Tryz.ntmps15
    go_wp2
    go_ret
    exact ⟨by rw [HN.out]; rfl, HBB.out _ _⟩
  subst hz
  by_cases hg : dg = eg
  rotate_left
  · have HN : Hid (r = false) := by show _ = _; rw [HR.out]; exact decide_eq_false (fun h => hg h.2.2.1)
    have hb : (dg.toList == eg.toList) = false := by rw [str_beq]; exact decide_eq_false hg
    clear hg HR H1 H2 H3
    go_enter Tryz.func15, Tryz.ntmps15
    go_wp2
    go_ret
    exact ⟨by rw [HN.out]; rfl, HBB.out _ _⟩
  subst hg
  by_cases ha : da = ea
  rotate_left
  · have HN : Hid (r = false) := by show _ = _; rw [HR.out]; exact decide_eq_false (fun h => ha h.2.2.2.1)
    have hb : (da.toList == ea.toList) = false := by rw [str_beq]; exact decide_eq_false ha
    clear ha HR H1 H2 H3
    go_enter Tryz.func15, Tryz.ntmps15
    go_wp2
    go_ret
    exact ⟨by rw [HN.out]; rfl, HBB.out _ _⟩
  subst ha
  by_cases hv : dv' = ev
  rotate_left
  · have HN : Hid (r = false) := by show _ = _; rw [HR.out]; exact decide_eq_false (fun h => hv h.2.2.2.2.1)
    have hb : (dv'.toList == ev.toList) = false := by rw [str_beq]; exact decide_eq_false hv
    clear hv HR H1 H2 H3
    go_enter Tryz.func15, Tryz.ntmps15
    go_wp2
    go_ret
    exact ⟨by rw [HN.out]; rfl, HBB.out _ _⟩
  subst hv
  by_cases hk : dk = ek
  rotate_left
  · have HN : Hid (r = false) := by show _ = _; rw [HR.out]; exact decide_eq_false (fun h => hk h.2.2.2.2.2.1)
    have hb : (dk.toList == ek.toList) = false := by rw [str_beq]; exact decide_eq_false hk
    clear hk HR H1 H2 H3
    go_enter Tryz.func15, Tryz.ntmps15
    go_wp2
    go_ret
    exact ⟨by rw [HN.out]; rfl, HBB.out _ _⟩
  subst hk
  have HRX : Hid (r = (decide (dp = ep) && (decide (dm = em) && decide (dd = ed)))) := by show _ = _; rw [HR.out]; simp
  clear HR
  obtain ⟨b1, h1⟩ : ∃ b, b = decide (dp = ep) := ⟨_, rfl⟩
  obtain ⟨b2, h2⟩ : ∃ b, b = decide (dm = em) := ⟨_, rfl⟩
  obtain ⟨b3, h3⟩ : ∃ b, b = decide (dd = ed) := ⟨_, rfl⟩
  rw [← h1] at H1
  rw [← h2] at H2
  rw [← h3] at H3
  rw [← h1, ← h2, ← h3] at HRX
  clear h1 h2 h3
  have hd0 : (dh == dh) = true := by simp
  go_enter Tryz.func15, Tryz.ntmps15
  go_upto_region 1 with fail
  refine wp_world ?_
  intro W hW
  have x1 : Box W w.heap.size [.bool dh, .string dx, .string dy, .string dz, .string dg, .string da, .string dv', .string dk, .slice ao1 dp.length cap1, .slice ao2 dm.length cap2, .slice ao3 dd.length cap3] := by rw [hW]; exact (Box.new w [.bool dh, .string dx, .string dy, .string dz, .string dg, .string da, .string dv', .string dk, .slice ao1 dp.length cap1, .slice ao2 dm.length cap2, .slice ao3 dd.length cap3] _ _ rfl).alloc _
  have x2 : Box W (w.heap.size + 1) [.bool dh, .string dx, .string dy, .string dz, .string dg, .string da, .string dv', .string dk, .slice ao4 ep.length cap4, .slice ao5 em.length cap5, .slice ao6 ed.length cap6] := by rw [hW]; exact Box.new _ [.bool dh, .string dx, .string dy, .string dz, .string dg, .string da, .string dv', .string dk, .slice ao4 ep.length cap4, .slice ao5 em.length cap5, .slice ao6 ed.length cap6] _ _ (by simp)
  have hb : Below w.heap.size w W := by rw [hW]; exact HBB.out _ _
  clear hW HBB
  have HX1 := Lib.hid x1
  have HX2 := Lib.hid x2
  have HB := Lib.hid hb
  clear x1 x2 hb
  have c0 := HX1.out.cell 0 _ rfl
  have d0 := HX2.out.cell 0 _ rfl
  have c1 := HX1.out.cell 1 _ rfl
  have d1 := HX2.out.cell 1 _ rfl
  have c2 := HX1.out.cell 2 _ rfl
  have d2 := HX2.out.cell 2 _ rfl
  have c3 := HX1.out.cell 3 _ rfl
  have d3 := HX2.out.cell 3 _ rfl
  have c4 := HX1.out.cell 4 _ rfl
  have d4 := HX2.out.cell 4 _ rfl
  have c5 := HX1.out.cell 5 _ rfl
  have d5 := HX2.out.cell 5 _ rfl
  have c6 := HX1.out.cell 6 _ rfl
  have d6 := HX2.out.cell 6 _ rfl
  have c7 := HX1.out.cell 7 _ rfl
  have d7 := HX2.out.cell 7 _ rfl
  have c8 := HX1.out.cell 8 _ rfl
  have d8 := HX2.out.cell 8 _ rfl
  have c9 := HX1.out.cell 9 _ rfl
  have d9 := HX2.out.cell 9 _ rfl
  have c10 := HX1.out.cell 10 _ rfl
  have d10 := HX2.out.cell 10 _ rfl
  have cl := HX1.out.lt
  have dl := HX2.out.lt
  go_wp2_with fail
  refine (H1.out _ HB.out).mono ?_
  rintro e w1 ⟨rfl, hb1⟩
  clear c0 d0 c1 d1 c2 d2 c3 d3 c4 d4 c5 d5 c6 d6 c7 d7 c8 d8 c9 d9 c10 d10 cl dl
  have HX1' := Lib.hid (HX1.out.below hb1 HX1.out.lt)
  have HX2' := Lib.hid (HX2.out.below hb1 HX2.out.lt)
  have HB' := Lib.hid (HB.out.trans (hb1.mono HB.out.size))
  clear hb1 HX1 HX2 HB H1
  have HX1 := HX1'
  have HX2 := HX2'
  have HB := HB'
  clear HX1' HX2' HB'
  have c0 := HX1.out.cell 0 _ rfl
  have d0 := HX2.out.cell 0 _ rfl
  have c1 := HX1.out.cell 1 _ rfl
  have d1 := HX2.out.cell 1 _ rfl
  have c2 := HX1.out.cell 2 _ rfl
  have d2 := HX2.out.cell 2 _ rfl
  have c3 := HX1.out.cell 3 _ rfl
  have d3 := HX2.out.cell 3 _ rfl
  have c4 := HX1.out.cell 4 _ rfl
  have d4 := HX2.out.cell 4 _ rfl
  have c5 := HX1.out.cell 5 _ rfl
  have d5 := HX2.out.cell 5 _ rfl
  have c6 := HX1.out.cell 6 _ rfl
  have d6 := HX2.out.cell 6 _ rfl
  have c7 := HX1.out.cell 7 _ rfl
  have d7 := HX2.out.cell 7 _ rfl
  have c8 := HX1.out.cell 8 _ rfl
  have d8 := HX2.out.cell 8 _ rfl
  have c9 := HX1.out.cell 9 _ rfl
  have d9 := HX2.out.cell 9 _ rfl
  have c10 := HX1.out.cell 10 _ rfl
  have d10 := HX2.out.cell 10 _ rfl
  have cl := HX1.out.lt
  have dl := HX2.out.lt
  cases b1 with
  | false =>
    go_wp2
    go_ret
    exact ⟨by rw [HRX.out]; rfl, HB.out⟩
  | true =>
    go_wp2_with fail
    refine (H2.out _ HB.out).mono ?_
    rintro e w2 ⟨rfl, hb1⟩
    clear c0 d0 c1 d1 c2 d2 c3 d3 c4 d4 c5 d5 c6 d6 c7 d7 c8 d8 c9 d9 c10 d10 cl dl
    have HX1' := Lib.hid (HX1.out.below hb1 HX1.out.lt)
    have HX2' := Lib.hid (HX2.out.below hb1 HX2.out.lt)
    have HB' := Lib.hid (HB.out.trans (hb1.mono HB.out.size))
    clear hb1 HX1 HX2 HB H2
    have HX1 := HX1'
    have HX2 := HX2'
    have HB := HB'
    clear HX1' HX2' HB'
    have c0 := HX1.out.cell 0 _ rfl
    have d0 := HX2.out.cell 0 _ rfl
    have c1 := HX1.out.cell 1 _ rfl
    have d1 := HX2.out.cell 1 _ rfl
    have c2 := HX1.out.cell 2 _ rfl
    have d2 := HX2.out.cell 2 _ rfl
    have c3 := HX1.out.cell 3 _ rfl
    have d3 := HX2.out.cell 3 _ rfl
    have c4 := HX1.out.cell 4 _ rfl
    have d4 := HX2.out.cell 4 _ rfl
    have c5 := HX1.out.cell 5 _ rfl
    have d5 := HX2.out.cell 5 _ rfl
    have c6 := HX1.out.cell 6 _ rfl
    have d6 := HX2.out.cell 6 _ rfl
    have c7 := HX1.out.cell 7 _ rfl
    have d7 := HX2.out.cell 7 _ rfl
    have c8 := HX1.out.cell 8 _ rfl
    have d8 := HX2.out.cell 8 _ rfl
    have c9 := HX1.out.cell 9 _ rfl
    have d9 := HX2.out.cell 9 _ rfl
    have c10 := HX1.out.cell 10 _ rfl
    have d10 := HX2.out.cell 10 _ rfl
    have cl := HX1.out.lt
    have dl := HX2.out.lt
    cases b2 with
    | false =>
      go_wp2
      go_ret
      exact ⟨by rw [HRX.out]; simp, HB.out⟩
    | true =>
      go_wp2_with fail
      refine (H3.out _ HB.out).mono ?_
      rintro e w3 ⟨rfl, hb1⟩
      clear c0 d0 c1 d1 c2 d2 c3 d3 c4 d4 c5 d5 c6 d6 c7 d7 c8 d8 c9 d9 c10 d10 cl dl
      have HX1' := Lib.hid (HX1.out.below hb1 HX1.out.lt)
      have HX2' := Lib.hid (HX2.out.below hb1 HX2.out.lt)
      have HB' := Lib.hid (HB.out.trans (hb1.mono HB.out.size))
      clear hb1 HX1 HX2 HB H3
      have HX1 := HX1'
      have HX2 := HX2'
      have HB := HB'
      clear HX1' HX2' HB'
      have c0 := HX1.out.cell 0 _ rfl
      have d0 := HX2.out.cell 0 _ rfl
      have c1 := HX1.out.cell 1 _ rfl
      have d1 := HX2.out.cell 1 _ rfl
      have c2 := HX1.out.cell 2 _ rfl
      have d2 := HX2.out.cell 2 _ rfl
      have c3 := HX1.out.cell 3 _ rfl
      have d3 := HX2.out.cell 3 _ rfl
      have c4 := HX1.out.cell 4 _ rfl
      have d4 := HX2.out.cell 4 _ rfl
      have c5 := HX1.out.cell 5 _ rfl
      have d5 := HX2.out.cell 5 _ rfl
      have c6 := HX1.out.cell 6 _ rfl
      have d6 := HX2.out.cell 6 _ rfl
      have c7 := HX1.out.cell 7 _ rfl
      have d7 := HX2.out.cell 7 _ rfl
      have c8 := HX1.out.cell 8 _ rfl
      have d8 := HX2.out.cell 8 _ rfl
      have c9 := HX1.out.cell 9 _ rfl
      have d9 := HX2.out.cell 9 _ rfl
      have c10 := HX1.out.cell 10 _ rfl
      have d10 := HX2.out.cell 10 _ rfl
      have cl := HX1.out.lt
      have dl := HX2.out.lt
      cases b3
      all_goals
        go_wp2
        go_ret
        exact ⟨by rw [HRX.out]; rfl, HB.out⟩
set_option maxRecDepth 100000 in
set_option maxHeartbeats 4000000 in
theorem pomSame_any (p q : Pom) (pv mv dv pv2 mv2 dv2 : Value) (w : World) (hp : PomOf w (.agg (pomC p pv mv dv).toArray) p pv mv dv) (hq : PomOf w (.agg (pomC q pv2 mv2 dv2).toArray) q pv2 mv2 dv2)
    (x2 : ∀ d ∈ p.managed, d.excl.length ≤ 140737488355328) (x3 : ∀ d ∈ p.deps, d.excl.length ≤ 140737488355328) (y2 : ∀ d ∈ q.managed, d.excl.length ≤ 140737488355328) (y3 : ∀ d ∈ q.deps, d.excl.length ≤ 140737488355328) :
    Calls Tryz.prog 25 #[.agg (pomC p pv mv dv).toArray, .agg (pomC q pv2 mv2 dv2).toArray] w fun e w' => e = .returned (.bool (decide (p = q))) ∧ Below w.heap.size w w' := by
  obtain ⟨r, hr⟩ : ∃ r, r = decide (p = q) := ⟨_, rfl⟩
  have HR : Hid (r = decide (p = q)) := hr
  rw [← hr]
  clear hr
  obtain ⟨-, p1, p2, p3⟩ := hp
  obtain ⟨-, q1, q2, q3⟩ := hq
  obtain ⟨dh, ⟨dx, dy, dz⟩, dg, da, dv', dk, dp, dm, dd⟩ := p
  obtain ⟨eh, ⟨ex, ey, ez⟩, eg, ea, ev, ek, ep, em, ed⟩ := q
  simp only [Pom.mk.injEq, Gav.mk.injEq] at HR
  simp only [pomC]
  simp only at p1 p2 p3 q1 q2 q3 x2 x3 y2 y3
  obtain ⟨ao1, cap1, rfl⟩ := p1.shape
  obtain ⟨ao2, cap2, rfl⟩ := p2.shape
  obtain ⟨ao3, cap3, rfl⟩ := p3.shape
  obtain ⟨ao4, cap4, rfl⟩ := q1.shape
  obtain ⟨ao5, cap5, rfl⟩ := q2.shape
  obtain ⟨ao6, cap6, rfl⟩ := q3.shape
  have H1 : Hid (∀ W, Below w.heap.size w W → Calls Tryz.prog 70 #[.slice ao1 dp.length cap1, .slice ao4 ep.length cap4] W fun e w' => e = .returned (.bool (decide (dp = ep))) ∧ Below W.heap.size W w') := fun W h => eqProps_any dp ep _ _ W (p1.below h) (q1.below h)
  have H2 : Hid (∀ W, Below w.heap.size w W → Calls Tryz.prog 71 #[.slice ao2 dm.length cap2, .slice ao5 em.length cap5, .func (.func 22) #[] #[]] W fun e w' => e = .returned (.bool (decide (dm = em))) ∧ Below W.heap.size W w') := fun W h => equalFuncX_any dm em _ _ W (p2.below h) (q2.below h) x2 y2
  have H3 : Hid (∀ W, Below w.heap.size w W → Calls Tryz.prog 71 #[.slice ao3 dd.length cap3, .slice ao6 ed.length cap6, .func (.func 22) #[] #[]] W fun e w' => e = .returned (.bool (decide (dd = ed))) ∧ Below W.heap.size W w') := fun W h => equalFuncX_any dd ed _ _ W (p3.below h) (q3.below h) x3 y3
  have HBB : Hid (∀ o1 o2, Below w.heap.size w ((w.alloc o1).alloc o2)) := fun o1 o2 => ((Below.refl _ _).alloc (Nat.le_refl _) _).alloc (by simp) _
  clear p1 p2 p3 q1 q2 q3 x2 x3 y2 y3
  by_cases hh : dh = eh
  rotate_left
  · have HN : Hid (r = false) := by show _ = _; rw [HR.out]; exact decide_eq_false (fun h => hh h.1)
    have hb : (dh == eh) = false := beq_eq_false_iff_ne.2 hh
    clear hh HR H1 H2 H3
    go_enter Tryz.func25, Tryz.ntmps25
    go_wp2
    go_ret
    exact ⟨by rw [HN.out]; rfl, HBB.out _ _⟩
  subst hh
  by_cases hx : dx = ex
  rotate_left
  · have HN : Hid (r = false) := by show _ = _; rw [HR.out]; exact decide_eq_false (fun h => hx h.2.1.1)
    have hb : decide (dx = ex) = false := decide_eq_false hx
    clear hx HR H1 H2 H3
    go_enter Tryz.func25, Tryz.ntmps25
    go_wp2
    go_ret
    exact ⟨by rw [HN.out]; rfl, HBB.out _ _⟩
  subst hx
  by_cases hy : dy = ey
  rotate_left
  · have HN : Hid (r = false) := by show _ = _; rw [HR.out]; exact decide_eq_false (fun h => hy h.2.1.2.1)
    have hb : decide (dy = ey) = false := decide_eq_false hy
    clear hy HR H1 H2 H3
    go_enter Tryz.func25, Tryz.ntmps25
    go_wp2
    go_ret
    exact ⟨by rw [HN.out]; rfl, HBB.out _ _⟩
  subst hy
  by_cases hz : dz = ez
  rotate_left
  · have HN : Hid (r = false) := by show _ = _; rw [HR.out]; exact decide_eq_false (fun h => hz h.2.1.2.2)
    have hb : decide (dz = ez) = false := decide_eq_false hz
    clear hz HR H1 H2 H3
    go_enter Tryz.func25, Tryz.ntmps25
    go_wp2
    go_ret
    exact ⟨by rw [HN.out]; rfl, HBB.out _ _⟩
  subst hz
  by_cases hg : dg = eg
  rotate_left
  · have HN : Hid (r = false) := by show _ = _; rw [HR.out]; exact decide_eq_false (fun h => hg h.2.2.1)
    have hb : (dg.toList == eg.toList) = false := by rw [str_beq]; exact decide_eq_false hg
    clear hg HR H1 H2 H3
    go_enter Tryz.func25, Tryz.ntmps25
    go_wp2
    go_ret
    exact ⟨by rw [HN.out]; rfl, HBB.out _ _⟩
  subst hg
  by_cases ha : da = ea
  rotate_left
  · have HN : Hid (r = false) := by show _ = _; rw [HR.out]; exact decide_eq_false (fun h => ha h.2.2.2.1)
    have hb : (da.toList == ea.toList) = false := by rw [str_beq]; exact decide_eq_false ha
    clear ha HR H1 H2 H3
    go_enter Tryz.func25, Tryz.ntmps25
    go_wp2
    go_ret
    exact ⟨by rw [HN.out]; rfl, HBB.out _ _⟩
  subst ha
  by_cases hv : dv' = ev
  rotate_left
  · have HN : Hid (r = false) := by show _ = _; rw [HR.out]; exact decide_eq_false (fun h => hv h.2.2.2.2.1)
    have hb : (dv'.toList == ev.toList) = false := by rw [str_beq]; exact decide_eq_false hv
    clear hv HR H1 H2 H3
    go_enter Tryz.func25, Tryz.ntmps25
    go_wp2
    go_ret
    exact ⟨by rw [HN.out]; rfl, HBB.out _ _⟩
  subst hv
  by_cases hk : dk = ek
  rotate_left
  · have HN : Hid (r = false) := by show _ = _; rw [HR.out]; exact decide_eq_false (fun h => hk h.2.2.2.2.2.1)
    have hb : (dk.toList == ek.toList) = false := by rw [str_beq]; exact decide_eq_false hk
    clear hk HR H1 H2 H3
    go_enter Tryz.func25, Tryz.ntmps25
    go_wp2
    go_ret
    exact ⟨by rw [HN.out]; rfl, HBB.out _ _⟩
  subst hk
  have HRX : Hid (r = (decide (dp = ep) && (decide (dm = em) && decide (dd = ed)))) := by show _ = _; rw [HR.out]; simp
  clear HR
  obtain ⟨b1, h1⟩ : ∃ b, b = decide (dp = ep) := ⟨_, rfl⟩
  obtain ⟨b2, h2⟩ : ∃ b, b = decide (dm = em) := ⟨_, rfl⟩
  obtain ⟨b3, h3⟩ : ∃ b, b = decide (dd = ed) := ⟨_, rfl⟩
  rw [← h1] at H1
  rw [← h2] at H2
  rw [← h3] at H3
  rw [← h1, ← h2, ← h3] at HRX
  clear h1 h2 h3
  have hd0 : (dh == dh) = true := by simp
  go_enter Tryz.func25, Tryz.ntmps25
  go_upto_region 1 with fail
  refine wp_world ?_
  intro W hW
  have x1 : Box W w.heap.size [.bool dh, .string dx, .string dy, .string dz, .string dg, .string da, .string dv', .string dk, .slice ao1 dp.length cap1, .slice ao2 dm.length cap2, .slice ao3 dd.length cap3] := by rw [hW]; exact (Box.new w [.bool dh, .string dx, .string dy, .string dz, .string dg, .string da, .string dv', .string dk, .slice ao1 dp.length cap1, .slice ao2 dm.length cap2, .slice ao3 dd.length cap3] _ _ rfl).alloc _
  have x2 : Box W (w.heap.size + 1) [.bool dh, .string dx, .string dy, .string dz, .string dg, .string da, .string dv', .string dk, .slice ao4 ep.length cap4, .slice ao5 em.length cap5, .slice ao6 ed.length cap6] := by rw [hW]; exact Box.new _ [.bool dh, .string dx, .string dy, .string dz, .string dg, .string da, .string dv', .string dk, .slice ao4 ep.length cap4, .slice ao5 em.length cap5, .slice ao6 ed.length cap6] _ _ (by simp)
  have hb : Below w.heap.size w W := by rw [hW]; exact HBB.out _ _
  clear hW HBB
  have HX1 := Lib.hid x1
  have HX2 := Lib.hid x2
  have HB := Lib.hid hb
  clear x1 x2 hb
  have c0 := HX1.out.cell 0 _ rfl
  have d0 := HX2.out.cell 0 _ rfl
  have c1 := HX1.out.cell 1 _ rfl
  have d1 := HX2.out.cell 1 _ rfl
  have c2 := HX1.out.cell 2 _ rfl
  have d2 := HX2.out.cell 2 _ rfl
  have c3 := HX1.out.cell 3 _ rfl
  have d3 := HX2.out.cell 3 _ rfl
  have c4 := HX1.out.cell 4 _ rfl
  have d4 := HX2.out.cell 4 _ rfl
  have c5 := HX1.out.cell 5 _ rfl
  have d5 := HX2.out.cell 5 _ rfl
  have c6 := HX1.out.cell 6 _ rfl
  have d6 := HX2.out.cell 6 _ rfl
  have c7 := HX1.out.cell 7 _ rfl
  have d7 := HX2.out.cell 7 _ rfl
  have c8 := HX1.out.cell 8 _ rfl
  have d8 := HX2.out.cell 8 _ rfl
  have c9 := HX1.out.cell 9 _ rfl
  have d9 := HX2.out.cell 9 _ rfl
  have c10 := HX1.out.cell 10 _ rfl
  have d10 := HX2.out.cell 10 _ rfl
  have cl := HX1.out.lt
  have dl := HX2.out.lt
  go_wp2_with fail
  refine (H1.out _ HB.out).mono ?_
  rintro e w1 ⟨rfl, hb1⟩
  clear c0 d0 c1 d1 c2 d2 c3 d3 c4 d4 c5 d5 c6 d6 c7 d7 c8 d8 c9 d9 c10 d10 cl dl
  have HX1' := Lib.hid (HX1.out.below hb1 HX1.out.lt)
  have HX2' := Lib.hid (HX2.out.below hb1 HX2.out.lt)
  have HB' := Lib.hid (HB.out.trans (hb1.mono HB.out.size))
  clear hb1 HX1 HX2 HB H1
  have HX1 := HX1'
  have HX2 := HX2'
  have HB := HB'
  clear HX1' HX2' HB'
  have c0 := HX1.out.cell 0 _ rfl
  have d0 := HX2.out.cell 0 _ rfl
  have c1 := HX1.out.cell 1 _ rfl
  have d1 := HX2.out.cell 1 _ rfl
  have c2 := HX1.out.cell 2 _ rfl
  have d2 := HX2.out.cell 2 _ rfl
  have c3 := HX1.out.cell 3 _ rfl
  have d3 := HX2.out.cell 3 _ rfl
  have c4 := HX1.out.cell 4 _ rfl
  have d4 := HX2.out.cell 4 _ rfl
  have c5 := HX1.out.cell 5 _ rfl
  have d5 := HX2.out.cell 5 _ rfl
  have c6 := HX1.out.cell 6 _ rfl
  have d6 := HX2.out.cell 6 _ rfl
  have c7 := HX1.out.cell 7 _ rfl
  have d7 := HX2.out.cell 7 _ rfl
  have c8 := HX1.out.cell 8 _ rfl
  have d8 := HX2.out.cell 8 _ rfl
  have c9 := HX1.out.cell 9 _ rfl
  have d9 := HX2.out.cell 9 _ rfl
  have c10 := HX1.out.cell 10 _ rfl
  have d10 := HX2.out.cell 10 _ rfl
  have cl := HX1.out.lt
  have dl := HX2.out.lt
  cases b1 with
  | false =>
    go_wp2
    go_ret
    exact ⟨by rw [HRX.out]; rfl, HB.out⟩
  | true =>
    go_wp2_with fail
    refine (H2.out _ HB.out).mono ?_
    rintro e w2 ⟨rfl, hb1⟩
    clear c0 d0 c1 d1 c2 d2 c3 d3 c4 d4 c5 d5 c6 d6 c7 d7 c8 d8 c9 d9 c10 d10 cl dl
    have HX1' := Lib.hid (HX1.out.below hb1 HX1.out.lt)
    have HX2' := Lib.hid (HX2.out.below hb1 HX2.out.lt)
    have HB' := Lib.hid (HB.out.trans (hb1.mono HB.out.size))
    clear hb1 HX1 HX2 HB H2
    have HX1 := HX1'
    have HX2 := HX2'
    have HB := HB'
    clear HX1' HX2' HB'
    have c0 := HX1.out.cell 0 _ rfl
    have d0 := HX2.out.cell 0 _ rfl
    have c1 := HX1.out.cell 1 _ rfl
    have d1 := HX2.out.cell 1 _ rfl
    have c2 := HX1.out.cell 2 _ rfl
    have d2 := HX2.out.cell 2 _ rfl
    have c3 := HX1.out.cell 3 _ rfl
    have d3 := HX2.out.cell 3 _ rfl
    have c4 := HX1.out.cell 4 _ rfl
    have d4 := HX2.out.cell 4 _ rfl
    have c5 := HX1.out.cell 5 _ rfl
    have d5 := HX2.out.cell 5 _ rfl
    have c6 := HX1.out.cell 6 _ rfl
    have d6 := HX2.out.cell 6 _ rfl
    have c7 := HX1.out.cell 7 _ rfl
    have d7 := HX2.out.cell 7 _ rfl
    have c8 := HX1.out.cell 8 _ rfl
    have d8 := HX2.out.cell 8 _ rfl
    have c9 := HX1.out.cell 9 _ rfl
    have d9 := HX2.out.cell 9 _ rfl
    have c10 := HX1.out.cell 10 _ rfl
    have d10 := HX2.out.cell 10 _ rfl
    have cl := HX1.out.lt
    have dl := HX2.out.lt
    cases b2 with
    | false =>
      go_wp2
      go_ret
      exact ⟨by rw [HRX.out]; simp, HB.out⟩
    | true =>
      go_wp2_with fail
      refine (H3.out _ HB.out).mono ?_
      rintro e w3 ⟨rfl, hb1⟩
      clear c0 d0 c1 d1 c2 d2 c3 d3 c4 d4 c5 d5 c6 d6 c7 d7 c8 d8 c9 d9 c10 d10 cl dl
      have HX1' := Lib.hid (HX1.out.below hb1 HX1.out.lt)
      have HX2' := Lib.hid (HX2.out.below hb1 HX2.out.lt)
      have HB' := Lib.hid (HB.out.trans (hb1.mono HB.out.size))
      clear hb1 HX1 HX2 HB H3
      have HX1 := HX1'
      have HX2 := HX2'
      have HB := HB'
      clear HX1' HX2' HB'
      have c0 := HX1.out.cell 0 _ rfl
      have d0 := HX2.out.cell 0 _ rfl
      have c1 := HX1.out.cell 1 _ rfl
      have d1 := HX2.out.cell 1 _ rfl
      have c2 := HX1.out.cell 2 _ rfl
      have d2 := HX2.out.cell 2 _ rfl
      have c3 := HX1.out.cell 3 _ rfl
      have d3 := HX2.out.cell 3 _ rfl
      have c4 := HX1.out.cell 4 _ rfl
      have d4 := HX2.out.cell 4 _ rfl
      have c5 := HX1.out.cell 5 _ rfl
      have d5 := HX2.out.cell 5 _ rfl
      have c6 := HX1.out.cell 6 _ rfl
      have d6 := HX2.out.cell 6 _ rfl
      have c7 := HX1.out.cell 7 _ rfl
      have d7 := HX2.out.cell 7 _ rfl
      have c8 := HX1.out.cell 8 _ rfl
      have d8 := HX2.out.cell 8 _ rfl
      have c9 := HX1.out.cell 9 _ rfl
      have d9 := HX2.out.cell 9 _ rfl
      have c10 := HX1.out.cell 10 _ rfl
      have d10 := HX2.out.cell 10 _ rfl
      have cl := HX1.out.lt
      have dl := HX2.out.lt
      cases b3
      all_goals
        go_wp2
        go_ret
        exact ⟨by rw [HRX.out]; rfl, HB.out⟩

end Go.Proofs.YtbbbfjcikhpmbaaGreat

/- Walks of isName, isText and the document's IsName, plain; their conditions stand in the theorems. -/

namespace Go.Proofs.YtbbbfjcikhpmbaaGreat
open Go Go.RowKit

/-- Is a text a name? -/
def okName (l : Bs) : Bool := !l.isEmpty && decide (nameLen l = l.length)
/-- Are all bytes a text's? -/
def okText (l : Bs) : Bool := l.all cText
theorem okText_take {l : Bs} {k : Nat} (h : k < l.length) : okText (l.take (k + 1)) = (okText (l.take k) && cText l[k]) := by
  unfold okText
  rw [List.take_succ_eq_append_getElem h, List.all_append]; simp
theorem okText_false {l : Bs} {k : Nat} (h : k < l.length) (hc : cText l[k] = false) : okText l = false := by
  unfold okText
  rw [Bool.eq_false_iff]
  intro h2
  have := List.all_eq_true.1 h2 l[k] (List.getElem_mem h)
  rw [hc] at this; cases this
theorem get_data (s : S) (k : Nat) (h : k < s.size) : s.data.toList[k]'(by rw [size_data]; exact h) = s[k] := rfl
set_option maxHeartbeats 1000000 in
theorem refIsNm_any (s : S) (w : World) (hs : s.size ≤ 9223372036854775807) :
    Calls Tryz.prog 62 #[.string s] w fun e w' => e = .returned (.bool (okName s.data.toList)) ∧ w = w' := by
  by_cases h0 : s.size = 0
  · have hI : ¬ (0 : Int) < (s.size : Int) := by omega
    have hd : s.data.toList = [] := List.eq_nil_of_length_eq_zero (by rw [size_data, h0])
    have HO : Hid (okName s.data.toList = false) := by show _ = _; rw [hd]; rfl
    clear hd h0
    go_enter Tryz.func62, Tryz.ntmps62
    go_wp2_with fail
    go_ret
    exact ⟨by rw [HO.out]; rfl, rfl⟩
  · have hI : (0 : Int) < (s.size : Int) := by omega
    have HO : Hid (okName s.data.toList = decide (nameLen s.data.toList = s.size)) := by
      show _ = _
      have hd : s.data.toList.isEmpty = false := by
        cases h : s.data.toList with
        | nil => have := size_data s; rw [h] at this; exact absurd this.symm h0
        | cons a b => rfl
      unfold okName
      rw [hd, size_data]; rfl
    have HN := Lib.hid (fun w => refName_any s w hs)
    clear h0
    generalize nameLen s.data.toList = n at *
    by_cases hn : n = s.size
    · have hb : ((n : Int) == (s.size : Int)) = true := by rw [hn]; simp
      rw [decide_eq_true hn] at HO
      have HNN := Lib.hid hn
      clear hn
      go_enter Tryz.func62, Tryz.ntmps62
      go_wp2_with (go_at_call 99; refine (HN.out _).mono ?_; rintro e w' ⟨rfl, rfl⟩)
      go_ret
      exact ⟨by rw [HO.out]; rfl, rfl⟩
    · have hb : ((n : Int) == (s.size : Int)) = false := beq_eq_false_iff_ne.2 (by omega)
      rw [decide_eq_false hn] at HO
      have HNN := Lib.hid hn
      clear hn
      go_enter Tryz.func62, Tryz.ntmps62
      go_wp2_with (go_at_call 99; refine (HN.out _).mono ?_; rintro e w' ⟨rfl, rfl⟩)
      go_ret
      exact ⟨by rw [HO.out]; rfl, rfl⟩

end Go.Proofs.YtbbbfjcikhpmbaaGreat

/- Walks: may a text be one that was read, by pom and by the document; the conditions stand in the theorems. -/

namespace Go.Proofs.YtbbbfjcikhpmbaaGreat
open Go Go.RowKit

/-- May a text be one that was read? -/
def okW (s : S) (b : Bool) : Bool := okText s.data.toList && (decide (s.size ≤ 1024) && (decide (trimB s.data.toList = s.data.toList) && (b || !s.toList.isEmpty)))
theorem data_eq {x s : S} : (x.data.toList = s.data.toList) = (x = s) := by
  refine propext ⟨fun h => ?_, fun h => by rw [h]⟩
  cases x; cases s
  simp only [ByteArray.mk.injEq]
  exact Array.toList_inj.1 h
set_option maxRecDepth 100000 in
set_option maxHeartbeats 4000000 in
theorem isTextQ_any (s : S) (b : Bool) (w : World) (hs : s.size ≤ 1000000) :
    Calls Tryz.prog 67 #[.string s, .bool b] w fun e w' => e = .returned (.bool (okW s b)) ∧ Below w.heap.size w w' := by
  obtain ⟨r, hr⟩ : ∃ r, r = okW s b := ⟨_, rfl⟩
  have HR : Hid (r = (okText s.data.toList && (decide (s.size ≤ 1024) && (decide (trimB s.data.toList = s.data.toList) && (b || !s.toList.isEmpty))))) := hr
  rw [← hr]
  have HTR : Hid (∀ W, Calls Tryz.prog 101 #[.string s] W fun e w' => ∃ x : S, e = .returned (.string x) ∧ (x.toList == s.toList) = decide (trimB s.data.toList = s.data.toList) ∧ W = w') := fun W => (trim_any s W (by omega)).mono fun e w' ⟨x, h1, h2, h3⟩ => ⟨x, h1, by rw [str_beq, ← h2]; exact decide_eq_decide.2 (iff_of_eq data_eq.symm), h3⟩
  obtain ⟨q, hq⟩ : ∃ q, q = decide (trimB s.data.toList = s.data.toList) := ⟨_, rfl⟩
  rw [← hq] at HTR HR
  have hE0 := empty_data s
  obtain ⟨em, hem⟩ : ∃ em, em = s.toList.isEmpty := ⟨_, rfl⟩
  have HEM := Lib.hid hem
  rw [← hem] at HR
  have HEZ : Hid (em = decide (s.size = 0)) := by show _ = _; rw [hem, hE0]
  clear hr hq hem hE0
  have hcv := fun (w : World) => conv_bytes w s
  go_enter Tryz.func67, Tryz.ntmps67
  go_wp2_with fail
  clear hcv
  refine wp_world ?_
  intro W hW
  have hcells := fun j h => bytesW_cell w s j h
  have hbel : Below w.heap.size w (bytesW w s) := bytesW_below w s _ (Nat.le_refl _)
  have hsz := bytesW_size w s
  rw [← hW] at hcells hbel hsz
  have HCE := Lib.hid hcells
  have HBE := Lib.hid hbel
  have HSZ := Lib.hid hsz
  clear hW hcells hbel hsz
  go_loopw [6, 10] (fun _ i wr => ∃ k : Nat, k ≤ s.size ∧ i = .int .i64 k ∧ wr = W ∧ Hid (okText (s.data.toList.take k) = true)) (fun _ i _ => s.size - (intOf i).toNat)
  case atStart => exact ⟨0, Nat.zero_le _, rfl, rfl, by show _ = _; rfl⟩
  case round =>
    obtain ⟨k, hk, rfl, hwr, HK⟩ := hrel
    obtain rfl : W = wr := hwr.symm
    by_cases hlt : k < s.size
    · have hi1 : (k : Int) < (s.size : Int) := by omega
      have hlt' : k < s.data.toList.length := by rw [size_data]; exact hlt
      have HT := Lib.hid (okText_take hlt')
      have HFF := Lib.hid (fun h => okText_false hlt' h)
      rw [get_data s k hlt] at HT HFF
      have HCT := Lib.hid (fun w => isText_any s[k] w)
      have c1 := HCE.out k hlt
      have hg1 : w.heap.size < W.heap.size := by have := HSZ.out; omega
      cases hc : cText s[k]
      · rw [hc] at HCT HFF
        have HN : Hid (r = false) := by show _ = _; rw [HR.out, HFF.out rfl]; rfl
        clear hc
        go_wp2_with fail
        refine (HCT.out _).mono ?_
        rintro e w8 ⟨rfl, hw8⟩
        obtain rfl : W = w8 := hw8
        go_wp2
        go_ret
        exact ⟨by rw [HN.out]; rfl, HBE.out⟩
      · rw [hc] at HCT HT
        clear hc
        go_wp2_with fail
        refine (HCT.out _).mono ?_
        rintro e w8 ⟨rfl, hw8⟩
        obtain rfl : W = w8 := hw8
        go_wp2
        go_roundw
        case rel => exact ⟨k + 1, hlt, by go_num, by first | rfl | trivial, by show _ = _; rw [HT.out, HK.out]; rfl⟩
        case measure => simp [intOf]; omega
    · obtain rfl : k = s.size := by omega
      have HO : Hid (okText s.data.toList = true) := by have := HK.out; rwa [List.take_of_length_le (by rw [size_data]; exact Nat.le_refl _)] at this
      clear HK hlt
      by_cases h1 : s.size ≤ 1024
      rotate_left
      · have hI : ¬ (s.size : Int) ≤ 1024 := by omega
        have HN : Hid (r = false) := by show _ = _; rw [HR.out, HO.out, decide_eq_false h1]; rfl
        clear h1
        go_wp2
        go_ret
        exact ⟨by rw [HN.out]; rfl, HBE.out⟩
      have hI : (s.size : Int) ≤ 1024 := by omega
      have HR2 : Hid (r = (q && (b || !em))) := by show _ = _; rw [HR.out, HO.out, decide_eq_true h1]; rfl
      clear HR HO
      go_wp2_with fail
      refine (HTR.out _).mono ?_
      rintro e w7 ⟨x, rfl, hx, hw7⟩
      obtain rfl := hw7
      have hE : s.toList.isEmpty = em := HEM.out.symm
      have hE2 : (!s.toList.isEmpty) = !em := by rw [hE]
      have hz : decide ((0 : Int) < (s.size : Int)) = !em := by rw [HEZ.out]; by_cases hz : s.size = 0 <;> simp [hz]; omega
      have hz2 : decide (0 < s.size) = !em := by rw [HEZ.out]; by_cases hz : s.size = 0 <;> simp [hz]; omega
      clear HTR
      cases q with
      | false =>
        clear hE hE2 hz hz2
        go_wp2
        go_ret
        exact ⟨by rw [HR2.out]; rfl, HBE.out⟩
      | true =>
        cases b with
        | true =>
          clear hE hE2 hz hz2
          go_wp2
          go_ret
          exact ⟨by rw [HR2.out]; rfl, HBE.out⟩
        | false =>
          cases em
          all_goals
            go_wp2
            go_ret
            exact ⟨by rw [HR2.out]; rfl, HBE.out⟩
set_option maxRecDepth 100000 in
set_option maxHeartbeats 4000000 in
theorem plainD_any (s : S) (b : Bool) (w : World) (hs : s.size ≤ 1000000) :
    Calls Tryz.prog 61 #[.string s, .bool b] w fun e w' => e = .returned (.bool (okW s b)) ∧ Below w.heap.size w w' := by
  obtain ⟨r, hr⟩ : ∃ r, r = okW s b := ⟨_, rfl⟩
  have HR : Hid (r = (okText s.data.toList && (decide (s.size ≤ 1024) && (decide (trimB s.data.toList = s.data.toList) && (b || !s.toList.isEmpty))))) := hr
  rw [← hr]
  have HTR : Hid (∀ W, Calls Tryz.prog 94 #[.string s] W fun e w' => ∃ x : S, e = .returned (.string x) ∧ (x.toList == s.toList) = decide (trimB s.data.toList = s.data.toList) ∧ W = w') := fun W => (refTrim_any s W (by omega)).mono fun e w' ⟨x, h1, h2, h3⟩ => ⟨x, h1, by rw [str_beq, ← h2]; exact decide_eq_decide.2 (iff_of_eq data_eq.symm), h3⟩
  obtain ⟨q, hq⟩ : ∃ q, q = decide (trimB s.data.toList = s.data.toList) := ⟨_, rfl⟩
  rw [← hq] at HTR HR
  have hE0 := empty_data s
  obtain ⟨em, hem⟩ : ∃ em, em = s.toList.isEmpty := ⟨_, rfl⟩
  have HEM := Lib.hid hem
  rw [← hem] at HR
  have HEZ : Hid (em = decide (s.size = 0)) := by show _ = _; rw [hem, hE0]
  clear hr hq hem hE0
  go_enter Tryz.func61, Tryz.ntmps61
  go_wp2_with fail
  have HBE : Hid (Below w.heap.size w w) := Below.refl _ _
  go_loop [5] (fun i => ∃ k : Nat, k ≤ s.size ∧ i = .int .i64 k ∧ Hid (okText (s.data.toList.take k) = true)) (fun i => s.size - (intOf i).toNat)
  case atStart => exact ⟨0, Nat.zero_le _, rfl, by show _ = _; rfl⟩
  case round =>
    obtain ⟨k, hk, rfl, HK⟩ := hrel
    by_cases hlt : k < s.size
    · have hi1 : (k : Int) < (s.size : Int) := by omega
      have hlt' : k < s.data.toList.length := by rw [size_data]; exact hlt
      have HT := Lib.hid (okText_take hlt')
      have HFF := Lib.hid (fun h => okText_false hlt' h)
      rw [get_data s k hlt] at HT HFF
      have HCT := Lib.hid (fun w => is16_any s[k] w)
      cases hc : cText s[k]
      · rw [hc] at HCT HFF
        have HN : Hid (r = false) := by show _ = _; rw [HR.out, HFF.out rfl]; rfl
        clear hc
        go_wp2_with fail
        refine (HCT.out _).mono ?_
        rintro e w8 ⟨rfl, hw8⟩
        obtain rfl : w = w8 := hw8
        go_wp2
        go_ret
        exact ⟨by rw [HN.out]; rfl, HBE.out⟩
      · rw [hc] at HCT HT
        clear hc
        go_wp2_with fail
        refine (HCT.out _).mono ?_
        rintro e w8 ⟨rfl, hw8⟩
        obtain rfl : w = w8 := hw8
        go_wp2
        go_round
        case rel => exact ⟨k + 1, hlt, by go_num, by show _ = _; rw [HT.out, HK.out]; rfl⟩
        case measure => simp [intOf]; omega
    · obtain rfl : k = s.size := by omega
      have HO : Hid (okText s.data.toList = true) := by have := HK.out; rwa [List.take_of_length_le (by rw [size_data]; exact Nat.le_refl _)] at this
      clear HK hlt
      by_cases h1 : s.size ≤ 1024
      rotate_left
      · have hI : ¬ (s.size : Int) ≤ 1024 := by omega
        have HN : Hid (r = false) := by show _ = _; rw [HR.out, HO.out, decide_eq_false h1]; rfl
        clear h1
        go_wp2
        go_ret
        exact ⟨by rw [HN.out]; rfl, HBE.out⟩
      have hI : (s.size : Int) ≤ 1024 := by omega
      have HR2 : Hid (r = (q && (b || !em))) := by show _ = _; rw [HR.out, HO.out, decide_eq_true h1]; rfl
      clear HR HO
      go_wp2_with fail
      refine (HTR.out _).mono ?_
      rintro e w7 ⟨x, rfl, hx, hw7⟩
      obtain rfl := hw7
      have hE : s.toList.isEmpty = em := HEM.out.symm
      have hE2 : (!s.toList.isEmpty) = !em := by rw [hE]
      have hz : decide ((0 : Int) < (s.size : Int)) = !em := by rw [HEZ.out]; by_cases hz : s.size = 0 <;> simp [hz]; omega
      have hz2 : decide (0 < s.size) = !em := by rw [HEZ.out]; by_cases hz : s.size = 0 <;> simp [hz]; omega
      clear HTR
      cases q with
      | false =>
        clear hE hE2 hz hz2
        go_wp2
        go_ret
        exact ⟨by rw [HR2.out]; rfl, HBE.out⟩
      | true =>
        cases b with
        | true =>
          clear hE hE2 hz hz2
          go_wp2
          go_ret
          exact ⟨by rw [HR2.out]; rfl, HBE.out⟩
        | false =>
          cases em
          all_goals
            go_wp2
            go_ret
            exact ⟨by rw [HR2.out]; rfl, HBE.out⟩

end Go.Proofs.YtbbbfjcikhpmbaaGreat
