/- The walk of Same on equal data; its conditions stand in the theorems. -/
import Derived.Test.YtnhophaeimpkkaaProg
import Derived.Test.YtnhophaeimpkkaaT5
import Derived.WalkKit
import Derived.WalkSpells
import Derived.WalkLawsBesides
import Derived.Deep.QuietTactic
import Derived.BigQuiet
import Derived.Lib.Hide
import Derived.Deep.RegionHeld3
import Derived.StillTailTactics
namespace Go.Proofs.Ytnhophaeimpkkaa
open Go Go.RowKit

attribute [local go_sem ↓] eqg_prp neq_prp eqg_id neq_id eqg_gav eql_gav

set_option maxRecDepth 100000 in
set_option maxHeartbeats 400000 in
theorem same_yes (p : Pom) (pv mv dv pv2 mv2 dv2 : Value) (w : World) (hp : PomOf w (.agg (pomC p pv mv dv).toArray) p pv mv dv) (hq : PomOf w (.agg (pomC p pv2 mv2 dv2).toArray) p pv2 mv2 dv2)
    (l1 : p.props.length ≤ 140737488355328) (l2 : p.managed.length ≤ 140737488355328) (l3 : p.deps.length ≤ 140737488355328) (x2 : ∀ d ∈ p.managed, d.excl.length ≤ 140737488355328) (x3 : ∀ d ∈ p.deps, d.excl.length ≤ 140737488355328) :
    Calls Try.prog 10 #[.agg (pomC p pv mv dv).toArray, .agg (pomC p pv2 mv2 dv2).toArray] w fun e w' => e = .returned (.bool true) ∧ Below w.heap.size w w' := by
  obtain ⟨-, p1, p2, p3⟩ := hp
  obtain ⟨-, q1, q2, q3⟩ := hq
  obtain ⟨hpb, ⟨pg, pa, pve⟩, g, a, v, pk, pr, pm, pd⟩ := p
  simp only [pomC]
  simp only at p1 p2 p3 q1 q2 q3 l1 l2 l3 x2 x3
  obtain ⟨ao1, cap1, rfl⟩ := p1.shape
  obtain ⟨ao2, cap2, rfl⟩ := p2.shape
  obtain ⟨ao3, cap3, rfl⟩ := p3.shape
  obtain ⟨ao4, cap4, rfl⟩ := q1.shape
  obtain ⟨ao5, cap5, rfl⟩ := q2.shape
  obtain ⟨ao6, cap6, rfl⟩ := q3.shape
  go_enter Try.func10, Try.ntmps10
  go_wp2_with fail
  have hB := ((Below.refl _ w).alloc (Nat.le_refl _) (.cells [.bool hpb, .string pg, .string pa, .string pve, .string g, .string a, .string v, .string pk, .slice ao1 pr.length cap1, .slice ao2 pm.length cap2, .slice ao3 pd.length cap3].toArray 27)).alloc (by simp) (.cells [.bool hpb, .string pg, .string pa, .string pve, .string g, .string a, .string v, .string pk, .slice ao4 pr.length cap4, .slice ao5 pm.length cap5, .slice ao6 pd.length cap6].toArray 27)
  have x1 : Box _ _ _ := (Box.new w [.bool hpb, .string pg, .string pa, .string pve, .string g, .string a, .string v, .string pk, .slice ao1 pr.length cap1, .slice ao2 pm.length cap2, .slice ao3 pd.length cap3] 27 _ rfl).alloc (.cells [.bool hpb, .string pg, .string pa, .string pve, .string g, .string a, .string v, .string pk, .slice ao4 pr.length cap4, .slice ao5 pm.length cap5, .slice ao6 pd.length cap6].toArray 27)
  have x2' : Box _ _ _ := Box.new (w.alloc (.cells [.bool hpb, .string pg, .string pa, .string pve, .string g, .string a, .string v, .string pk, .slice ao1 pr.length cap1, .slice ao2 pm.length cap2, .slice ao3 pd.length cap3].toArray 27)) [.bool hpb, .string pg, .string pa, .string pve, .string g, .string a, .string v, .string pk, .slice ao4 pr.length cap4, .slice ao5 pm.length cap5, .slice ao6 pd.length cap6] 27 (w.heap.size + 1) (by simp)
  refine (sameProps_yes pr _ _ _ (p1.below (by exact hB)) (q1.below (by exact hB)) l1).mono ?_
  rintro e w1 ⟨rfl, hb1⟩
  have hC := hB.trans (hb1.mono (by simp; omega))
  have y1 := x1.below hb1 x1.lt
  have y2 := x2'.below hb1 x2'.lt
  clear x1 x2' hB hb1
  have c9 := y1.cell 9 _ rfl
  have c10 := y1.cell 10 _ rfl
  have d9 := y2.cell 9 _ rfl
  have d10 := y2.cell 10 _ rfl
  go_wp2_with fail
  refine (sameDeps_yes pm _ _ _ (p2.below hC) (q2.below hC) l2 x2).mono ?_
  rintro e w2 ⟨rfl, hb2⟩
  have hD := hC.trans (hb2.mono hC.size)
  have c10' := (hb2.cell (by exact y1.lt)).trans c10
  have d10' := (hb2.cell (by exact y2.lt)).trans d10
  clear y1 y2 c9 c10 d9 d10 hC hb2
  go_wp2_with fail
  refine (sameDeps_yes pd _ _ _ (p3.below hD) (q3.below hD) l3 x3).mono ?_
  rintro e w3 ⟨rfl, hb3⟩
  go_wp2
  go_ret
  exact ⟨rfl, hD.trans (hb3.mono hD.size)⟩

end Go.Proofs.Ytnhophaeimpkkaa
