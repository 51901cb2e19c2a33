/- Walks: the comparison that diff.Apply sorts by; no conditions. -/
import Derived.Test.YtmcjpmogjmnfpaaL27
namespace Go.Proofs.Ytmcjpmogjmnfpaa
open Go Go.RowKit Go.Sort

set_option maxRecDepth 100000 in
set_option maxHeartbeats 4000000 in
theorem cmpPins_any (p q : Pin) (w : World) : Calls Try.prog 34 #[.agg (pinC p).toArray, .agg (pinC q).toArray] w fun e w' => e = .returned (.int .i64 (cmpK p.key q.key)) ∧ ∃ n os, w' = grow (w.drewN n) os := by
  have HB : Hid (∀ o1 o2, BelD w.heap.size w ((w.alloc o1).alloc o2)) := fun o1 o2 => ((BelD.refl _ w).alloc (Nat.le_refl _) _).alloc (by simp) _
  unfold pinC
  go_enter Try.func34, Try.ntmps34
  go_wp2_with fail
  refine (compare_d p.key q.key _).mono ?_
  rintro e w1 ⟨rfl, hb1⟩
  have HB1 := Lib.hid (grow_of ((HB.out _ _).trans (hb1.mono (by simp; omega))))
  clear hb1
  go_wp2
  go_ret
  exact ⟨rfl, HB1.out⟩

end Go.Proofs.Ytmcjpmogjmnfpaa
