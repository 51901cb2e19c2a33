/- The closure that All defers, where nothing panics; no conditions. -/
import Derived.Test.YtpchljiiappmnaaK23
import Derived.Defers
import Derived.Recover
import Derived.Laws.Pointers
namespace Go.Proofs.Ytpchljiiappmnaa
open Go Go.RowKit

set_option maxRecDepth 100000 in
set_option maxHeartbeats 4000000 in
theorem catch_idle (a b c d : Addr) (w : World) :
    CallsD Try.prog 52 #[.pointer (some a), .pointer (some b), .pointer (some c), .pointer (some d)] .returning w fun e u' w' => e = .returned (.tuple #[]) ∧ u' = .returning ∧ w' = w := by
  refine callsD_of_wpS Try.func52 rfl fun c₀ cs hu => ?_
  apply wpS_seq
  apply wpS_region
  simp [wpOpsS, go_sem, recoverD, hu, Try.ntmps52, Exit.thenS]
  refine wpS_of_wp ?_
  have ht : ∀ a b c d v : Value, (#[a, b, c, d] ++ (Array.replicate 15 undef).setIfInBounds 3 v : Array Value) = #[a, b, c, d, undef, undef, undef, v, undef, undef, undef, undef, undef, undef, undef, undef, undef, undef, undef] := fun _ _ _ _ _ => rfl
  rw [ht]
  clear ht
  go_wp2
  refine ⟨rfl, .returning, ?_, .tuple #[], by simp [results, Try.results52, go_sem], rfl, rfl, rfl⟩
  cases c₀
  simp_all

end Go.Proofs.Ytpchljiiappmnaa
