/- A region that draws its order, by an invariant on what has come up; no program in sight. -/
import Derived.Test.YtecffghcpknmjaaGreatDoorG0
import Derived.Orders
namespace Go.Proofs.YtecffghcpknmjaaGreatDoor
open Go Go.RowKit

theorem wpAny_inv {P : Program} {md : Region.Mode} {ops : Array Oper} {Q : Exit → Act → World → Prop} {I : Nat → Array Bool → Act → World → Prop}
    (h0 : ∀ listed a w, I 0 listed a w → Region.ready md ops listed = [] ∧ Q .normal a w)
    (hr : ∀ n listed a w, I (n + 1) listed a w → Region.ready md ops listed ≠ [])
    (hs : ∀ n listed a w, I (n + 1) listed a w → ∀ i ∈ Region.ready md ops listed, wpOp P ops Q i (fun a' w' => I n (listed.setIfInBounds i true) a' w') a w) :
    ∀ n listed a w, I n listed a w → wpAny P md ops Q n listed a w
  | 0, listed, a, w, h => h0 listed a w h
  | n + 1, listed, a, w, h => ⟨fun e => absurd e (hr n listed a w h), fun i hi => wpOp_mono (fun a' w' h' => wpAny_inv h0 hr hs n _ a' w' h') (hs n listed a w h i hi)⟩
theorem wp_region_inv {P : Program} {ops : Array Oper} {Q : Exit → Act → World → Prop} {id : Nat} {a : Act} {w : World} (I : Nat → Array Bool → Act → World → Prop) (hm : P.follows .mixedOrders = true) (k : Nat) (hk : ops.size = k)
    (hi : I k (Array.replicate k false) a w.drew)
    (h0 : ∀ listed a w, I 0 listed a w → Region.ready .any ops listed = [] ∧ Q .normal a w)
    (hr : ∀ n listed a w, I (n + 1) listed a w → Region.ready .any ops listed ≠ [])
    (hs : ∀ n listed a w, I (n + 1) listed a w → ∀ i ∈ Region.ready .any ops listed, wpOp P ops Q i (fun a' w' => I n (listed.setIfInBounds i true) a' w') a w) :
    (Code.region id ops true).wp P Q a w :=
  wp_region_any hm (by subst hk; exact wpAny_inv h0 hr hs _ _ _ _ hi)

end Go.Proofs.YtecffghcpknmjaaGreatDoor
