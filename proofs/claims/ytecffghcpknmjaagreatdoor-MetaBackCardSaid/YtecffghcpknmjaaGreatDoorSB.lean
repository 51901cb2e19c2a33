/- A part of a variable of the call's own: loads and stores of a struct within it; no program in sight. -/
import Derived.Test.YtecffghcpknmjaaGreatDoorOwn2
import Derived.Deep.MidRow
namespace Go.Proofs.YtecffghcpknmjaaGreatDoor
open Go Go.RowKit

/-- One cell of it. -/
theorem Box.setOne {w : World} {b o : Nat} {u : Value} {cs cs' : List Value} (h : Box w b cs) (hc : cs' = cs.set o u) (ho : o < cs.length) : Box (w.setCell ⟨b, o, none⟩ u) b cs' := by
  subst hc
  refine ⟨by simpa [World.setCell] using h.lt, fun j v hv => ?_, fun j => by simpa using h.free j⟩
  rw [List.getElem?_set] at hv
  by_cases hj : o = j
  · subst hj
    rw [if_pos rfl, if_pos ho] at hv
    cases hv
    exact World.cell?_setCell_same _ _ _ (h.cell o cs[o] (by simp [ho]))
  · rw [if_neg hj] at hv
    exact (World.cell?_setCell_other _ _ _ _ (fun e => hj (by cases e; rfl))).trans (h.cell j v hv)
theorem region_laterS {P : Program} {id : Nat} {Q : Exit → Act → World → Prop} {a : Act} {w : World} {l : List Oper} (hm : P.follows .mixedOrders = true) (hB : Region.lexB .any l.toArray = true)
    (h : wpQuiet P l.toArray (fun w' => ∃ x : Later w, w' = x.at_) (fun a' => ∀ w', (∃ x : Later w, w' = x.at_) → Q .normal a' w') l a) : (Code.region id l.toArray true).wp P Q a w :=
  wp_region_quiet (C := fun w' => ∃ x : Later w, w' = x.at_) hm hB ⟨⟨{ w with drawn := w.drawn + 1 }, ⟨rfl, rfl, rfl, Nat.le_refl _, fun _ _ => rfl⟩⟩, rfl⟩ (by simpa using h)
theorem Later.callS {P : Program} {f : FuncId} {args : Array Value} {w : World} {x : Later w} {v : Value}
    (h : Calls P f args x.at_ fun e w' => e = .returned v ∧ Below x.at_.heap.size x.at_ w') : Calls P f args x.at_ fun e w'' => e = .returned v ∧ ∃ y : Later w, w'' = y.at_ :=
  h.mono fun _ w' ⟨he, hb⟩ => ⟨he, ⟨w', x.below.trans (hb.mono x.below.size)⟩, rfl⟩
theorem Later.cellsS {w : World} (x : Later w) (b o : Nat) (h : b < w.heap.size) : x.at_.cell? ⟨b, o, none⟩ = w.cell? ⟨b, o, none⟩ := x.below.cell h

end Go.Proofs.YtecffghcpknmjaaGreatDoor
