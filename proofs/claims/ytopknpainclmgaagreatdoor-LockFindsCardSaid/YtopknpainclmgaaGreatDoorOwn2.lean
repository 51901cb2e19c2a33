/- A store into one cell of an element of an owned slice; no program in sight. -/
import Derived.Test.YtopknpainclmgaaGreatDoorOwn
import Derived.Deep.MidRow
namespace Go.Proofs.YtopknpainclmgaaGreatDoor
open Go Go.RowKit

theorem setCell_grown (w : World) (g j : Nat) (u : Value) : w.grownBy (w.setCell ⟨g, j, none⟩ u) (some g) :=
  ⟨rfl, rfl, rfl, by simp [World.setCell], fun k _ hk => Below.heap_setCell w ⟨g, j, none⟩ u k (fun e => hk (by simp [e]))⟩
theorem Owns.keptR {α : Type} {base : Nat} {E : TypeId} {n : Nat} {C : α → List Value} {w w' : World} {v : Value} {l : List α} {r : Nat} (h : Owns base E n C w v l) (hg : w.grownBy w' (some r)) (hr : r < base) : Owns base E n C w' v l := by
  refine h.kept hg ?_
  cases hv : v.ownBlock with
  | none => exact .inl rfl
  | some k => right; have := (h.lt k hv).1; simp; omega
theorem Box.setCells {w : World} {b : Nat} {old cs : List Value} (h : Box w b old) (hl : old.length = cs.length) : Box (w.setCells b 0 cs) b cs := by
  have hth : w.there b 0 cs.length := fun j hj => by
    refine ⟨?_, by simpa using h.free (0 + j)⟩
    rw [Nat.zero_add, h.cell j old[j] (by simp [hl, hj])]; rfl
  have hr := World.rangeAt_setCells_same w b 0 cs hth
  have hg : ∀ (vs : List Value) (o : Nat) (w : World), (w.setCells b o vs).heap.size = w.heap.size := by
    intro vs
    induction vs with
    | nil => intro o w; rfl
    | cons v vs ih => intro o w; simp only [World.setCells]; rw [ih]; simp [World.setCell]
  refine ⟨by rw [hg]; exact h.lt, fun j u hu => by simpa using hr j u hu, fun j => ?_⟩
  rw [World.frozen?_setCells]; exact h.free j
theorem setCells_grown (b : Nat) : ∀ (vs : List Value) (o : Nat) (w : World), w.grownBy (w.setCells b o vs) (some b)
  | [], _, w => World.grownBy.refl _ _
  | v :: vs, o, w => ((⟨rfl, rfl, rfl, by simp [World.setCell], fun k _ hk => Below.heap_setCell w ⟨b, o, none⟩ v k (fun e => hk (by simp [e]))⟩ : w.grownBy (w.setCell ⟨b, o, none⟩ v) (some b))).trans (setCells_grown b vs (o + 1) _)
/-- A store of a whole struct into a variable of the call's own. -/
theorem wpList_store_box {P : Program} {ops : Array Oper} {rest : List Oper} {op : Oper} {a : Act} {w : World} {Q : Exit → Act → World → Prop} (hgd : op.guard = none) (ty : TypeId) (x y : Operand) (ho : op.op = .store ty x y)
    (b : Nat) (old cs : List Value) (hx : a.eval x = .pointer (some ⟨b, 0, none⟩)) (hy : a.eval y = .agg cs.toArray) (hb : Box w b old) (hl : old.length = cs.length)
    (hi : (P.info? ty).map (·.size) = some cs.length) (h1 : ∀ v ∈ cs, v.oneCell' = true)
    (h : ∀ W', Box W' b cs → w.grownBy W' (some b) → wpList P ops Q rest (a.put op.dst undef) W') : wpList P ops Q (op :: rest) a w := by
  have hth : w.there b 0 cs.toArray.size := fun j hj => by
    have hj' : j < old.length := by rw [hl]; simpa using hj
    refine ⟨?_, by simpa using hb.free (0 + j)⟩
    rw [Nat.zero_add, hb.cell j old[j] (by simp [hj'])]; rfl
  exact wpList_store_mid hgd ty x y ho b 0 cs.toArray hx hy hth (by simpa using hi) (all_oneCell_toArray h1) (h _ (hb.setCells hl) (setCells_grown b _ 0 w))

end Go.Proofs.YtopknpainclmgaaGreatDoor
