/- A part of a variable of the call's own: loads and stores of a struct within it; no program in sight. -/
import Derived.Test.YtecffghcpknmjaaDoorOwn2
import Derived.Deep.MidRow
namespace Go.Proofs.YtecffghcpknmjaaDoor
open Go Go.RowKit

theorem Box.mid {w : World} {b o : Nat} {pre cs post : List Value} (h : Box w b (pre ++ cs ++ post)) (ho : pre.length = o) : w.rangeAt b o cs := fun j v hv => by
  subst ho
  have hj : j < cs.length := (List.getElem?_eq_some_iff.1 hv).1
  refine h.cell _ v ?_
  rw [List.append_assoc, List.getElem?_append_right (by omega), Nat.add_sub_cancel_left, List.getElem?_append_left hj, hv]
theorem Box.thereMid {w : World} {b o : Nat} {pre cs post : List Value} {n : Nat} (h : Box w b (pre ++ cs ++ post)) (ho : pre.length = o) (hn : n = cs.length) : w.there b o n := fun j hj => by
  refine ⟨?_, by simpa using h.free (o + j)⟩
  rw [h.mid ho j cs[j] (by simp [hn ▸ hj])]; rfl
theorem Box.setMid {w : World} {b o : Nat} {pre old cs post : List Value} (h : Box w b (pre ++ old ++ post)) (ho : pre.length = o) (hl : old.length = cs.length) : Box (w.setCells b o cs) b (pre ++ cs ++ post) := by
  have hth := h.thereMid ho hl.symm
  have hr := World.rangeAt_setCells_same w b o cs hth
  have hg : ∀ (vs : List Value) (o : Nat) (w : World), (w.setCells b o vs).heap.size = w.heap.size := by
    intro vs
    induction vs with
    | nil => intro o w; rfl
    | cons v vs ih => intro o w; simp only [World.setCells]; rw [ih]; simp [World.setCell]
  refine ⟨by rw [hg]; exact h.lt, fun j u hu => ?_, fun j => ?_⟩
  · subst ho
    by_cases h1 : j < pre.length
    · rw [World.cell?_setCells_out b cs _ w ⟨b, j, none⟩ (fun _ _ => .inl (by exact h1))]
      refine h.cell j u ?_
      rw [List.append_assoc, List.getElem?_append_left h1] at hu ⊢
      exact hu
    · by_cases h2 : j < pre.length + cs.length
      · obtain ⟨k, rfl⟩ : ∃ k, j = pre.length + k := ⟨j - pre.length, by omega⟩
        refine hr k u ?_
        rw [List.append_assoc, List.getElem?_append_right (by omega), Nat.add_sub_cancel_left, List.getElem?_append_left (by omega)] at hu
        exact hu
      · rw [World.cell?_setCells_out b cs _ w ⟨b, j, none⟩ (fun _ _ => .inr (by show pre.length + cs.length ≤ j; omega))]
        refine h.cell j u ?_
        rw [List.getElem?_append_right (by simp; omega)] at hu ⊢
        rw [← hu]
        congr 1
        simp [hl]
  · rw [World.frozen?_setCells]; exact h.free j
theorem wpList_load_part {P : Program} {ops : Array Oper} {rest : List Oper} {op : Oper} {a : Act} {w : World} {Q : Exit → Act → World → Prop} (hgd : op.guard = none) (ty : TypeId) (x : Operand) (ho : op.op = .load ty x)
    (b o : Nat) (pre cs post : List Value) (hx : a.eval x = .pointer (some ⟨b, o, none⟩)) (hb : Box w b (pre ++ cs ++ post)) (hp : pre.length = o) {d : TypeDesc} (hu : P.underlying ty = some d) (hd : d.isRow = true) (hi : (P.info? ty).map (·.size) = some cs.length)
    (h : wpList P ops Q rest (a.put op.dst (.agg cs.toArray)) w) : wpList P ops Q (op :: rest) a w :=
  wpList_load_mid hgd ty x ho b o hx cs d (hb.mid hp) hu hd hi h
theorem wp_load_part {P : Program} {op : Oper} {a : Act} {w : World} {K : Act → World → Prop} {Q : Exit → Act → World → Prop} (ty : TypeId) (x : Operand) (ho : op.op = .load ty x)
    (b o : Nat) (pre cs post : List Value) (hx : a.eval x = .pointer (some ⟨b, o, none⟩)) (hb : Box w b (pre ++ cs ++ post)) (hp : pre.length = o) {d : TypeDesc} (hu : P.underlying ty = some d) (hd : d.isRow = true) (hi : (P.info? ty).map (·.size) = some cs.length)
    (h : K (a.put op.dst (.agg cs.toArray)) w) : op.wp P a w K Q :=
  wp_load_mid ty x ho b o hx cs d (hb.mid hp) hu hd hi h
theorem wpList_store_part {P : Program} {ops : Array Oper} {rest : List Oper} {op : Oper} {a : Act} {w : World} {Q : Exit → Act → World → Prop} (hgd : op.guard = none) (ty : TypeId) (x y : Operand) (ho : op.op = .store ty x y)
    (b o : Nat) (pre old cs post : List Value) (hx : a.eval x = .pointer (some ⟨b, o, none⟩)) (hy : a.eval y = .agg cs.toArray) (hb : Box w b (pre ++ old ++ post)) (hp : pre.length = o) (hl : old.length = cs.length)
    (hi : (P.info? ty).map (·.size) = some cs.length) (h1 : ∀ v ∈ cs, v.oneCell' = true)
    (h : ∀ W', Box W' b (pre ++ cs ++ post) → w.grownBy W' (some b) → wpList P ops Q rest (a.put op.dst undef) W') : wpList P ops Q (op :: rest) a w :=
  wpList_store_mid hgd ty x y ho b o cs.toArray hx hy (hb.thereMid hp (by simp [hl])) (by simpa using hi) (all_oneCell_toArray h1) (h _ (hb.setMid hp hl) (setCells_grown b _ o w))
/-- One cell of it. -/
theorem Box.setOne {w : World} {b o : Nat} {u : Value} {cs cs' : List Value} (h : Box w b cs) (hc : cs' = cs.set o u) (ho : o < cs.length) : Box (w.setCell ⟨b, o, none⟩ u) b cs' := by
  subst hc
  refine ⟨by simpa [World.setCell] using h.lt, fun j v hv => ?_, fun j => by simpa using h.free j⟩
  rw [List.getElem?_set] at hv
  by_cases hj : o = j
  · subst hj
    rw [if_pos rfl, if_pos ho] at hv
    cases hv
    exact World.cell?_setCell_same _ _ _ (h.cell o cs[o] (by simp [ho]))
  · rw [if_neg hj] at hv
    exact (World.cell?_setCell_other _ _ _ _ (fun e => hj (by cases e; rfl))).trans (h.cell j v hv)
theorem region_laterS {P : Program} {id : Nat} {Q : Exit → Act → World → Prop} {a : Act} {w : World} {l : List Oper} (hm : P.follows .mixedOrders = true) (hB : Region.lexB .any l.toArray = true)
    (h : wpQuiet P l.toArray (fun w' => ∃ x : Later w, w' = x.at_) (fun a' => ∀ w', (∃ x : Later w, w' = x.at_) → Q .normal a' w') l a) : (Code.region id l.toArray true).wp P Q a w :=
  wp_region_quiet (C := fun w' => ∃ x : Later w, w' = x.at_) hm hB ⟨⟨{ w with drawn := w.drawn + 1 }, ⟨rfl, rfl, rfl, Nat.le_refl _, fun _ _ => rfl⟩⟩, rfl⟩ (by simpa using h)
theorem Later.callS {P : Program} {f : FuncId} {args : Array Value} {w : World} {x : Later w} {v : Value}
    (h : Calls P f args x.at_ fun e w' => e = .returned v ∧ Below x.at_.heap.size x.at_ w') : Calls P f args x.at_ fun e w'' => e = .returned v ∧ ∃ y : Later w, w'' = y.at_ :=
  h.mono fun _ w' ⟨he, hb⟩ => ⟨he, ⟨w', x.below.trans (hb.mono x.below.size)⟩, rfl⟩
theorem Later.cellsS {w : World} (x : Later w) (b o : Nat) (h : b < w.heap.size) : x.at_.cell? ⟨b, o, none⟩ = w.cell? ⟨b, o, none⟩ := x.below.cell h
/-- A store of all of a block's cells, as a step of a region that draws its order. -/
theorem wp_store_box {P : Program} {op : Oper} {a : Act} {w : World} {K : Act → World → Prop} {Q : Exit → Act → World → Prop} (ty : TypeId) (x y : Operand) (ho : op.op = .store ty x y)
    (b : Nat) (old cs : List Value) (hx : a.eval x = .pointer (some ⟨b, 0, none⟩)) (hy : a.eval y = .agg cs.toArray) (hb : Box w b old) (hl : old.length = cs.length)
    (hi : (P.info? ty).map (·.size) = some cs.length) (h1 : ∀ v ∈ cs, v.oneCell' = true) (h : ∀ W', Box W' b cs → w.grownBy W' (some b) → K (a.put op.dst undef) W') : op.wp P a w K Q := by
  have hth : w.there b 0 cs.toArray.size := fun j hj => by
    have hj' : j < old.length := by rw [hl]; simpa using hj
    refine ⟨?_, by simpa using hb.free (0 + j)⟩
    rw [Nat.zero_add, hb.cell j old[j] (by simp [hj'])]; rfl
  exact wp_store_mid ty x y ho b 0 cs.toArray hx hy hth (by simpa using hi) (all_oneCell_toArray h1) (h _ (hb.setCells hl) (setCells_grown b _ 0 w))

end Go.Proofs.YtecffghcpknmjaaDoor
