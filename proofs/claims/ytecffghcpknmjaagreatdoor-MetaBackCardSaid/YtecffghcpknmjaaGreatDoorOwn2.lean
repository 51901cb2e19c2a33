/- A store into one cell of an element of an owned slice; no program in sight. -/
import Derived.Test.YtecffghcpknmjaaGreatDoorOwn
import Derived.Deep.MidRow
namespace Go.Proofs.YtecffghcpknmjaaGreatDoor
open Go Go.RowKit

theorem flat_set {α : Type} {C : α → List Value} {n : Nat} (hC : ∀ x, (C x).length = n) {l : List α} {k j : Nat} {x x' : α} {u : Value} (hk : l[k]? = some x) (hj : j < n) (hx : C x' = (C x).set j u) :
    (l.set k x').flatMap C = (l.flatMap C).set (k * n + j) u := by
  have hlt : k < l.length := (List.getElem?_eq_some_iff.1 hk).1
  have hn : 0 < n := by omega
  have hkn : k * n + j < l.length * n := by
    have : (k + 1) * n ≤ l.length * n := Nat.mul_le_mul_right _ hlt
    rw [Nat.add_mul] at this; omega
  apply List.ext_getElem?
  intro i
  by_cases hi : i < l.length * n
  · have hil : i / n < l.length := Nat.div_lt_of_lt_mul (by rw [Nat.mul_comm]; exact hi)
    have hm : i % n < n := Nat.mod_lt _ hn
    have ei : i = i / n * n + i % n := (Nat.div_add_mod' i n).symm
    rw [List.getElem?_set]
    by_cases hik : i / n = k
    · have h1 : (l.set k x')[i / n]? = some x' := by rw [hik]; simp [hlt]
      have h2 : l[i / n]? = some x := by rw [hik, hk]
      have e1 := flat_get hC (l.set k x') (i / n) (i % n) x' h1 hm
      have e2 := flat_get hC l (i / n) (i % n) x h2 hm
      rw [← ei] at e1 e2
      rw [e1, e2, hx, List.getElem?_set, flat_len hC, hC]
      have : (k * n + j = i) ↔ (j = i % n) := by
        constructor
        · intro h; rw [ei, hik] at h; omega
        · intro h; rw [ei, hik]; omega
      by_cases hji : j = i % n
      · rw [if_pos hji, if_pos (this.2 hji), if_pos hj, if_pos hkn]
      · rw [if_neg hji, if_neg (fun h => hji (this.1 h))]
    · have h1 : (l.set k x')[i / n]? = some l[i / n] := by rw [List.getElem?_set_ne (by omega)]; simp [hil]
      have h2 : l[i / n]? = some l[i / n] := by simp [hil]
      have e1 := flat_get hC (l.set k x') (i / n) (i % n) _ h1 hm
      have e2 := flat_get hC l (i / n) (i % n) _ h2 hm
      rw [← ei] at e1 e2
      rw [e1, e2]
      have : ¬ k * n + j = i := by
        intro h
        apply hik
        rw [← h, Nat.mul_comm, Nat.mul_add_div hn, Nat.div_eq_of_lt hj]; rfl
      rw [if_neg this]
  · rw [List.getElem?_eq_none (by rw [flat_len hC, List.length_set]; omega), List.getElem?_eq_none (by rw [List.length_set, flat_len hC]; omega)]
theorem own_store {α : Type} {base : Nat} {E : TypeId} {n : Nat} {C : α → List Value} (hC : ∀ x, (C x).length = n) {w : World} {ao : Option Addr} {len cap : Nat} {l : List α} {k j : Nat} {x : α}
    (h : Owns base E n C w (.slice ao len cap) l) (hk : l[k]? = some x) (hj : j < n) :
    ∃ g, ao = some ⟨g, 0, none⟩ ∧ base ≤ g ∧ g < w.heap.size ∧ w.cell? ⟨g, k * n + j, none⟩ = (C x)[j]? ∧ w.frozen? ⟨g, k * n + j, none⟩ = false ∧
      (∀ i u, (C x)[i]? = some u → w.cell? ⟨g, k * n + i, none⟩ = some u) ∧
      ∀ u x', C x' = (C x).set j u → Owns base E n C (w.setCell ⟨g, k * n + j, none⟩ u) (.slice ao len cap) (l.set k x') := by
  have hlt : k < l.length := (List.getElem?_eq_some_iff.1 hk).1
  have hkn : ∀ i, i < n → k * n + i < l.length * n := fun i hi => by
    have : (k + 1) * n ≤ l.length * n := Nat.mul_le_mul_right _ hlt
    rw [Nat.add_mul] at this; omega
  rcases h.2 with ⟨he, h0⟩ | ⟨g, cap', cur, he, hb, hg, hnc, hm, hcs, ht⟩
  · omega
  · cases he
    have hc : ∀ i, i < n → w.cell? ⟨g, k * n + i, none⟩ = (C x)[i]? := fun i hi => by
      rw [World.ownsRow.cellAt h (k * n + i) (hkn i hi), flat_get hC l k i x hk hi]
    refine ⟨g, rfl, hb, (Array.getElem?_eq_some_iff.1 hg).1, hc j hj, World.ownsRow.frozenAt h _, fun i u hu => ?_, fun u x' hx => ?_⟩
    · have hi : i < n := by rw [← hC x]; exact (List.getElem?_eq_some_iff.1 hu).1
      rw [hc i hi, hu]
    · unfold Owns
      rw [List.length_set, flat_set hC hk hj hx]
      exact (World.ownsRow.stored h (k * n + j) u).1
theorem setCell_grown (w : World) (g j : Nat) (u : Value) : w.grownBy (w.setCell ⟨g, j, none⟩ u) (some g) :=
  ⟨rfl, rfl, rfl, by simp [World.setCell], fun k _ hk => Below.heap_setCell w ⟨g, j, none⟩ u k (fun e => hk (by simp [e]))⟩
theorem Owns.keptR {α : Type} {base : Nat} {E : TypeId} {n : Nat} {C : α → List Value} {w w' : World} {v : Value} {l : List α} {r : Nat} (h : Owns base E n C w v l) (hg : w.grownBy w' (some r)) (hr : r < base) : Owns base E n C w' v l := by
  refine h.kept hg ?_
  cases hv : v.ownBlock with
  | none => exact .inl rfl
  | some k => right; have := (h.lt k hv).1; simp; omega
theorem Box.setCells {w : World} {b : Nat} {old cs : List Value} (h : Box w b old) (hl : old.length = cs.length) : Box (w.setCells b 0 cs) b cs := by
  have hth : w.there b 0 cs.length := fun j hj => by
    refine ⟨?_, by simpa using h.free (0 + j)⟩
    rw [Nat.zero_add, h.cell j old[j] (by simp [hl, hj])]; rfl
  have hr := World.rangeAt_setCells_same w b 0 cs hth
  have hg : ∀ (vs : List Value) (o : Nat) (w : World), (w.setCells b o vs).heap.size = w.heap.size := by
    intro vs
    induction vs with
    | nil => intro o w; rfl
    | cons v vs ih => intro o w; simp only [World.setCells]; rw [ih]; simp [World.setCell]
  refine ⟨by rw [hg]; exact h.lt, fun j u hu => by simpa using hr j u hu, fun j => ?_⟩
  rw [World.frozen?_setCells]; exact h.free j
theorem setCells_grown (b : Nat) : ∀ (vs : List Value) (o : Nat) (w : World), w.grownBy (w.setCells b o vs) (some b)
  | [], _, w => World.grownBy.refl _ _
  | v :: vs, o, w => ((⟨rfl, rfl, rfl, by simp [World.setCell], fun k _ hk => Below.heap_setCell w ⟨b, o, none⟩ v k (fun e => hk (by simp [e]))⟩ : w.grownBy (w.setCell ⟨b, o, none⟩ v) (some b))).trans (setCells_grown b vs (o + 1) _)
/-- A store of a whole struct into a variable of the call's own. -/
theorem wpList_store_box {P : Program} {ops : Array Oper} {rest : List Oper} {op : Oper} {a : Act} {w : World} {Q : Exit → Act → World → Prop} (hgd : op.guard = none) (ty : TypeId) (x y : Operand) (ho : op.op = .store ty x y)
    (b : Nat) (old cs : List Value) (hx : a.eval x = .pointer (some ⟨b, 0, none⟩)) (hy : a.eval y = .agg cs.toArray) (hb : Box w b old) (hl : old.length = cs.length)
    (hi : (P.info? ty).map (·.size) = some cs.length) (h1 : ∀ v ∈ cs, v.oneCell' = true)
    (h : ∀ W', Box W' b cs → w.grownBy W' (some b) → wpList P ops Q rest (a.put op.dst undef) W') : wpList P ops Q (op :: rest) a w := by
  have hth : w.there b 0 cs.toArray.size := fun j hj => by
    have hj' : j < old.length := by rw [hl]; simpa using hj
    refine ⟨?_, by simpa using hb.free (0 + j)⟩
    rw [Nat.zero_add, hb.cell j old[j] (by simp [hj'])]; rfl
  exact wpList_store_mid hgd ty x y ho b 0 cs.toArray hx hy hth (by simpa using hi) (all_oneCell_toArray h1) (h _ (hb.setCells hl) (setCells_grown b _ 0 w))

end Go.Proofs.YtecffghcpknmjaaGreatDoor
