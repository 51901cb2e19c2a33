/- Slices that the call itself has made: ownership, append, stores; no program in sight. -/
import Derived.Test.YtecffghcpknmjaaGreatDoorBase
import Derived.Laws.AppendOwnNone
import Derived.Maps.AppendAt
import Derived.OwnWalk
namespace Go.Proofs.YtecffghcpknmjaaGreatDoor
open Go Go.RowKit

theorem flat_get {α : Type} {C : α → List Value} {n : Nat} (hC : ∀ x, (C x).length = n) : ∀ (l : List α) (i j : Nat) (x : α), l[i]? = some x → j < n → (l.flatMap C)[i * n + j]? = (C x)[j]?
  | [], i, j, x, h, _ => by simp at h
  | y :: l, 0, j, x, h, hj => by
    simp at h; subst h
    rw [List.flatMap_cons, List.getElem?_append_left (by rw [hC]; omega)]; simp
  | y :: l, i + 1, j, x, h, hj => by
    have h' : l[i]? = some x := by simpa using h
    rw [List.flatMap_cons, List.getElem?_append_right (by rw [hC, Nat.add_mul]; omega), hC, ← flat_get hC l i j x h' hj]
    congr 1
    rw [Nat.add_mul]; omega
theorem flat_len {α : Type} {C : α → List Value} {n : Nat} (hC : ∀ x, (C x).length = n) (l : List α) : (l.flatMap C).length = l.length * n := by
  induction l with
  | nil => simp
  | cons x l ih => rw [List.flatMap_cons, List.length_append, hC, ih, List.length_cons, Nat.add_mul]; omega
theorem flat_split {α : Type} {C : α → List Value} {n : Nat} (hC : ∀ x, (C x).length = n) (hn : 0 < n) {l : List α} {j : Nat} {u : Value} (h : (l.flatMap C)[j]? = some u) :
    ∃ x, l[j / n]? = some x ∧ (C x)[j % n]? = some u := by
  have hj : j < (l.flatMap C).length := (List.getElem?_eq_some_iff.1 h).1
  rw [flat_len hC] at hj
  have hd : j / n < l.length := Nat.div_lt_of_lt_mul (by rw [Nat.mul_comm]; exact hj)
  refine ⟨l[j / n], by simp [hd], ?_⟩
  rw [← flat_get hC l (j / n) (j % n) l[j / n] (by simp [hd]) (Nat.mod_lt _ hn), Nat.div_add_mod' j n]
  exact h
/-- The slice value v owns the list l: it is nil, or begins at the head of a row of the call's own. -/
def Owns {α : Type} (base : Nat) (E : TypeId) (n : Nat) (C : α → List Value) (w : World) (v : Value) (l : List α) : Prop := w.ownsRow base E n v l.length (l.flatMap C)
theorem Owns.slice {α : Type} {base : Nat} {E : TypeId} {n : Nat} {C : α → List Value} {w : World} {v : Value} {l : List α} (h : Owns base E n C w v l) (hC : ∀ x, (C x).length = n) : SliceOf n C w v l := by
  obtain ⟨h1, h2⟩ := h
  rcases h2 with ⟨rfl, h0⟩ | ⟨g, cap, cur, rfl, hb, hg, hnc, hm, hcs, ht⟩
  · obtain rfl := List.eq_nil_of_length_eq_zero h0
    exact SliceOf.nil
  · refine ⟨_, cap, rfl, hnc, hm, by simp, fun i x hx => ⟨g, 0, rfl, (Array.getElem?_eq_some_iff.1 hg).1, fun j u hu => ?_⟩⟩
    have hj : j < n := by rw [← hC x]; exact (List.getElem?_eq_some_iff.1 hu).1
    have hi : i < l.length := (List.getElem?_eq_some_iff.1 hx).1
    have hlt : i * n + j < l.length * n := by
      have : (i + 1) * n ≤ l.length * n := Nat.mul_le_mul_right _ hi
      rw [Nat.add_mul] at this; omega
    rw [Nat.zero_add, cell_of_row w g _ cur E (0, 0) hg]
    have := flat_get hC l i j x hx hj
    rw [← ht, List.getElem?_take, if_pos hlt, hu] at this
    simpa using this
theorem Owns.shape {α : Type} {base : Nat} {E : TypeId} {n : Nat} {C : α → List Value} {w : World} {v : Value} {l : List α} (h : Owns base E n C w v l) : ∃ ao cap, v = .slice ao l.length cap := by
  rcases h.2 with ⟨rfl, h0⟩ | ⟨g, cap, cur, rfl, _⟩
  · exact ⟨none, 0, by rw [h0]⟩
  · exact ⟨_, _, rfl⟩
theorem Owns.nil {α : Type} {base : Nat} {E : TypeId} {n : Nat} {C : α → List Value} {w : World} : Owns base E n C w (.slice none 0 0) ([] : List α) := World.ownsRow_nil _ _ _ _
theorem Owns.empty {α : Type} {base : Nat} {E : TypeId} {n : Nat} {C : α → List Value} {w : World} {H : Nat} (hH : w.heap.size = H) (hb : base ≤ H) : Owns base E n C (w.alloc (.cells #[] E)) (.slice (some ⟨H, 0, none⟩) 0 0) ([] : List α) := by
  subst hH
  exact World.ownsRow_made w #[] 0 hb (Nat.zero_le _) (by simp)
theorem Owns.base_mono {α : Type} {base base' : Nat} {E : TypeId} {n : Nat} {C : α → List Value} {w : World} {v : Value} {l : List α} (h : Owns base E n C w v l) (hb : base' ≤ base) : Owns base' E n C w v l := by
  refine ⟨h.1, ?_⟩
  rcases h.2 with h | ⟨g, cap, cur, h1, h2, h3⟩
  · exact .inl h
  · exact .inr ⟨g, cap, cur, h1, Nat.le_trans hb h2, h3⟩
theorem Owns.kept {α : Type} {base : Nat} {E : TypeId} {n : Nat} {C : α → List Value} {w w' : World} {v : Value} {l : List α} {row : Option Nat} (h : Owns base E n C w v l) (hg : w.grownBy w' row) (hne : v.ownBlock = none ∨ v.ownBlock ≠ row) : Owns base E n C w' v l :=
  World.ownsRow.kept h hg hne
theorem Owns.below {α : Type} {base : Nat} {E : TypeId} {n : Nat} {C : α → List Value} {w w' : World} {v : Value} {l : List α} (h : Owns base E n C w v l) (hb : Below w.heap.size w w') : Owns base E n C w' v l :=
  h.kept (row := none) ⟨hb.os, hb.tape, hb.output, hb.size, fun k hk _ => hb.block k hk⟩ (by cases v.ownBlock <;> simp)
theorem Owns.alloc {α : Type} {base : Nat} {E : TypeId} {n : Nat} {C : α → List Value} {w : World} {v : Value} {l : List α} (h : Owns base E n C w v l) (o : Obj) : Owns base E n C (w.alloc o) v l :=
  h.below ((Below.refl _ _).alloc (Nat.le_refl _) _)
theorem Owns.lt {α : Type} {base : Nat} {E : TypeId} {n : Nat} {C : α → List Value} {w : World} {v : Value} {l : List α} (h : Owns base E n C w v l) : ∀ k, v.ownBlock = some k → base ≤ k ∧ k < w.heap.size := World.ownsRow.lt h
/-- A slice literal, just made. -/
theorem sliceLit {α : Type} {n : Nat} {C : α → List Value} (hC : ∀ x, (C x).length = n) (w : World) (l : List α) (T : TypeId) (H k : Nat) (hH : w.heap.size = H) (hk : k = l.length) (hl : l.length ≤ maxLen) :
    SliceOf n C (w.alloc (.cells (l.flatMap C).toArray T)) (.slice (some ⟨H, 0, none⟩) k k) l := by
  subst hH; subst hk
  refine ⟨_, _, rfl, Nat.le_refl _, hl, by simp, fun i x hx => ⟨_, _, rfl, by simp, fun j u hu => ?_⟩⟩
  have hj : j < n := by rw [← hC x]; exact (List.getElem?_eq_some_iff.1 hu).1
  rw [cell_of_row (w.alloc (.cells (l.flatMap C).toArray T)) w.heap.size _ _ T (0, 0) (heap_alloc_new w _)]
  rw [Nat.zero_add]
  simp only [List.getElem?_toArray]
  rw [flat_get hC l i j x hx hj, hu]
/-- append of any slice to one of the call's own. -/
theorem wpList_append_slice {α : Type} {P : Program} (w : World) {ops : Array Oper} {rest : List Oper} {o : Oper} {a : Act} {Q : Exit → Act → World → Prop} (hgd : o.guard = none) (s x : Operand) (t : TypeId)
    (ho : o.op = .call { callee := .builtin .append, args := #[s, x], argTypes := #[t, t] })
    (base : Nat) (e : TypeId) {z : Value} {size bytes : Nat} (ht : P.underlying t = some (.slice e)) (hinfo : (P.info? e).map (fun i => (i.zero, i.size, i.bytes)) = some (some z, size, bytes)) (hzs : z.cells.size = size) (hsz : 0 < size) {C : α → List Value} (hC : ∀ y, (C y).length = size)
    (v : Value) (l : List α) (hs : a.eval s = v) (hown : Owns base e size C w v l) (v2 : Value) (l2 : List α) (hx : a.eval x = v2) (hsl : SliceOf size C w v2 l2) (h1 : ∀ y ∈ l2, ∀ u ∈ C y, u.oneCell' = true)
    (hbytes : (l.length + l2.length) * bytes ≤ 140737488355328) (hb0 : 0 < bytes) (hbase : base ≤ w.heap.size)
    (h : ∀ v' w', Owns base e size C w' v' (l ++ l2) → w.grownBy w' v.ownBlock → (v'.ownBlock = v.ownBlock ∨ v'.ownBlock = some w.heap.size) → wpList P ops Q rest (a.put o.dst v') w') : wpList P ops Q (o :: rest) a w := by
  have hlen63 : l.length + l2.length ≤ maxLen := by
    have : l.length + l2.length ≤ (l.length + l2.length) * bytes := Nat.le_mul_of_pos_right _ hb0
    unfold maxLen; omega
  obtain ⟨i, hi, hz, hsize, hby⟩ := info_parts hinfo
  obtain ⟨ao, cap, rfl, hcap, hm, hn, hc⟩ := hsl
  cases ao with
  | none =>
    have h0 : cap = 0 := hn rfl
    subst h0
    obtain rfl := List.eq_nil_of_length_eq_zero (Nat.le_zero.1 hcap)
    exact wpList_append_own_none hgd s x t ho base e i size ht hi v l.length (l.flatMap C) hs hown hx (h v w (by simpa using hown) (World.grownBy.refl _ _) (.inl rfl))
  | some ad =>
    refine wpList_plain hgd fun K hK => ?_
    have hnews : ∀ j u, (l2.flatMap C)[j]? = some u → w.cell? (ad.add j) = some u := by
      intro j u hu
      obtain ⟨y, hy, hyu⟩ := flat_split hC hsz hu
      obtain ⟨b, o', ha, _, hcell⟩ := hc _ _ hy
      cases ha
      rw [Addr.add_lit]
      have := hcell _ _ hyu
      rwa [Nat.add_assoc, Nat.div_add_mod' j size] at this
    obtain ⟨v', w', hr, h2, h3, h4, hloc⟩ := run_append_own_at (P := P) w base t o.type e i z size bytes ht hi hz hsize hby hzs hsz v l.length (l.flatMap C) hown ad l2.length cap (l2.flatMap C) (by rw [flat_len hC]) hnews
      (by intro u hu; obtain ⟨y, hy, huy⟩ := List.mem_flatMap.1 hu; exact h1 y hy u huy) hlen63 hbytes hbase
    unfold Oper.wp execOp
    simp only [ho, resolve, invoke, builtin, Sem.run_bind, Sem.run_pure, Result.andThen_ok, List.map_toArray, List.map_cons, List.map_nil, hs, hx, hr]
    exact hK _ _ (h v' w' (by unfold Owns; rw [List.length_append, List.flatMap_append]; exact h2) h3 hloc)

end Go.Proofs.YtecffghcpknmjaaGreatDoor
