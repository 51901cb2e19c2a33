/- append of slices that read as lists, as a step of a region that draws its order; no program in sight. -/
import Derived.Test.YtecffghcpknmjaaGreatDoorG0
import Derived.Deep.RegionLaw
import Derived.Deep.RegionLawGrows
import Derived.Deep.AppendLies
namespace Go.Proofs.YtecffghcpknmjaaGreatDoor
open Go Go.RowKit

/-- append of any slice to one of the call's own. -/
theorem wp_append_slice {α : Type} {P : Program} (w : World) {o : Oper} {a : Act} {K : Act → World → Prop} {Q : Exit → Act → World → Prop} (s x : Operand) (t : TypeId)
    (ho : o.op = .call { callee := .builtin .append, args := #[s, x], argTypes := #[t, t] })
    (base : Nat) (e : TypeId) {z : Value} {size bytes : Nat} (ht : P.underlying t = some (.slice e)) (hinfo : (P.info? e).map (fun i => (i.zero, i.size, i.bytes)) = some (some z, size, bytes)) (hzs : z.cells.size = size) (hsz : 0 < size) {C : α → List Value} (hC : ∀ y, (C y).length = size)
    (v : Value) (l : List α) (hs : a.eval s = v) (hown : Owns base e size C w v l) (v2 : Value) (l2 : List α) (hx : a.eval x = v2) (hsl : SliceOf size C w v2 l2) (h1 : ∀ y ∈ l2, ∀ u ∈ C y, u.oneCell' = true)
    (hbytes : (l.length + l2.length) * bytes ≤ 140737488355328) (hb0 : 0 < bytes) (hbase : base ≤ w.heap.size)
    (h : ∀ v' w', Owns base e size C w' v' (l ++ l2) → w.grownBy w' v.ownBlock → (v'.ownBlock = v.ownBlock ∨ v'.ownBlock = some w.heap.size) → K (a.put o.dst v') w') : o.wp P a w K Q := by
  have hlen63 : l.length + l2.length ≤ maxLen := by
    have : l.length + l2.length ≤ (l.length + l2.length) * bytes := Nat.le_mul_of_pos_right _ hb0
    unfold maxLen; omega
  obtain ⟨i, hi, hz, hsize, hby⟩ := info_parts hinfo
  obtain ⟨ao, cap, rfl, hcap, hm, hn, hc⟩ := hsl
  cases ao with
  | none =>
    have h0 : cap = 0 := hn rfl
    subst h0
    obtain rfl := List.eq_nil_of_length_eq_zero (Nat.le_zero.1 hcap)
    have hrun := run_append_owned_none (P := P) (w := w) base t o.type e i size ht hi v l.length (l.flatMap C) hown
    unfold Oper.wp
    simp [execOp, ho, resolve, invoke, builtin, hs, hx, hrun, Result.andThen]
    exact h v w (by simpa using hown) (World.grownBy.refl _ _) (.inl rfl)
  | some ad =>
    have hnews : ∀ j u, (l2.flatMap C)[j]? = some u → w.cell? (ad.add j) = some u := by
      intro j u hu
      obtain ⟨y, hy, hyu⟩ := flat_split hC hsz hu
      obtain ⟨b, o', ha, _, hcell⟩ := hc _ _ hy
      cases ha
      rw [Addr.add_lit]
      have := hcell _ _ hyu
      rwa [Nat.add_assoc, Nat.div_add_mod' j size] at this
    obtain ⟨v', w', hr, h2, h3, h4, hloc⟩ := run_append_own_at (P := P) w base t o.type e i z size bytes ht hi hz hsize hby hzs hsz v l.length (l.flatMap C) hown ad l2.length cap (l2.flatMap C) (by rw [flat_len hC]) hnews
      (by intro u hu; obtain ⟨y, hy, huy⟩ := List.mem_flatMap.1 hu; exact h1 y hy u huy) hlen63 hbytes hbase
    unfold Oper.wp execOp
    simp only [ho, resolve, invoke, builtin, Sem.run_bind, Sem.run_pure, Result.andThen_ok, List.map_toArray, List.map_cons, List.map_nil, hs, hx, hr]
    exact h v' w' (by unfold Owns; rw [List.length_append, List.flatMap_append]; exact h2) h3 hloc
theorem step_append_slice {α : Type} {P : Program} {ops : Array Oper} {E : Prop} (w : World) {o : Oper} {a : Act} {K : Act → World → Prop} {Q : Exit → Act → World → Prop} (hgd : o.guard = none) (s x : Operand) (t : TypeId)
    (ho : o.op = .call { callee := .builtin .append, args := #[s, x], argTypes := #[t, t] })
    (base : Nat) (e : TypeId) {z : Value} {size bytes : Nat} (ht : P.underlying t = some (.slice e)) (hinfo : (P.info? e).map (fun i => (i.zero, i.size, i.bytes)) = some (some z, size, bytes)) (hzs : z.cells.size = size) (hsz : 0 < size) {C : α → List Value} (hC : ∀ y, (C y).length = size)
    (v : Value) (l : List α) (hs : a.eval s = v) (hown : Owns base e size C w v l) (v2 : Value) (l2 : List α) (hx : a.eval x = v2) (hsl : SliceOf size C w v2 l2) (h1 : ∀ y ∈ l2, ∀ u ∈ C y, u.oneCell' = true)
    (hbytes : (l.length + l2.length) * bytes ≤ 140737488355328) (hb0 : 0 < bytes) (hbase : base ≤ w.heap.size)
    (h : ∀ ao n cap w', Owns base e size C w' (.slice ao n cap) (l ++ l2) → w.grownBy w' v.ownBlock → K (a.put o.dst (.slice ao n cap)) w') :
    if Region.wanted o (yielded ops a.tmps) = true then Oper.wp P o a w K Q else E := by
  have hw : Region.wanted o (yielded ops a.tmps) = true := by simp [Region.wanted, hgd]
  rw [if_pos hw]
  refine wp_append_slice w s x t ho base e ht hinfo hzs hsz hC v l hs hown v2 l2 hx hsl h1 hbytes hb0 hbase fun v' w' h2 h3 _ => ?_
  obtain ⟨ao, cap, rfl⟩ := h2.shape
  exact h ao _ cap w' h2 h3

end Go.Proofs.YtecffghcpknmjaaGreatDoor
