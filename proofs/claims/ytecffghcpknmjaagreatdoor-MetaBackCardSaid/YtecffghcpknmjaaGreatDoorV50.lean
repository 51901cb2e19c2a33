/- The walk of meta.leaf; rows of elements that grow; the conditions stand in the theorems. -/
import Derived.Test.YtecffghcpknmjaaGreatDoorJK12
import Derived.Test.YtecffghcpknmjaaGreatDoorJK13
import Derived.Test.YtecffghcpknmjaaGreatDoorL11
import Derived.Test.YtecffghcpknmjaaGreatDoorQB
namespace Go.Proofs.YtecffghcpknmjaaGreatDoor
open Go Go.RowKit

theorem step_append_sliceN {α : Type} {P : Program} {ops : Array Oper} {E : Prop} (w : World) {o : Oper} {a : Act} {K : Act → World → Prop} {Q : Exit → Act → World → Prop} (hgd : o.guard = none) (s x : Operand) (t : TypeId)
    (ho : o.op = .call { callee := .builtin .append, args := #[s, x], argTypes := #[t, t] })
    (base : Nat) (e : TypeId) {z : Value} {size bytes : Nat} (ht : P.underlying t = some (.slice e)) (hinfo : (P.info? e).map (fun i => (i.zero, i.size, i.bytes)) = some (some z, size, bytes)) (hzs : z.cells.size = size) (hsz : 0 < size) {C : α → List Value} (hC : ∀ y, (C y).length = size)
    (v : Value) (l : List α) (hs : a.eval s = v) (hown : Owns base e size C w v l) (v2 : Value) (l2 : List α) (hx : a.eval x = v2) (hsl : SliceOf size C w v2 l2) (h1 : ∀ y ∈ l2, ∀ u ∈ C y, u.oneCell' = true)
    (hbytes : (l.length + l2.length) * bytes ≤ 140737488355328) (hb0 : 0 < bytes) (hbase : base ≤ w.heap.size)
    (h : ∀ ao n cap w', Owns base e size C w' (.slice ao n cap) (l ++ l2) → w.grownBy w' v.ownBlock → ((Value.slice ao n cap).ownBlock = v.ownBlock ∨ (Value.slice ao n cap).ownBlock = some w.heap.size) → K (a.put o.dst (.slice ao n cap)) w') :
    if Region.wanted o (yielded ops a.tmps) = true then Oper.wp P o a w K Q else E := by
  have hw : Region.wanted o (yielded ops a.tmps) = true := by simp [Region.wanted, hgd]
  rw [if_pos hw]
  refine wp_append_slice w s x t ho base e ht hinfo hzs hsz hC v l hs hown v2 l2 hx hsl h1 hbytes hb0 hbase fun v' w' h2 h3 h4 => ?_
  obtain ⟨ao, cap, rfl⟩ := h2.shape
  exact h ao _ cap w' h2 h3 h4
theorem grN {B r : Nat} {w w' w1 : World} (h : Below B w w') (hg : w'.grownBy w1 (some r)) (hB : B ≤ r) (hs : B ≤ w.heap.size) : Below B w w1 := h.grown hg (Nat.le_trans hs h.size) (fun j hj => by cases hj; exact hB)
theorem trC_lenN (y : TrV) : (trC y).length = 4 := rfl
/-- What leaf answers. -/
def LeafP (n : Bs) (nm s : S) (w : World) (e : Ending) (w' : World) : Prop := ∃ H, e = .returned (.agg #[.string nm, .slice none 0 0, .slice (some ⟨H, 0, none⟩) 1 1, .string ⟨#[]⟩]) ∧ NodeX (fun j => j < w.heap.size) w' (leafM n s) (.slice none 0 0) (.slice (some ⟨H, 0, none⟩) 1 1) ∧ Below w.heap.size w w'
set_option maxRecDepth 100000 in
set_option maxHeartbeats 4000000 in
theorem leafM_any (n : Bs) (nm s : S) (w : World) : Calls Tryz.prog 20 #[.string nm, .string s] w (LeafP n nm s w) := by
  go_enter Tryz.func20, Tryz.ntmps20
  go_upto_region 1 with fail
  refine wp_world ?_
  intro W hW
  have y1 : Box W w.heap.size [.string ⟨#[]⟩, .slice none 0 0, .slice none 0 0, .string ⟨#[]⟩] := by rw [hW]; exact Box.new w [.string ⟨#[]⟩, .slice none 0 0, .slice none 0 0, .string ⟨#[]⟩] _ _ rfl
  have hb : Below w.heap.size w W := by rw [hW]; exact (Below.refl _ w).alloc (Nat.le_refl _) _
  have hsz : W.heap.size = w.heap.size + 1 := by rw [hW]; simp
  clear hW
  have HYA : Hid (Box (W.alloc (.cells #[.string ⟨#[]⟩, .slice none 0 0, .slice none 0 0, .string s] 32)) w.heap.size [.string ⟨#[]⟩, .slice none 0 0, .slice none 0 0, .string ⟨#[]⟩]) := y1.alloc _
  have HBA : Hid (Below w.heap.size w (W.alloc (.cells #[.string ⟨#[]⟩, .slice none 0 0, .slice none 0 0, .string s] 32))) := hb.alloc hb.size _
  have HND : Hid (NodeX (fun j => j < w.heap.size + 1) (W.alloc (.cells #[.string ⟨#[]⟩, .slice none 0 0, .slice none 0 0, .string s] 32)) (leafM n s) (.slice none 0 0) (.slice (some ⟨W.heap.size, 0, none⟩) 1 1)) := by
    have h1 := leaf_node (fun j => j < w.heap.size + 1) n s.data.toList W W.heap.size rfl (by omega)
    rw [data_bs] at h1
    exact h1
  clear y1 hb hsz
  go_wp2_with ((with_reducible show wpList _ _ _ (Oper.mk none (Op.store 32 (.tmp 4) (.tmp 9)) _ _ _ _ :: _) _ _); refine wpList_store_box rfl 32 (.tmp 4) (.tmp 9) rfl w.heap.size _ [.string nm, .slice none 0 0, .slice (some ⟨W.heap.size, 0, none⟩) 1 1, .string ⟨#[]⟩] rfl rfl HYA.out rfl (by kernel_rfl) (by simp [Value.oneCell']) ?_; intro W7 v7 hg7; have HV7 := Lib.hid v7; have HB7 := Lib.hid (grN HBA.out hg7 (Nat.le_refl _) (Nat.le_refl _)); have HN7 : Hid (NodeX (fun j => j < w.heap.size) W7 (leafM n s) (.slice none 0 0) (.slice (some ⟨W.heap.size, 0, none⟩) 1 1)) := HND.out.keep (KeptX.grown hg7 (fun g e => by cases e; omega)) (fun k _ h => by omega); clear v7 hg7)
  have z0 := HV7.out.cell 0 _ rfl
  have z1 := HV7.out.cell 1 _ rfl
  have z2 := HV7.out.cell 2 _ rfl
  have z3 := HV7.out.cell 3 _ rfl
  have zl := HV7.out.lt
  clear HYA HBA HND
  go_wp2
  refine bodyPost_ret (v := .agg #[.string nm, .slice none 0 0, .slice (some ⟨W.heap.size, 0, none⟩) 1 1, .string ⟨#[]⟩]) (by simp [results, Tryz.results20, go_sem, z0, z1, z2, z3]) rfl ?_
  exact ⟨_, rfl, HN7.out, HB7.out⟩
/-- A row of one, just made. -/
theorem Grow.one {b H : Nat} {w : World} {t : Tr} {av kv : Value} (hH : w.heap.size = H) (hb : b ≤ H) (hn : NodeX (fun j => j < b) w t av kv) : Grow b (w.alloc (.cells (trC (t, av, kv)).toArray 32)) (.slice (some ⟨H, 0, none⟩) 1 1) [t] [(t, av, kv)] := by
  subst hH
  refine ⟨rfl, ?_, fun y hy => ?_⟩
  · have h := World.ownsRow_lit (base := b) (e := 32) (size := 4) w (trC (t, av, kv)).toArray 1 hb (by simp [maxLen]) (by simp [trC_len])
    exact h
  · obtain rfl := List.mem_singleton.1 hy
    refine hn.keep (KeptX.below ((Below.refl _ _).alloc (Nat.le_refl _) _)) fun k hk h => ?_
    rcases h with h | h
    · exact h
    · simp only [Value.ownBlock, Option.some.injEq] at h; omega

end Go.Proofs.YtecffghcpknmjaaGreatDoor
