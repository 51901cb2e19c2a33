/- Walks: diff.edit; the conditions stand in the theorems. -/
import Derived.Test.YtmcjpmogjmnfpaaL4
import Derived.Test.YtmcjpmogjmnfpaaLE
import Derived.BigRegion
import Derived.Deep.RegionHeld3
namespace Go.Proofs.Ytmcjpmogjmnfpaa
open Go Go.RowKit

def keyVs (k : Key) : List Value := [.string k.group, .string k.artifact, .string k.type, .string k.classifier]
/-- A pointer to a pin in memory, or nil. -/
def PinAt (w : World) (g o : Nat) (p : Pin) : Prop := g < w.heap.size ∧ ∀ j u, (pinC p)[j]? = some u → w.cell? ⟨g, o + j, none⟩ = some u
theorem PinAt.below {w w' : World} {g o : Nat} {p : Pin} (h : PinAt w g o p) (hb : Below w.heap.size w w') : PinAt w' g o p :=
  ⟨Nat.lt_of_lt_of_le h.1 hb.size, fun j u hu => (hb.cell (by exact h.1)).trans (h.2 j u hu)⟩
theorem PinAt.belowB {B : Nat} {w w' : World} {g o : Nat} {p : Pin} (h : PinAt w g o p) (hb : Below B w w') (hg : g < B) : PinAt w' g o p :=
  ⟨Nat.lt_of_lt_of_le h.1 hb.size, fun j u hu => (hb.cell (by exact hg)).trans (h.2 j u hu)⟩
theorem size_edit : (Try.prog.info? 46).map (·.size) = some 18 := by kernel_rfl
theorem Box.drew {w : World} {b : Nat} {cs : List Value} (h : Box w b cs) : Box w.drew b cs := ⟨h.lt, h.cell, h.free⟩
theorem cell_alloc3 (w : World) (x y z : Obj) {g o : Nat} (h : g < w.heap.size) : (((w.alloc x).alloc y).alloc z).cell? ⟨g, o, none⟩ = w.cell? ⟨g, o, none⟩ :=
  ((((Below.refl w.heap.size w).alloc (Nat.le_refl _) x).alloc (by simp) y).alloc (by simp; omega) z).cell (by exact h)
theorem far_drew {X W : World} {N : Nat} (h : ∀ b o, b < N → X.cell? ⟨b, o, none⟩ = W.cell? ⟨b, o, none⟩) : ∀ b o, b < N → X.drew.cell? ⟨b, o, none⟩ = W.cell? ⟨b, o, none⟩ := h
theorem far_step {X W : World} {N k j : Nat} {v : Value} (hk : N ≤ k) (h : ∀ b o, b < N → X.cell? ⟨b, o, none⟩ = W.cell? ⟨b, o, none⟩) : ∀ b o, b < N → (X.setCell ⟨k, j, none⟩ v).cell? ⟨b, o, none⟩ = W.cell? ⟨b, o, none⟩ :=
  fun b o hb => (((Below.refl N X).setCell (p := ⟨k, j, none⟩) hk v).cell (p := ⟨b, o, none⟩) hb).trans (h b o hb)
theorem PinAt.grown {w w' : World} {g o N : Nat} {p : Pin} (h : PinAt w g o p) (hg : w.grownBy w' (some N)) (hne : g ≠ N) : PinAt w' g o p :=
  ⟨Nat.lt_of_lt_of_le h.1 hg.size, fun j u hu => (World.cell?_of_block (by exact hg.block g h.1 (by simpa using hne))).trans (h.2 j u hu)⟩
def ptrV (g o : Nat) : Value := .pointer (some ⟨g, o, none⟩)
theorem SliceOf.pinAt {w : World} {ao : Option Addr} {len cap : Nat} {l : List Pin} (h : SliceOf 6 pinC w (.slice ao len cap) l) {k : Nat} (hk : k < l.length) : ∃ g o, ao = some ⟨g, o, none⟩ ∧ PinAt w g (o + k * 6) l[k] := by
  obtain ⟨b, o, h1, h2, h3⟩ := h.at hk
  exact ⟨b, o, h1, h2, h3⟩
theorem editC_one0 {k : Key} : ∀ u ∈ editC (editOf k none none), u.oneCell' = true := editC_one
theorem wpList_load_box {P : Program} {ops : Array Oper} {rest : List Oper} {op : Oper} {a : Act} {w : World} {Q : Exit → Act → World → Prop} (hgd : op.guard = none) (ty : TypeId) (x : Operand) (ho : op.op = .load ty x)
    (b : Nat) (cs : List Value) (hx : a.eval x = .pointer (some ⟨b, 0, none⟩)) (hb : Box w b cs) {d : TypeDesc} (hu : P.underlying ty = some d) (hd : d.isRow = true) (hi : (P.info? ty).map (·.size) = some cs.length)
    (h : wpList P ops Q rest (a.put op.dst (.agg cs.toArray)) w) : wpList P ops Q (op :: rest) a w :=
  wpList_load_mid hgd ty x ho b 0 hx cs d (fun j v hv => by rw [Nat.zero_add]; exact hb.cell j v hv) hu hd hi h
theorem results_cell_box {P : Program} {fn : Func} {p : Tmp} {ty : TypeId} (h : fn.results = #[.cell p ty]) (tmps : Array Value) (w : World) (b : Nat) (cs : List Value) (hp : tmps.getD p undef = .pointer (some ⟨b, 0, none⟩)) (hb : Box w b cs)
    {d : TypeDesc} (hu : P.underlying ty = some d) (hd : d.isRow = true) (hi : (P.info? ty).map (·.size) = some cs.length) : (results fn tmps).run P w = .ok (.agg cs.toArray) w := by
  have hp' : tmps[p]?.getD undef = .pointer (some ⟨b, 0, none⟩) := by simpa using hp
  simp [results, h, hp', asAddr, run_loadVar_mid w b 0 ty cs d (fun j v hv => by rw [Nat.zero_add]; exact hb.cell j v hv) hu hd hi]
theorem Box.sets7 {w : World} {b N a0 a1 a2 a3 a4 a5 a6 : Nat} {cs : List Value} {u0 u1 u2 u3 u4 u5 u6 : Value} (h : Box w b cs) (hN : b ≠ N) : Box (((((((w.setCell ⟨N, a0, none⟩ u0).setCell ⟨N, a1, none⟩ u1).setCell ⟨N, a2, none⟩ u2).setCell ⟨N, a3, none⟩ u3).setCell ⟨N, a4, none⟩ u4).setCell ⟨N, a5, none⟩ u5).setCell ⟨N, a6, none⟩ u6).drew b cs :=
  (h.grown ((((((((setCell_grown _ _ _ _).trans (setCell_grown _ _ _ _)).trans (setCell_grown _ _ _ _)).trans (setCell_grown _ _ _ _)).trans (setCell_grown _ _ _ _)).trans (setCell_grown _ _ _ _)).trans (setCell_grown _ _ _ _))) (by simpa using hN)).drew
theorem below_sets7 {B : Nat} {v w : World} {N a0 a1 a2 a3 a4 a5 a6 : Nat} {u0 u1 u2 u3 u4 u5 u6 : Value} (h : Below B v w) (hN : B ≤ N) : Below B v (((((((w.setCell ⟨N, a0, none⟩ u0).setCell ⟨N, a1, none⟩ u1).setCell ⟨N, a2, none⟩ u2).setCell ⟨N, a3, none⟩ u3).setCell ⟨N, a4, none⟩ u4).setCell ⟨N, a5, none⟩ u5).setCell ⟨N, a6, none⟩ u6).drew :=
  belowN (h.trans (((((((((Below.refl B w).setCell (by exact hN) _).setCell (by exact hN) _).setCell (by exact hN) _).setCell (by exact hN) _).setCell (by exact hN) _).setCell (by exact hN) _).setCell (by exact hN) _))) 1

set_option maxRecDepth 100000 in
set_option maxHeartbeats 8000000 in
theorem edit_old (k : Key) (w : World) (p : Pin) (g1 o1 : Nat) (h1 : PinAt w g1 o1 p) : Calls Try.prog 27 #[.agg #[.string k.group, .string k.artifact, .string k.type, .string k.classifier], .pointer (some ⟨g1, o1, none⟩), .pointer none] w fun e w' => e = .returned (.agg (editC (editOf k (some p) none)).toArray) ∧ Below w.heap.size w w' := by
  have H1 := Lib.hid h1
  clear h1
  go_enter Try.func27, Try.ntmps27
  have hx6 : Hid (∀ o1 o2 o3, Box (((w.alloc o1).alloc (.cells #[.string ⟨#[]⟩, .string ⟨#[]⟩, .string ⟨#[]⟩, .string ⟨#[]⟩, .bool false, .bool false, .string ⟨#[]⟩, .string ⟨#[]⟩, .string ⟨#[]⟩, .string ⟨#[]⟩, .string ⟨#[]⟩, .int .i64 0, .string ⟨#[]⟩, .string ⟨#[]⟩, .string ⟨#[]⟩, .string ⟨#[]⟩, .string ⟨#[]⟩, .int .i64 0] o2)).alloc o3) (w.heap.size + 1) [.string ⟨#[]⟩, .string ⟨#[]⟩, .string ⟨#[]⟩, .string ⟨#[]⟩, .bool false, .bool false, .string ⟨#[]⟩, .string ⟨#[]⟩, .string ⟨#[]⟩, .string ⟨#[]⟩, .string ⟨#[]⟩, .int .i64 0, .string ⟨#[]⟩, .string ⟨#[]⟩, .string ⟨#[]⟩, .string ⟨#[]⟩, .string ⟨#[]⟩, .int .i64 0]) := fun o1 o2 o3 => (Box.new _ _ _ _ (by simp)).alloc _
  have hx7 : Hid (∀ o1 o2, Box (((w.alloc o1).alloc o2).alloc (.cells #[.string ⟨#[]⟩, .string ⟨#[]⟩, .string ⟨#[]⟩, .string ⟨#[]⟩, .bool false, .bool false, .string ⟨#[]⟩, .string ⟨#[]⟩, .string ⟨#[]⟩, .string ⟨#[]⟩, .string ⟨#[]⟩, .int .i64 0, .string ⟨#[]⟩, .string ⟨#[]⟩, .string ⟨#[]⟩, .string ⟨#[]⟩, .string ⟨#[]⟩, .int .i64 0] 46)) (w.heap.size + 1 + 1) [.string ⟨#[]⟩, .string ⟨#[]⟩, .string ⟨#[]⟩, .string ⟨#[]⟩, .bool false, .bool false, .string ⟨#[]⟩, .string ⟨#[]⟩, .string ⟨#[]⟩, .string ⟨#[]⟩, .string ⟨#[]⟩, .int .i64 0, .string ⟨#[]⟩, .string ⟨#[]⟩, .string ⟨#[]⟩, .string ⟨#[]⟩, .string ⟨#[]⟩, .int .i64 0]) := fun o1 o2 => Box.new _ _ _ _ (by simp)
  have hbb : Hid (∀ o1 o2 o3, Below w.heap.size w (((w.alloc o1).alloc o2).alloc o3)) := fun o1 o2 o3 => (((Below.refl _ w).alloc (Nat.le_refl _) _).alloc (by simp) _).alloc (by simp; omega) _
  go_upto_region 2 with ((with_reducible show wpList _ _ _ (Oper.mk none (Op.store 46 (.tmp 7) (.tmp 9)) _ _ _ _ :: _) _ _); refine wpList_store_box rfl 46 (.tmp 7) (.tmp 9) rfl (w.heap.size + 1 + 1) [.string ⟨#[]⟩, .string ⟨#[]⟩, .string ⟨#[]⟩, .string ⟨#[]⟩, .bool false, .bool false, .string ⟨#[]⟩, .string ⟨#[]⟩, .string ⟨#[]⟩, .string ⟨#[]⟩, .string ⟨#[]⟩, .int .i64 0, .string ⟨#[]⟩, .string ⟨#[]⟩, .string ⟨#[]⟩, .string ⟨#[]⟩, .string ⟨#[]⟩, .int .i64 0] [.string k.group, .string k.artifact, .string k.type, .string k.classifier, .bool false, .bool false, .string ⟨#[]⟩, .string ⟨#[]⟩, .string ⟨#[]⟩, .string ⟨#[]⟩, .string ⟨#[]⟩, .int .i64 0, .string ⟨#[]⟩, .string ⟨#[]⟩, .string ⟨#[]⟩, .string ⟨#[]⟩, .string ⟨#[]⟩, .int .i64 0] rfl rfl (hx7.out _ _) rfl size_edit editC_one0 ?_; intro W0 v0 hg0)
  have V0 := Lib.hid v0
  have B0 := Lib.hid ((hbb.out _ _ _).trans (below_grown hg0 (by simp) |>.mono (by omega)))
  have X0 := Lib.hid ((hx6.out _ _ _).grown hg0 (by simp))
  clear hx6 hx7 hbb hg0 v0
  go_upto_region 3 with fail
  refine wp_world ?_
  intro W1 hW1
  have x7 : Box W1 (w.heap.size + 1 + 1) [.string k.group, .string k.artifact, .string k.type, .string k.classifier, .bool false, .bool false, .string ⟨#[]⟩, .string ⟨#[]⟩, .string ⟨#[]⟩, .string ⟨#[]⟩, .string ⟨#[]⟩, .int .i64 0, .string ⟨#[]⟩, .string ⟨#[]⟩, .string ⟨#[]⟩, .string ⟨#[]⟩, .string ⟨#[]⟩, .int .i64 0] := by rw [hW1]; exact V0.out
  have x6 : Box W1 (w.heap.size + 1) [.string ⟨#[]⟩, .string ⟨#[]⟩, .string ⟨#[]⟩, .string ⟨#[]⟩, .bool false, .bool false, .string ⟨#[]⟩, .string ⟨#[]⟩, .string ⟨#[]⟩, .string ⟨#[]⟩, .string ⟨#[]⟩, .int .i64 0, .string ⟨#[]⟩, .string ⟨#[]⟩, .string ⟨#[]⟩, .string ⟨#[]⟩, .string ⟨#[]⟩, .int .i64 0] := by rw [hW1]; exact X0.out
  have hB : Below w.heap.size w W1 := by rw [hW1]; exact B0.out
  clear hW1
  have hpin : PinAt W1 g1 o1 p := H1.out.belowB hB H1.out.1
  have hgN : g1 ≠ w.heap.size + 1 + 1 := by have := H1.out.1; omega
  have a0 : W1.cell? ⟨g1, o1, none⟩ = some (.string p.key.group) := by simpa using hpin.2 0 _ rfl
  have a1 : W1.cell? ⟨g1, o1 + 1, none⟩ = some (.string p.key.artifact) := hpin.2 1 _ rfl
  have a2 : W1.cell? ⟨g1, o1 + 2, none⟩ = some (.string p.key.type) := hpin.2 2 _ rfl
  have a3 : W1.cell? ⟨g1, o1 + 3, none⟩ = some (.string p.key.classifier) := hpin.2 3 _ rfl
  have a4 : W1.cell? ⟨g1, o1 + 4, none⟩ = some (.string p.version) := hpin.2 4 _ rfl
  have a5 : W1.cell? ⟨g1, o1 + 5, none⟩ = some (.int .i64 p.scope) := hpin.2 5 _ rfl
  have c4 := x7.cell 4 _ rfl
  have y4 := x7.free 4
  have c6 := x7.cell 6 _ rfl
  have y6 := x7.free 6
  have c7 := x7.cell 7 _ rfl
  have y7 := x7.free 7
  have c8 := x7.cell 8 _ rfl
  have y8 := x7.free 8
  have c9 := x7.cell 9 _ rfl
  have y9 := x7.free 9
  have c10 := x7.cell 10 _ rfl
  have y10 := x7.free 10
  have c11 := x7.cell 11 _ rfl
  have y11 := x7.free 11
  have yl := x7.lt
  have X7 := Lib.hid x7
  have X6 := Lib.hid x6
  have HB := Lib.hid hB
  have hNg : ¬ w.heap.size + 1 + 1 = g1 := fun e => hgN e.symm
  clear x7 x6 hB hpin
  go_big_region
  clear a0 a1 a2 a3 a4 a5 hgN hNg yl c4 y4 c6 y6 c7 y7 c8 y8 c9 y9 c10 y10 c11 y11
  go_upto_region 6 with fail
  refine wp_world ?_
  intro W hW
  have x7 : Box W (w.heap.size + 1 + 1) [.string k.group, .string k.artifact, .string k.type, .string k.classifier, .bool true, .bool false, .string p.key.group, .string p.key.artifact, .string p.key.type, .string p.key.classifier, .string p.version, .int .i64 p.scope, .string ⟨#[]⟩, .string ⟨#[]⟩, .string ⟨#[]⟩, .string ⟨#[]⟩, .string ⟨#[]⟩, .int .i64 0] := by rw [hW]; exact (((((((X7.out.set 4 _).set 6 _).set 7 _).set 8 _).set 9 _).set 10 _).set 11 _).drew
  have x6 : Box W (w.heap.size + 1) [.string ⟨#[]⟩, .string ⟨#[]⟩, .string ⟨#[]⟩, .string ⟨#[]⟩, .bool false, .bool false, .string ⟨#[]⟩, .string ⟨#[]⟩, .string ⟨#[]⟩, .string ⟨#[]⟩, .string ⟨#[]⟩, .int .i64 0, .string ⟨#[]⟩, .string ⟨#[]⟩, .string ⟨#[]⟩, .string ⟨#[]⟩, .string ⟨#[]⟩, .int .i64 0] := by rw [hW]; exact X6.out.sets7 (by omega)
  have hB : Below w.heap.size w W := by rw [hW]; exact below_sets7 HB.out (by omega)
  clear hW
  have hC : Box W (w.heap.size + 1 + 1) (editC (editOf k (some p) none)) := x7
  have X7' := Lib.hid hC
  have X6' := Lib.hid x6
  have HB' := Lib.hid hB
  clear x6 hB x7 hC
  go_wp2_with (first | ((with_reducible show wpList _ _ _ (Oper.mk _ (Op.load 46 (.tmp 7)) _ _ _ _ :: _) _ _); refine wpList_load_box rfl 46 (.tmp 7) rfl (w.heap.size + 1 + 1) (editC (editOf k (some p) none)) rfl X7'.out Try.underlying46 rfl size_edit ?_) | ((with_reducible show wpList _ _ _ (Oper.mk none (Op.store 46 (.tmp 6) (.tmp 24)) _ _ _ _ :: _) _ _); refine wpList_store_box rfl 46 (.tmp 6) (.tmp 24) rfl (w.heap.size + 1) [.string ⟨#[]⟩, .string ⟨#[]⟩, .string ⟨#[]⟩, .string ⟨#[]⟩, .bool false, .bool false, .string ⟨#[]⟩, .string ⟨#[]⟩, .string ⟨#[]⟩, .string ⟨#[]⟩, .string ⟨#[]⟩, .int .i64 0, .string ⟨#[]⟩, .string ⟨#[]⟩, .string ⟨#[]⟩, .string ⟨#[]⟩, .string ⟨#[]⟩, .int .i64 0] (editC (editOf k (some p) none)) rfl rfl X6'.out rfl size_edit editC_one ?_; intro W9 v9 hg9))
  have HL := Lib.hid X6'.out.lt
  have HG := Lib.hid hg9
  have V9 := Lib.hid v9
  clear hg9 v9
  go_wp2
  refine bodyPost_ret (results_cell_box rfl _ _ (w.heap.size + 1) (editC (editOf k (some p) none)) rfl V9.out Try.underlying46 rfl size_edit) rfl ?_
  exact ⟨rfl, HB'.out.trans (below_grown HG.out (by have := HL.out; omega) |>.mono (by omega))⟩

end Go.Proofs.Ytmcjpmogjmnfpaa
