/- Walks: diff.edit at two pins; the conditions stand in the theorems. -/
import Derived.Test.YtmcjpmogjmnfpaaL5
namespace Go.Proofs.Ytmcjpmogjmnfpaa
open Go Go.RowKit

set_option maxRecDepth 100000 in
set_option maxHeartbeats 8000000 in
theorem edit_both (k : Key) (w : World) (p : Pin) (g1 o1 : Nat) (h1 : PinAt w g1 o1 p) (q : Pin) (g2 o2 : Nat) (h2 : PinAt w g2 o2 q) : Calls Try.prog 27 #[.agg #[.string k.group, .string k.artifact, .string k.type, .string k.classifier], .pointer (some ⟨g1, o1, none⟩), .pointer (some ⟨g2, o2, none⟩)] w fun e w' => e = .returned (.agg (editC (editOf k (some p) (some q))).toArray) ∧ Below w.heap.size w w' := by
  have H1 := Lib.hid h1
  have H2 := Lib.hid h2
  clear h1 h2
  go_enter Try.func27, Try.ntmps27
  have hx6 : Hid (∀ o1 o2 o3, Box (((w.alloc o1).alloc (.cells #[.string ⟨#[]⟩, .string ⟨#[]⟩, .string ⟨#[]⟩, .string ⟨#[]⟩, .bool false, .bool false, .string ⟨#[]⟩, .string ⟨#[]⟩, .string ⟨#[]⟩, .string ⟨#[]⟩, .string ⟨#[]⟩, .int .i64 0, .string ⟨#[]⟩, .string ⟨#[]⟩, .string ⟨#[]⟩, .string ⟨#[]⟩, .string ⟨#[]⟩, .int .i64 0] o2)).alloc o3) (w.heap.size + 1) [.string ⟨#[]⟩, .string ⟨#[]⟩, .string ⟨#[]⟩, .string ⟨#[]⟩, .bool false, .bool false, .string ⟨#[]⟩, .string ⟨#[]⟩, .string ⟨#[]⟩, .string ⟨#[]⟩, .string ⟨#[]⟩, .int .i64 0, .string ⟨#[]⟩, .string ⟨#[]⟩, .string ⟨#[]⟩, .string ⟨#[]⟩, .string ⟨#[]⟩, .int .i64 0]) := fun o1 o2 o3 => (Box.new _ _ _ _ (by simp)).alloc _
  have hx7 : Hid (∀ o1 o2, Box (((w.alloc o1).alloc o2).alloc (.cells #[.string ⟨#[]⟩, .string ⟨#[]⟩, .string ⟨#[]⟩, .string ⟨#[]⟩, .bool false, .bool false, .string ⟨#[]⟩, .string ⟨#[]⟩, .string ⟨#[]⟩, .string ⟨#[]⟩, .string ⟨#[]⟩, .int .i64 0, .string ⟨#[]⟩, .string ⟨#[]⟩, .string ⟨#[]⟩, .string ⟨#[]⟩, .string ⟨#[]⟩, .int .i64 0] 46)) (w.heap.size + 1 + 1) [.string ⟨#[]⟩, .string ⟨#[]⟩, .string ⟨#[]⟩, .string ⟨#[]⟩, .bool false, .bool false, .string ⟨#[]⟩, .string ⟨#[]⟩, .string ⟨#[]⟩, .string ⟨#[]⟩, .string ⟨#[]⟩, .int .i64 0, .string ⟨#[]⟩, .string ⟨#[]⟩, .string ⟨#[]⟩, .string ⟨#[]⟩, .string ⟨#[]⟩, .int .i64 0]) := fun o1 o2 => Box.new _ _ _ _ (by simp)
  have hbb : Hid (∀ o1 o2 o3, Below w.heap.size w (((w.alloc o1).alloc o2).alloc o3)) := fun o1 o2 o3 => (((Below.refl _ w).alloc (Nat.le_refl _) _).alloc (by simp) _).alloc (by simp; omega) _
  go_upto_region 2 with ((with_reducible show wpList _ _ _ (Oper.mk none (Op.store 46 (.tmp 7) (.tmp 9)) _ _ _ _ :: _) _ _); refine wpList_store_box rfl 46 (.tmp 7) (.tmp 9) rfl (w.heap.size + 1 + 1) [.string ⟨#[]⟩, .string ⟨#[]⟩, .string ⟨#[]⟩, .string ⟨#[]⟩, .bool false, .bool false, .string ⟨#[]⟩, .string ⟨#[]⟩, .string ⟨#[]⟩, .string ⟨#[]⟩, .string ⟨#[]⟩, .int .i64 0, .string ⟨#[]⟩, .string ⟨#[]⟩, .string ⟨#[]⟩, .string ⟨#[]⟩, .string ⟨#[]⟩, .int .i64 0] [.string k.group, .string k.artifact, .string k.type, .string k.classifier, .bool false, .bool false, .string ⟨#[]⟩, .string ⟨#[]⟩, .string ⟨#[]⟩, .string ⟨#[]⟩, .string ⟨#[]⟩, .int .i64 0, .string ⟨#[]⟩, .string ⟨#[]⟩, .string ⟨#[]⟩, .string ⟨#[]⟩, .string ⟨#[]⟩, .int .i64 0] rfl rfl (hx7.out _ _) rfl size_edit editC_one0 ?_; intro W0 v0 hg0)
  have V0 := Lib.hid v0
  have B0 := Lib.hid ((hbb.out _ _ _).trans (below_grown hg0 (by simp) |>.mono (by omega)))
  have X0 := Lib.hid ((hx6.out _ _ _).grown hg0 (by simp))
  clear hx6 hx7 hbb hg0 v0
  go_upto_region 3 with fail
  refine wp_world ?_
  intro W1 hW1
  have x7 : Box W1 (w.heap.size + 1 + 1) [.string k.group, .string k.artifact, .string k.type, .string k.classifier, .bool false, .bool false, .string ⟨#[]⟩, .string ⟨#[]⟩, .string ⟨#[]⟩, .string ⟨#[]⟩, .string ⟨#[]⟩, .int .i64 0, .string ⟨#[]⟩, .string ⟨#[]⟩, .string ⟨#[]⟩, .string ⟨#[]⟩, .string ⟨#[]⟩, .int .i64 0] := by rw [hW1]; exact V0.out
  have x6 : Box W1 (w.heap.size + 1) [.string ⟨#[]⟩, .string ⟨#[]⟩, .string ⟨#[]⟩, .string ⟨#[]⟩, .bool false, .bool false, .string ⟨#[]⟩, .string ⟨#[]⟩, .string ⟨#[]⟩, .string ⟨#[]⟩, .string ⟨#[]⟩, .int .i64 0, .string ⟨#[]⟩, .string ⟨#[]⟩, .string ⟨#[]⟩, .string ⟨#[]⟩, .string ⟨#[]⟩, .int .i64 0] := by rw [hW1]; exact X0.out
  have hB : Below w.heap.size w W1 := by rw [hW1]; exact B0.out
  clear hW1
  have hpin : PinAt W1 g1 o1 p := H1.out.belowB hB H1.out.1
  have hgN : g1 ≠ w.heap.size + 1 + 1 := by have := H1.out.1; omega
  have a0 : W1.cell? ⟨g1, o1, none⟩ = some (.string p.key.group) := by simpa using hpin.2 0 _ rfl
  have a1 : W1.cell? ⟨g1, o1 + 1, none⟩ = some (.string p.key.artifact) := hpin.2 1 _ rfl
  have a2 : W1.cell? ⟨g1, o1 + 2, none⟩ = some (.string p.key.type) := hpin.2 2 _ rfl
  have a3 : W1.cell? ⟨g1, o1 + 3, none⟩ = some (.string p.key.classifier) := hpin.2 3 _ rfl
  have a4 : W1.cell? ⟨g1, o1 + 4, none⟩ = some (.string p.version) := hpin.2 4 _ rfl
  have a5 : W1.cell? ⟨g1, o1 + 5, none⟩ = some (.int .i64 p.scope) := hpin.2 5 _ rfl
  have c4 := x7.cell 4 _ rfl
  have y4 := x7.free 4
  have c6 := x7.cell 6 _ rfl
  have y6 := x7.free 6
  have c7 := x7.cell 7 _ rfl
  have y7 := x7.free 7
  have c8 := x7.cell 8 _ rfl
  have y8 := x7.free 8
  have c9 := x7.cell 9 _ rfl
  have y9 := x7.free 9
  have c10 := x7.cell 10 _ rfl
  have y10 := x7.free 10
  have c11 := x7.cell 11 _ rfl
  have y11 := x7.free 11
  have yl := x7.lt
  have X7 := Lib.hid x7
  have X6 := Lib.hid x6
  have HB := Lib.hid hB
  have hNg : ¬ w.heap.size + 1 + 1 = g1 := fun e => hgN e.symm
  clear x7 x6 hB hpin
  go_big_region
  clear a0 a1 a2 a3 a4 a5 hgN hNg yl c4 y4 c6 y6 c7 y7 c8 y8 c9 y9 c10 y10 c11 y11
  go_upto_region 5 with fail
  refine wp_world ?_
  intro W2 hW2
  have x7 : Box W2 (w.heap.size + 1 + 1) [.string k.group, .string k.artifact, .string k.type, .string k.classifier, .bool true, .bool false, .string p.key.group, .string p.key.artifact, .string p.key.type, .string p.key.classifier, .string p.version, .int .i64 p.scope, .string ⟨#[]⟩, .string ⟨#[]⟩, .string ⟨#[]⟩, .string ⟨#[]⟩, .string ⟨#[]⟩, .int .i64 0] := by rw [hW2]; exact (((((((X7.out.set 4 _).set 6 _).set 7 _).set 8 _).set 9 _).set 10 _).set 11 _).drew
  have x6 : Box W2 (w.heap.size + 1) [.string ⟨#[]⟩, .string ⟨#[]⟩, .string ⟨#[]⟩, .string ⟨#[]⟩, .bool false, .bool false, .string ⟨#[]⟩, .string ⟨#[]⟩, .string ⟨#[]⟩, .string ⟨#[]⟩, .string ⟨#[]⟩, .int .i64 0, .string ⟨#[]⟩, .string ⟨#[]⟩, .string ⟨#[]⟩, .string ⟨#[]⟩, .string ⟨#[]⟩, .int .i64 0] := by rw [hW2]; exact X6.out.sets7 (by omega)
  have hB : Below w.heap.size w W2 := by rw [hW2]; exact below_sets7 HB.out (by omega)
  clear hW2
  have hpin : PinAt W2 g2 o2 q := H2.out.belowB hB H2.out.1
  have hgN : g2 ≠ w.heap.size + 1 + 1 := by have := H2.out.1; omega
  have a0 : W2.cell? ⟨g2, o2, none⟩ = some (.string q.key.group) := by simpa using hpin.2 0 _ rfl
  have a1 : W2.cell? ⟨g2, o2 + 1, none⟩ = some (.string q.key.artifact) := hpin.2 1 _ rfl
  have a2 : W2.cell? ⟨g2, o2 + 2, none⟩ = some (.string q.key.type) := hpin.2 2 _ rfl
  have a3 : W2.cell? ⟨g2, o2 + 3, none⟩ = some (.string q.key.classifier) := hpin.2 3 _ rfl
  have a4 : W2.cell? ⟨g2, o2 + 4, none⟩ = some (.string q.version) := hpin.2 4 _ rfl
  have a5 : W2.cell? ⟨g2, o2 + 5, none⟩ = some (.int .i64 q.scope) := hpin.2 5 _ rfl
  have c5 := x7.cell 5 _ rfl
  have y5 := x7.free 5
  have c12 := x7.cell 12 _ rfl
  have y12 := x7.free 12
  have c13 := x7.cell 13 _ rfl
  have y13 := x7.free 13
  have c14 := x7.cell 14 _ rfl
  have y14 := x7.free 14
  have c15 := x7.cell 15 _ rfl
  have y15 := x7.free 15
  have c16 := x7.cell 16 _ rfl
  have y16 := x7.free 16
  have c17 := x7.cell 17 _ rfl
  have y17 := x7.free 17
  have yl := x7.lt
  have X7 := Lib.hid x7
  have X6 := Lib.hid x6
  have HB := Lib.hid hB
  have hNg : ¬ w.heap.size + 1 + 1 = g2 := fun e => hgN e.symm
  clear x7 x6 hB hpin
  go_big_region
  clear a0 a1 a2 a3 a4 a5 hgN hNg yl c5 y5 c12 y12 c13 y13 c14 y14 c15 y15 c16 y16 c17 y17
  go_upto_region 6 with fail
  refine wp_world ?_
  intro W hW
  have x7 : Box W (w.heap.size + 1 + 1) [.string k.group, .string k.artifact, .string k.type, .string k.classifier, .bool true, .bool true, .string p.key.group, .string p.key.artifact, .string p.key.type, .string p.key.classifier, .string p.version, .int .i64 p.scope, .string q.key.group, .string q.key.artifact, .string q.key.type, .string q.key.classifier, .string q.version, .int .i64 q.scope] := by rw [hW]; exact (((((((X7.out.set 5 _).set 12 _).set 13 _).set 14 _).set 15 _).set 16 _).set 17 _).drew
  have x6 : Box W (w.heap.size + 1) [.string ⟨#[]⟩, .string ⟨#[]⟩, .string ⟨#[]⟩, .string ⟨#[]⟩, .bool false, .bool false, .string ⟨#[]⟩, .string ⟨#[]⟩, .string ⟨#[]⟩, .string ⟨#[]⟩, .string ⟨#[]⟩, .int .i64 0, .string ⟨#[]⟩, .string ⟨#[]⟩, .string ⟨#[]⟩, .string ⟨#[]⟩, .string ⟨#[]⟩, .int .i64 0] := by rw [hW]; exact X6.out.sets7 (by omega)
  have hB : Below w.heap.size w W := by rw [hW]; exact below_sets7 HB.out (by omega)
  clear hW
  have hC : Box W (w.heap.size + 1 + 1) (editC (editOf k (some p) (some q))) := x7
  have X7' := Lib.hid hC
  have X6' := Lib.hid x6
  have HB' := Lib.hid hB
  clear x6 hB x7 hC
  go_wp2_with (first | ((with_reducible show wpList _ _ _ (Oper.mk _ (Op.load 46 (.tmp 7)) _ _ _ _ :: _) _ _); refine wpList_load_box rfl 46 (.tmp 7) rfl (w.heap.size + 1 + 1) (editC (editOf k (some p) (some q))) rfl X7'.out Try.underlying46 rfl size_edit ?_) | ((with_reducible show wpList _ _ _ (Oper.mk none (Op.store 46 (.tmp 6) (.tmp 24)) _ _ _ _ :: _) _ _); refine wpList_store_box rfl 46 (.tmp 6) (.tmp 24) rfl (w.heap.size + 1) [.string ⟨#[]⟩, .string ⟨#[]⟩, .string ⟨#[]⟩, .string ⟨#[]⟩, .bool false, .bool false, .string ⟨#[]⟩, .string ⟨#[]⟩, .string ⟨#[]⟩, .string ⟨#[]⟩, .string ⟨#[]⟩, .int .i64 0, .string ⟨#[]⟩, .string ⟨#[]⟩, .string ⟨#[]⟩, .string ⟨#[]⟩, .string ⟨#[]⟩, .int .i64 0] (editC (editOf k (some p) (some q))) rfl rfl X6'.out rfl size_edit editC_one ?_; intro W9 v9 hg9))
  have HL := Lib.hid X6'.out.lt
  have HG := Lib.hid hg9
  have V9 := Lib.hid v9
  clear hg9 v9
  go_wp2
  refine bodyPost_ret (results_cell_box rfl _ _ (w.heap.size + 1) (editC (editOf k (some p) (some q))) rfl V9.out Try.underlying46 rfl size_edit) rfl ?_
  exact ⟨rfl, HB'.out.trans (below_grown HG.out (by have := HL.out; omega) |>.mono (by omega))⟩

end Go.Proofs.Ytmcjpmogjmnfpaa
