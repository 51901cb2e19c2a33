/- Walks: diff.editKey and the closure of diff.Join; the conditions stand in the theorems. -/
import Derived.Test.YtmcjpmogjmnfpaaLC
import Derived.Test.YtmcjpmogjmnfpaaL9
import Derived.Test.YtmcjpmogjmnfpaaG2
namespace Go.Proofs.Ytmcjpmogjmnfpaa
open Go Go.RowKit

def EditAt (w : World) (g o : Nat) (e : Edit) : Prop := g < w.heap.size ∧ ∀ j u, (editC e)[j]? = some u → w.cell? ⟨g, o + j, none⟩ = some u
theorem EditAt.below {w w' : World} {g o : Nat} {e : Edit} (h : EditAt w g o e) (hb : Below w.heap.size w w') : EditAt w' g o e :=
  ⟨Nat.lt_of_lt_of_le h.1 hb.size, fun j u hu => (hb.cell (by exact h.1)).trans (h.2 j u hu)⟩
theorem SliceOf.editAt {w : World} {ao : Option Addr} {len cap : Nat} {l : List Edit} (h : SliceOf 18 editC w (.slice ao len cap) l) {k : Nat} (hk : k < l.length) : ∃ g o, ao = some ⟨g, o, none⟩ ∧ EditAt w g (o + k * 18) l[k] := by
  obtain ⟨b, o, h1, h2, h3⟩ := h.at hk
  exact ⟨b, o, h1, h2, h3⟩
theorem EditAt.load {w : World} {g o : Nat} {e : Edit} (h : EditAt w g o e) : (Instr.loadAt 46 (.pointer (some ⟨g, o, none⟩))).run Try.prog w = .ok (.agg #[.string e.key.group, .string e.key.artifact, .string e.key.type, .string e.key.classifier, .bool e.had, .bool e.has, .string e.old.key.group, .string e.old.key.artifact, .string e.old.key.type, .string e.old.key.classifier, .string e.old.version, .int .i64 e.old.scope, .string e.new.key.group, .string e.new.key.artifact, .string e.new.key.type, .string e.new.key.classifier, .string e.new.version, .int .i64 e.new.scope]) w :=
  run_loadAt_mid w g o 46 (editC e) _ (fun q u hu => h.2 q u hu) Try.underlying46 rfl size_edit
theorem load_held {W : World} {g o : Nat} {e : Edit} (h : EditAt W g o e) : ∀ w', (∀ b o, b < W.heap.size → w'.cell? ⟨b, o, none⟩ = W.cell? ⟨b, o, none⟩) → (Instr.loadAt 46 (.pointer (some ⟨g, o, none⟩))).run Try.prog w' = .ok (.agg #[.string e.key.group, .string e.key.artifact, .string e.key.type, .string e.key.classifier, .bool e.had, .bool e.has, .string e.old.key.group, .string e.old.key.artifact, .string e.old.key.type, .string e.old.key.classifier, .string e.old.version, .int .i64 e.old.scope, .string e.new.key.group, .string e.new.key.artifact, .string e.new.key.type, .string e.new.key.classifier, .string e.new.version, .int .i64 e.new.scope]) w' := fun w' hw =>
  run_loadAt_mid w' g o 46 (editC e) _ (fun q u hu => (hw g (o + q) h.1).trans (h.2 q u hu)) Try.underlying46 rfl size_edit

set_option maxRecDepth 100000 in
set_option maxHeartbeats 8000000 in
theorem editKey_any (e : Edit) (w : World) : Calls Try.prog 39 #[.agg #[.string e.key.group, .string e.key.artifact, .string e.key.type, .string e.key.classifier, .bool e.had, .bool e.has, .string e.old.key.group, .string e.old.key.artifact, .string e.old.key.type, .string e.old.key.classifier, .string e.old.version, .int .i64 e.old.scope, .string e.new.key.group, .string e.new.key.artifact, .string e.new.key.type, .string e.new.key.classifier, .string e.new.version, .int .i64 e.new.scope]] w fun en w' => en = .returned (.agg #[.string e.key.group, .string e.key.artifact, .string e.key.type, .string e.key.classifier]) ∧ Below w.heap.size w w' := by
  have HB : Hid (∀ o1 o2, Below w.heap.size w ((w.alloc o1).alloc o2)) := fun o1 o2 => ((Below.refl _ w).alloc (Nat.le_refl _) _).alloc (by simp) _
  go_enter Try.func39, Try.ntmps39
  go_upto_region 1 with fail
  refine wp_world ?_
  intro W hW
  have x1 : Box W w.heap.size (editC e) := by rw [hW]; exact (Box.new w (editC e) _ _ rfl).alloc _
  have x2 : Box W (w.heap.size + 1) [.string ⟨#[]⟩, .string ⟨#[]⟩, .string ⟨#[]⟩, .string ⟨#[]⟩] := by rw [hW]; exact Box.new _ [.string ⟨#[]⟩, .string ⟨#[]⟩, .string ⟨#[]⟩, .string ⟨#[]⟩] _ _ (by simp)
  have hb : Below w.heap.size w W := by rw [hW]; exact HB.out _ _
  clear hW HB
  have y0 := x1.cell 0 _ rfl
  have y1 := x1.cell 1 _ rfl
  have y2 := x1.cell 2 _ rfl
  have y3 := x1.cell 3 _ rfl
  have z0 := x2.cell 0 _ rfl
  have z1 := x2.cell 1 _ rfl
  have z2 := x2.cell 2 _ rfl
  have z3 := x2.cell 3 _ rfl
  have u0 := x2.free 0
  have u1 := x2.free 1
  have u2 := x2.free 2
  have u3 := x2.free 3
  have HX2 := Lib.hid x2
  have HBW := Lib.hid hb
  clear x1 x2 hb
  go_wp2
  refine bodyPost_ret (results_cell_box rfl _ _ (w.heap.size + 1) (keyC e.key) rfl ((((HX2.out.set 0 _).set 1 _).set 2 _).set 3 _) Try.underlying42 rfl size_keyE) rfl ?_
  exact ⟨rfl, (((HBW.out.setCell (by simp) _).setCell (by simp) _).setCell (by simp) _).setCell (by simp) _⟩

/-- What the joining has put down so far: the edits lie in block B, whether they go together in the next one. -/
def JoinAt (B : Nat) (w : World) (l : List Edit) (ok : Bool) : Prop := ∃ v, Box w B [v] ∧ Box w (B + 1) [.bool ok] ∧ Owns (B + 2) 46 18 editC w v l
theorem JoinAt.below {B : Nat} {w w' : World} {l : List Edit} {ok : Bool} (h : JoinAt B w l ok) (hb : Below w.heap.size w w') : JoinAt B w' l ok := by
  obtain ⟨v, h1, h2, h3⟩ := h
  exact ⟨v, h1.below hb h1.lt, h2.below hb h2.lt, h3.below hb⟩
theorem JoinAt.lt {B : Nat} {w : World} {l : List Edit} {ok : Bool} (h : JoinAt B w l ok) : B + 1 < w.heap.size := by
  obtain ⟨v, h1, h2, h3⟩ := h
  exact h2.lt
theorem join_box {B : Nat} {w1 w8 : World} {v : Value} {l : List Edit} (hbx : Box w1 B [v]) (hown : Owns (B + 2) 46 18 editC w1 v l) (hg : w1.grownBy w8 v.ownBlock) : Box w8 B [v] :=
  hbx.grown hg fun e => by have := (hown.lt B e.symm).1; omega
theorem JoinAt.push {B : Nat} {w1 w8 : World} {v v8 : Value} {l : List Edit} {ok : Bool} {e : Edit} (hbx : Box w1 B [v]) (hok : Box w1 (B + 1) [.bool ok]) (hown : Owns (B + 2) 46 18 editC w1 v l) (hg : w1.grownBy w8 v.ownBlock) (h8 : Owns (B + 2) 46 18 editC w8 v8 (l ++ [e])) :
    JoinAt B (w8.setCell ⟨B, 0, none⟩ v8) (l ++ [e]) ok ∧ Below B w1 w8 ∧ Below B w1 (w8.setCell ⟨B, 0, none⟩ v8) := by
  have hne : some B ≠ v.ownBlock := fun e => by have := (hown.lt B e.symm).1; omega
  have hne1 : some (B + 1) ≠ v.ownBlock := fun e => by have := (hown.lt (B + 1) e.symm).1; omega
  have hb8 := hbx.grown hg hne
  have ho8 := hok.grown hg hne1
  have h2 : Below B w1 w8 := ⟨hg.os, hg.tape, hg.output, hg.size, fun k hk => hg.block k (Nat.lt_trans hk hbx.lt) fun e => by have := (hown.lt k e.symm).1; omega⟩
  exact ⟨⟨v8, hb8.set 0 v8, ho8.grown (setCell_grown _ _ _ _) (by simp), h8.keptR (setCell_grown _ _ _ _) (by omega)⟩, h2, h2.trans ((Below.refl B w8).setCell (p := ⟨B, 0, none⟩) (Nat.le_refl B) _)⟩
theorem JoinAt.no {B : Nat} {w : World} {v : Value} {l : List Edit} {ok : Bool} (hbx : Box w B [v]) (hok : Box w (B + 1) [.bool ok]) (hown : Owns (B + 2) 46 18 editC w v l) : JoinAt B (w.setCell ⟨B + 1, 0, none⟩ (.bool false)) l false :=
  ⟨v, hbx.grown (setCell_grown _ _ _ _) (by simp), hok.set 0 _, hown.keptR (setCell_grown _ _ _ _) (by omega)⟩

set_option maxRecDepth 100000 in
set_option maxHeartbeats 8000000 in
theorem join_l (k : Key) (w : World) (B : Nat) (l : List Edit) (ok : Bool) (ho : JoinAt B w l ok) (hl : l.length ≤ 1000) (x : Edit) (g1 o1 : Nat) (h1 : EditAt w g1 o1 x) : Calls Try.prog 40 #[.agg #[.string k.group, .string k.artifact, .string k.type, .string k.classifier], .pointer (some ⟨g1, o1, none⟩), .pointer none, .pointer (some ⟨B, 0, none⟩), .pointer (some ⟨B + 1, 0, none⟩)] w fun e w' => e = .returned (.tuple #[]) ∧ JoinAt B w' (l ++ [x]) ok ∧ Below B w w' := by
  obtain ⟨v, hbx, hbk, hown⟩ := ho
  obtain ⟨ao, cap, rfl⟩ := hown.shape
  have HBX := Lib.hid hbx
  have HBK := Lib.hid hbk
  have HOW := Lib.hid hown
  have HBY : Hid ((l.length + 1) * 248 ≤ 140737488355328) := by show _ ≤ _; omega
  clear hbx hbk hown hl
  have H1 := Lib.hid h1
  clear h1
  go_enter Try.func40, Try.ntmps40
  go_upto_region 2 with fail
  refine wp_world ?_
  intro W hW
  have hbW : Below w.heap.size w W := by rw [hW]; exact (Below.refl _ w).alloc (Nat.le_refl _) _
  clear hW
  have HBW := Lib.hid hbW
  have hbx : Box W B [.slice ao l.length cap] := HBX.out.below hbW HBX.out.lt
  have c0 := hbx.cell 0 _ rfl
  have f0 := hbx.free 0
  have l0 := hbx.lt
  have HBX1 := Lib.hid hbx
  have HBK1 := Lib.hid (HBK.out.below hbW HBK.out.lt)
  have HOW1 := Lib.hid (HOW.out.below hbW)
  have hp1 := H1.out.below hbW
  have a0 : W.cell? ⟨g1, o1, none⟩ = some (.string x.key.group) := by simpa using hp1.2 0 _ rfl
  have a1 : W.cell? ⟨g1, o1 + 1, none⟩ = some (.string x.key.artifact) := hp1.2 1 _ rfl
  have a2 : W.cell? ⟨g1, o1 + 2, none⟩ = some (.string x.key.type) := hp1.2 2 _ rfl
  have a3 : W.cell? ⟨g1, o1 + 3, none⟩ = some (.string x.key.classifier) := hp1.2 3 _ rfl
  have a4 : W.cell? ⟨g1, o1 + 4, none⟩ = some (.bool x.had) := hp1.2 4 _ rfl
  have a5 : W.cell? ⟨g1, o1 + 5, none⟩ = some (.bool x.has) := hp1.2 5 _ rfl
  have a6 : W.cell? ⟨g1, o1 + 6, none⟩ = some (.string x.old.key.group) := hp1.2 6 _ rfl
  have a7 : W.cell? ⟨g1, o1 + 7, none⟩ = some (.string x.old.key.artifact) := hp1.2 7 _ rfl
  have a8 : W.cell? ⟨g1, o1 + 8, none⟩ = some (.string x.old.key.type) := hp1.2 8 _ rfl
  have a9 : W.cell? ⟨g1, o1 + 9, none⟩ = some (.string x.old.key.classifier) := hp1.2 9 _ rfl
  have a10 : W.cell? ⟨g1, o1 + 10, none⟩ = some (.string x.old.version) := hp1.2 10 _ rfl
  have a11 : W.cell? ⟨g1, o1 + 11, none⟩ = some (.int .i64 x.old.scope) := hp1.2 11 _ rfl
  have a12 : W.cell? ⟨g1, o1 + 12, none⟩ = some (.string x.new.key.group) := hp1.2 12 _ rfl
  have a13 : W.cell? ⟨g1, o1 + 13, none⟩ = some (.string x.new.key.artifact) := hp1.2 13 _ rfl
  have a14 : W.cell? ⟨g1, o1 + 14, none⟩ = some (.string x.new.key.type) := hp1.2 14 _ rfl
  have a15 : W.cell? ⟨g1, o1 + 15, none⟩ = some (.string x.new.key.classifier) := hp1.2 15 _ rfl
  have a16 : W.cell? ⟨g1, o1 + 16, none⟩ = some (.string x.new.version) := hp1.2 16 _ rfl
  have a17 : W.cell? ⟨g1, o1 + 17, none⟩ = some (.int .i64 x.new.scope) := hp1.2 17 _ rfl
  have lg1 := hp1.1
  clear hp1
  have HNW : Hid (∀ j u, (editC x)[j]? = some u → (W.drew.alloc (.cells (editC x).toArray 46)).cell? ⟨W.drew.heap.size, j, none⟩ = some u) := fun j u hu => (Box.new W.drew (editC x) 46 _ rfl).cell j u hu
  clear hbx hbW
  go_region_law (first | (refine step_append_one rfl (.tmp 11) (.tmp 15) 29 rfl (B + 2) 46 Try.underlying29 info_edit rfl (by decide) editC_len (.slice ao l.length cap) l (by simp [Act.eval]) (HOW1.out.drew.alloc _) W.drew.heap.size x (by simp [Act.eval]) HNW.out editC_one HBY.out (by decide) (by simp; have := HBX1.out.lt; have := HBK1.out.lt; omega) (W.drew.heap.size + 1) (by simp) ?_; intro g8 cap8 w8 hown8 hgrow8 hat8 hlt8; have b8 := join_box (HBX1.out.drew.alloc _) (HOW1.out.drew.alloc _) hgrow8; have c8 := b8.cell 0 _ rfl; have f8 := b8.free 0; have l8 := b8.lt; have HP := Lib.hid (JoinAt.push (HBX1.out.drew.alloc _) (HBK1.out.drew.alloc _) (HOW1.out.drew.alloc _) hgrow8 hown8); clear b8 hown8 hgrow8 hat8 hlt8))
  all_goals go_end0
  all_goals
    exact ⟨rfl, HP.out.1, (HBW.out.mono (Nat.le_of_lt HBX.out.lt)).trans ((belowN (Below.refl B W) 1).trans (((Below.refl B W.drew).alloc (Nat.le_of_lt HBX1.out.lt) _).trans HP.out.2.2))⟩

set_option maxRecDepth 100000 in
set_option maxHeartbeats 8000000 in
theorem join_r (k : Key) (w : World) (B : Nat) (l : List Edit) (ok : Bool) (ho : JoinAt B w l ok) (hl : l.length ≤ 1000) (y : Edit) (g2 o2 : Nat) (h1 : EditAt w g2 o2 y) : Calls Try.prog 40 #[.agg #[.string k.group, .string k.artifact, .string k.type, .string k.classifier], .pointer none, .pointer (some ⟨g2, o2, none⟩), .pointer (some ⟨B, 0, none⟩), .pointer (some ⟨B + 1, 0, none⟩)] w fun e w' => e = .returned (.tuple #[]) ∧ JoinAt B w' (l ++ [y]) ok ∧ Below B w w' := by
  obtain ⟨v, hbx, hbk, hown⟩ := ho
  obtain ⟨ao, cap, rfl⟩ := hown.shape
  have HBX := Lib.hid hbx
  have HBK := Lib.hid hbk
  have HOW := Lib.hid hown
  have HBY : Hid ((l.length + 1) * 248 ≤ 140737488355328) := by show _ ≤ _; omega
  clear hbx hbk hown hl
  have H1 := Lib.hid h1
  clear h1
  go_enter Try.func40, Try.ntmps40
  go_upto_region 4 with fail
  refine wp_world ?_
  intro W hW
  have hbW : Below w.heap.size w W := by rw [hW]; exact (Below.refl _ w).alloc (Nat.le_refl _) _
  clear hW
  have HBW := Lib.hid hbW
  have hbx : Box W B [.slice ao l.length cap] := HBX.out.below hbW HBX.out.lt
  have c0 := hbx.cell 0 _ rfl
  have f0 := hbx.free 0
  have l0 := hbx.lt
  have HBX1 := Lib.hid hbx
  have HBK1 := Lib.hid (HBK.out.below hbW HBK.out.lt)
  have HOW1 := Lib.hid (HOW.out.below hbW)
  have hp1 := H1.out.below hbW
  have a0 : W.cell? ⟨g2, o2, none⟩ = some (.string y.key.group) := by simpa using hp1.2 0 _ rfl
  have a1 : W.cell? ⟨g2, o2 + 1, none⟩ = some (.string y.key.artifact) := hp1.2 1 _ rfl
  have a2 : W.cell? ⟨g2, o2 + 2, none⟩ = some (.string y.key.type) := hp1.2 2 _ rfl
  have a3 : W.cell? ⟨g2, o2 + 3, none⟩ = some (.string y.key.classifier) := hp1.2 3 _ rfl
  have a4 : W.cell? ⟨g2, o2 + 4, none⟩ = some (.bool y.had) := hp1.2 4 _ rfl
  have a5 : W.cell? ⟨g2, o2 + 5, none⟩ = some (.bool y.has) := hp1.2 5 _ rfl
  have a6 : W.cell? ⟨g2, o2 + 6, none⟩ = some (.string y.old.key.group) := hp1.2 6 _ rfl
  have a7 : W.cell? ⟨g2, o2 + 7, none⟩ = some (.string y.old.key.artifact) := hp1.2 7 _ rfl
  have a8 : W.cell? ⟨g2, o2 + 8, none⟩ = some (.string y.old.key.type) := hp1.2 8 _ rfl
  have a9 : W.cell? ⟨g2, o2 + 9, none⟩ = some (.string y.old.key.classifier) := hp1.2 9 _ rfl
  have a10 : W.cell? ⟨g2, o2 + 10, none⟩ = some (.string y.old.version) := hp1.2 10 _ rfl
  have a11 : W.cell? ⟨g2, o2 + 11, none⟩ = some (.int .i64 y.old.scope) := hp1.2 11 _ rfl
  have a12 : W.cell? ⟨g2, o2 + 12, none⟩ = some (.string y.new.key.group) := hp1.2 12 _ rfl
  have a13 : W.cell? ⟨g2, o2 + 13, none⟩ = some (.string y.new.key.artifact) := hp1.2 13 _ rfl
  have a14 : W.cell? ⟨g2, o2 + 14, none⟩ = some (.string y.new.key.type) := hp1.2 14 _ rfl
  have a15 : W.cell? ⟨g2, o2 + 15, none⟩ = some (.string y.new.key.classifier) := hp1.2 15 _ rfl
  have a16 : W.cell? ⟨g2, o2 + 16, none⟩ = some (.string y.new.version) := hp1.2 16 _ rfl
  have a17 : W.cell? ⟨g2, o2 + 17, none⟩ = some (.int .i64 y.new.scope) := hp1.2 17 _ rfl
  have lg1 := hp1.1
  clear hp1
  have HNW : Hid (∀ j u, (editC y)[j]? = some u → (W.drew.alloc (.cells (editC y).toArray 46)).cell? ⟨W.drew.heap.size, j, none⟩ = some u) := fun j u hu => (Box.new W.drew (editC y) 46 _ rfl).cell j u hu
  clear hbx hbW
  go_region_law (first | (refine step_append_one rfl (.tmp 20) (.tmp 24) 29 rfl (B + 2) 46 Try.underlying29 info_edit rfl (by decide) editC_len (.slice ao l.length cap) l (by simp [Act.eval]) (HOW1.out.drew.alloc _) W.drew.heap.size y (by simp [Act.eval]) HNW.out editC_one HBY.out (by decide) (by simp; have := HBX1.out.lt; have := HBK1.out.lt; omega) (W.drew.heap.size + 1) (by simp) ?_; intro g8 cap8 w8 hown8 hgrow8 hat8 hlt8; have b8 := join_box (HBX1.out.drew.alloc _) (HOW1.out.drew.alloc _) hgrow8; have c8 := b8.cell 0 _ rfl; have f8 := b8.free 0; have l8 := b8.lt; have HP := Lib.hid (JoinAt.push (HBX1.out.drew.alloc _) (HBK1.out.drew.alloc _) (HOW1.out.drew.alloc _) hgrow8 hown8); clear b8 hown8 hgrow8 hat8 hlt8))
  all_goals go_end0
  all_goals
    exact ⟨rfl, HP.out.1, (HBW.out.mono (Nat.le_of_lt HBX.out.lt)).trans ((belowN (Below.refl B W) 1).trans (((Below.refl B W.drew).alloc (Nat.le_of_lt HBX1.out.lt) _).trans HP.out.2.2))⟩

attribute [local go_sem ↓] eqg_pinE neq_pinB in
set_option maxRecDepth 100000 in
set_option maxHeartbeats 8000000 in
theorem join_n1 (k : Key) (w : World) (B : Nat) (l : List Edit) (ok : Bool) (ho : JoinAt B w l ok) (hl : l.length ≤ 1000) (k1 k2 : Key) (had1 has1 had2 has2 : Bool) (old1 new1 old2 new2 : Pin) (g1 o1 g2 o2 : Nat) (h1 : EditAt w g1 o1 ⟨k1, had1, has1, old1, new1⟩) (h2 : EditAt w g2 o2 ⟨k2, had2, has2, old2, new2⟩) (hh : (has1 == had2) = false) : Calls Try.prog 40 #[.agg #[.string k.group, .string k.artifact, .string k.type, .string k.classifier], .pointer (some ⟨g1, o1, none⟩), .pointer (some ⟨g2, o2, none⟩), .pointer (some ⟨B, 0, none⟩), .pointer (some ⟨B + 1, 0, none⟩)] w fun e w' => e = .returned (.tuple #[]) ∧ JoinAt B w' (l) false ∧ Below B w w' := by
  obtain ⟨v, hbx, hbk, hown⟩ := ho
  obtain ⟨ao, cap, rfl⟩ := hown.shape
  have HBX := Lib.hid hbx
  have HBK := Lib.hid hbk
  have HOW := Lib.hid hown
  have HBY : Hid ((l.length + 1) * 248 ≤ 140737488355328) := by show _ ≤ _; omega
  clear hbx hbk hown hl
  have H1 := Lib.hid h1
  have H2 := Lib.hid h2
  clear h1 h2
  go_enter Try.func40, Try.ntmps40
  go_upto_region 5 with fail
  refine wp_world ?_
  intro W hW
  have hbW : Below w.heap.size w W := by rw [hW]; exact (Below.refl _ w).alloc (Nat.le_refl _) _
  have x5 : Box W w.heap.size (keyC k) := by rw [hW]; exact Box.new w (keyC k) _ _ rfl
  clear hW
  have HBW := Lib.hid hbW
  have HX5 := Lib.hid x5
  have hbx : Box W B [.slice ao l.length cap] := HBX.out.below hbW HBX.out.lt
  have HBX1 := Lib.hid hbx
  have HBK1 := Lib.hid (HBK.out.below hbW HBK.out.lt)
  have HOW1 := Lib.hid (HOW.out.below hbW)
  have hp1 := H1.out.below hbW
  have hp2 := H2.out.below hbW
  have a4 : W.cell? ⟨g1, o1 + 4, none⟩ = some (.bool had1) := hp1.2 4 _ rfl
  have e4 : W.cell? ⟨g2, o2 + 4, none⟩ = some (.bool had2) := hp2.2 4 _ rfl
  have a5 : W.cell? ⟨g1, o1 + 5, none⟩ = some (.bool has1) := hp1.2 5 _ rfl
  have e5 : W.cell? ⟨g2, o2 + 5, none⟩ = some (.bool has2) := hp2.2 5 _ rfl
  have a6 : W.cell? ⟨g1, o1 + 6, none⟩ = some (.string old1.key.group) := hp1.2 6 _ rfl
  have e6 : W.cell? ⟨g2, o2 + 6, none⟩ = some (.string old2.key.group) := hp2.2 6 _ rfl
  have a7 : W.cell? ⟨g1, o1 + 7, none⟩ = some (.string old1.key.artifact) := hp1.2 7 _ rfl
  have e7 : W.cell? ⟨g2, o2 + 7, none⟩ = some (.string old2.key.artifact) := hp2.2 7 _ rfl
  have a8 : W.cell? ⟨g1, o1 + 8, none⟩ = some (.string old1.key.type) := hp1.2 8 _ rfl
  have e8 : W.cell? ⟨g2, o2 + 8, none⟩ = some (.string old2.key.type) := hp2.2 8 _ rfl
  have a9 : W.cell? ⟨g1, o1 + 9, none⟩ = some (.string old1.key.classifier) := hp1.2 9 _ rfl
  have e9 : W.cell? ⟨g2, o2 + 9, none⟩ = some (.string old2.key.classifier) := hp2.2 9 _ rfl
  have a10 : W.cell? ⟨g1, o1 + 10, none⟩ = some (.string old1.version) := hp1.2 10 _ rfl
  have e10 : W.cell? ⟨g2, o2 + 10, none⟩ = some (.string old2.version) := hp2.2 10 _ rfl
  have a11 : W.cell? ⟨g1, o1 + 11, none⟩ = some (.int .i64 old1.scope) := hp1.2 11 _ rfl
  have e11 : W.cell? ⟨g2, o2 + 11, none⟩ = some (.int .i64 old2.scope) := hp2.2 11 _ rfl
  have a12 : W.cell? ⟨g1, o1 + 12, none⟩ = some (.string new1.key.group) := hp1.2 12 _ rfl
  have e12 : W.cell? ⟨g2, o2 + 12, none⟩ = some (.string new2.key.group) := hp2.2 12 _ rfl
  have a13 : W.cell? ⟨g1, o1 + 13, none⟩ = some (.string new1.key.artifact) := hp1.2 13 _ rfl
  have e13 : W.cell? ⟨g2, o2 + 13, none⟩ = some (.string new2.key.artifact) := hp2.2 13 _ rfl
  have a14 : W.cell? ⟨g1, o1 + 14, none⟩ = some (.string new1.key.type) := hp1.2 14 _ rfl
  have e14 : W.cell? ⟨g2, o2 + 14, none⟩ = some (.string new2.key.type) := hp2.2 14 _ rfl
  have a15 : W.cell? ⟨g1, o1 + 15, none⟩ = some (.string new1.key.classifier) := hp1.2 15 _ rfl
  have e15 : W.cell? ⟨g2, o2 + 15, none⟩ = some (.string new2.key.classifier) := hp2.2 15 _ rfl
  have a16 : W.cell? ⟨g1, o1 + 16, none⟩ = some (.string new1.version) := hp1.2 16 _ rfl
  have e16 : W.cell? ⟨g2, o2 + 16, none⟩ = some (.string new2.version) := hp2.2 16 _ rfl
  have a17 : W.cell? ⟨g1, o1 + 17, none⟩ = some (.int .i64 new1.scope) := hp1.2 17 _ rfl
  have e17 : W.cell? ⟨g2, o2 + 17, none⟩ = some (.int .i64 new2.scope) := hp2.2 17 _ rfl
  have lg1 := hp1.1
  have lg2 := hp2.1
  clear hp1 hp2 x5 hbx hbW
  go_wp2_with fail
  go_quiet (fail)
  clear a4 a5 a6 a7 a8 a9 a10 a11 a12 a13 a14 a15 a16 a17 e4 e5 e6 e7 e8 e9 e10 e11 e12 e13 e14 e15 e16 e17 lg1 lg2
  have k0 := HBK1.out.cell 0 _ rfl
  have f0 := HBK1.out.free 0
  have l0 := HBK1.out.lt
  go_wp2
  go_end0
  exact ⟨rfl, JoinAt.no (HBX1.out.drewN _) (HBK1.out.drewN _) (HOW1.out.below (belowN (Below.refl _ _) _)), (belowN (HBW.out.mono (Nat.le_of_lt HBX.out.lt)) _).setCell (p := ⟨B + 1, 0, none⟩) (Nat.le_succ B) _⟩

attribute [local go_sem ↓] eqg_pinE neq_pinB in
set_option maxRecDepth 100000 in
set_option maxHeartbeats 8000000 in
theorem join_n2 (k : Key) (w : World) (B : Nat) (l : List Edit) (ok : Bool) (ho : JoinAt B w l ok) (hl : l.length ≤ 1000) (k1 k2 : Key) (had1 has1 had2 has2 : Bool) (old1 new1 old2 new2 : Pin) (g1 o1 g2 o2 : Nat) (h1 : EditAt w g1 o1 ⟨k1, had1, has1, old1, new1⟩) (h2 : EditAt w g2 o2 ⟨k2, had2, has2, old2, new2⟩) (hh : (has1 == had2) = true) (hn : pinEq new1 old2 = false) : Calls Try.prog 40 #[.agg #[.string k.group, .string k.artifact, .string k.type, .string k.classifier], .pointer (some ⟨g1, o1, none⟩), .pointer (some ⟨g2, o2, none⟩), .pointer (some ⟨B, 0, none⟩), .pointer (some ⟨B + 1, 0, none⟩)] w fun e w' => e = .returned (.tuple #[]) ∧ JoinAt B w' (l) false ∧ Below B w w' := by
  obtain ⟨v, hbx, hbk, hown⟩ := ho
  obtain ⟨ao, cap, rfl⟩ := hown.shape
  have HBX := Lib.hid hbx
  have HBK := Lib.hid hbk
  have HOW := Lib.hid hown
  have HBY : Hid ((l.length + 1) * 248 ≤ 140737488355328) := by show _ ≤ _; omega
  clear hbx hbk hown hl
  have H1 := Lib.hid h1
  have H2 := Lib.hid h2
  clear h1 h2
  go_enter Try.func40, Try.ntmps40
  go_upto_region 5 with fail
  refine wp_world ?_
  intro W hW
  have hbW : Below w.heap.size w W := by rw [hW]; exact (Below.refl _ w).alloc (Nat.le_refl _) _
  have x5 : Box W w.heap.size (keyC k) := by rw [hW]; exact Box.new w (keyC k) _ _ rfl
  clear hW
  have HBW := Lib.hid hbW
  have HX5 := Lib.hid x5
  have hbx : Box W B [.slice ao l.length cap] := HBX.out.below hbW HBX.out.lt
  have HBX1 := Lib.hid hbx
  have HBK1 := Lib.hid (HBK.out.below hbW HBK.out.lt)
  have HOW1 := Lib.hid (HOW.out.below hbW)
  have hp1 := H1.out.below hbW
  have hp2 := H2.out.below hbW
  have a4 : W.cell? ⟨g1, o1 + 4, none⟩ = some (.bool had1) := hp1.2 4 _ rfl
  have e4 : W.cell? ⟨g2, o2 + 4, none⟩ = some (.bool had2) := hp2.2 4 _ rfl
  have a5 : W.cell? ⟨g1, o1 + 5, none⟩ = some (.bool has1) := hp1.2 5 _ rfl
  have e5 : W.cell? ⟨g2, o2 + 5, none⟩ = some (.bool has2) := hp2.2 5 _ rfl
  have a6 : W.cell? ⟨g1, o1 + 6, none⟩ = some (.string old1.key.group) := hp1.2 6 _ rfl
  have e6 : W.cell? ⟨g2, o2 + 6, none⟩ = some (.string old2.key.group) := hp2.2 6 _ rfl
  have a7 : W.cell? ⟨g1, o1 + 7, none⟩ = some (.string old1.key.artifact) := hp1.2 7 _ rfl
  have e7 : W.cell? ⟨g2, o2 + 7, none⟩ = some (.string old2.key.artifact) := hp2.2 7 _ rfl
  have a8 : W.cell? ⟨g1, o1 + 8, none⟩ = some (.string old1.key.type) := hp1.2 8 _ rfl
  have e8 : W.cell? ⟨g2, o2 + 8, none⟩ = some (.string old2.key.type) := hp2.2 8 _ rfl
  have a9 : W.cell? ⟨g1, o1 + 9, none⟩ = some (.string old1.key.classifier) := hp1.2 9 _ rfl
  have e9 : W.cell? ⟨g2, o2 + 9, none⟩ = some (.string old2.key.classifier) := hp2.2 9 _ rfl
  have a10 : W.cell? ⟨g1, o1 + 10, none⟩ = some (.string old1.version) := hp1.2 10 _ rfl
  have e10 : W.cell? ⟨g2, o2 + 10, none⟩ = some (.string old2.version) := hp2.2 10 _ rfl
  have a11 : W.cell? ⟨g1, o1 + 11, none⟩ = some (.int .i64 old1.scope) := hp1.2 11 _ rfl
  have e11 : W.cell? ⟨g2, o2 + 11, none⟩ = some (.int .i64 old2.scope) := hp2.2 11 _ rfl
  have a12 : W.cell? ⟨g1, o1 + 12, none⟩ = some (.string new1.key.group) := hp1.2 12 _ rfl
  have e12 : W.cell? ⟨g2, o2 + 12, none⟩ = some (.string new2.key.group) := hp2.2 12 _ rfl
  have a13 : W.cell? ⟨g1, o1 + 13, none⟩ = some (.string new1.key.artifact) := hp1.2 13 _ rfl
  have e13 : W.cell? ⟨g2, o2 + 13, none⟩ = some (.string new2.key.artifact) := hp2.2 13 _ rfl
  have a14 : W.cell? ⟨g1, o1 + 14, none⟩ = some (.string new1.key.type) := hp1.2 14 _ rfl
  have e14 : W.cell? ⟨g2, o2 + 14, none⟩ = some (.string new2.key.type) := hp2.2 14 _ rfl
  have a15 : W.cell? ⟨g1, o1 + 15, none⟩ = some (.string new1.key.classifier) := hp1.2 15 _ rfl
  have e15 : W.cell? ⟨g2, o2 + 15, none⟩ = some (.string new2.key.classifier) := hp2.2 15 _ rfl
  have a16 : W.cell? ⟨g1, o1 + 16, none⟩ = some (.string new1.version) := hp1.2 16 _ rfl
  have e16 : W.cell? ⟨g2, o2 + 16, none⟩ = some (.string new2.version) := hp2.2 16 _ rfl
  have a17 : W.cell? ⟨g1, o1 + 17, none⟩ = some (.int .i64 new1.scope) := hp1.2 17 _ rfl
  have e17 : W.cell? ⟨g2, o2 + 17, none⟩ = some (.int .i64 new2.scope) := hp2.2 17 _ rfl
  have lg1 := hp1.1
  have lg2 := hp2.1
  clear hp1 hp2 x5 hbx hbW
  go_wp2_with fail
  go_quiet (fail)
  clear a4 a5 a6 a7 a8 a9 a10 a11 a12 a13 a14 a15 a16 a17 e4 e5 e6 e7 e8 e9 e10 e11 e12 e13 e14 e15 e16 e17 lg1 lg2
  have k0 := HBK1.out.cell 0 _ rfl
  have f0 := HBK1.out.free 0
  have l0 := HBK1.out.lt
  go_wp2
  go_end0
  exact ⟨rfl, JoinAt.no (HBX1.out.drewN _) (HBK1.out.drewN _) (HOW1.out.below (belowN (Below.refl _ _) _)), (belowN (HBW.out.mono (Nat.le_of_lt HBX.out.lt)) _).setCell (p := ⟨B + 1, 0, none⟩) (Nat.le_succ B) _⟩

attribute [local go_sem ↓] eqg_pinE neq_pinB in
set_option maxRecDepth 100000 in
set_option maxHeartbeats 8000000 in
theorem join_s (k : Key) (w : World) (B : Nat) (l : List Edit) (ok : Bool) (ho : JoinAt B w l ok) (hl : l.length ≤ 1000) (k1 k2 : Key) (had1 has1 had2 has2 : Bool) (old1 new1 old2 new2 : Pin) (g1 o1 g2 o2 : Nat) (h1 : EditAt w g1 o1 ⟨k1, had1, has1, old1, new1⟩) (h2 : EditAt w g2 o2 ⟨k2, had2, has2, old2, new2⟩) (hh : (has1 == had2) = true) (hn : pinEq new1 old2 = true) (hf : (had1 == has2) = true) (hp : pinEq old1 new2 = true) : Calls Try.prog 40 #[.agg #[.string k.group, .string k.artifact, .string k.type, .string k.classifier], .pointer (some ⟨g1, o1, none⟩), .pointer (some ⟨g2, o2, none⟩), .pointer (some ⟨B, 0, none⟩), .pointer (some ⟨B + 1, 0, none⟩)] w fun e w' => e = .returned (.tuple #[]) ∧ JoinAt B w' (l) ok ∧ Below B w w' := by
  obtain ⟨v, hbx, hbk, hown⟩ := ho
  obtain ⟨ao, cap, rfl⟩ := hown.shape
  have HBX := Lib.hid hbx
  have HBK := Lib.hid hbk
  have HOW := Lib.hid hown
  have HBY : Hid ((l.length + 1) * 248 ≤ 140737488355328) := by show _ ≤ _; omega
  clear hbx hbk hown hl
  have H1 := Lib.hid h1
  have H2 := Lib.hid h2
  clear h1 h2
  go_enter Try.func40, Try.ntmps40
  go_upto_region 5 with fail
  refine wp_world ?_
  intro W hW
  have hbW : Below w.heap.size w W := by rw [hW]; exact (Below.refl _ w).alloc (Nat.le_refl _) _
  have x5 : Box W w.heap.size (keyC k) := by rw [hW]; exact Box.new w (keyC k) _ _ rfl
  clear hW
  have HBW := Lib.hid hbW
  have HX5 := Lib.hid x5
  have hbx : Box W B [.slice ao l.length cap] := HBX.out.below hbW HBX.out.lt
  have HBX1 := Lib.hid hbx
  have HBK1 := Lib.hid (HBK.out.below hbW HBK.out.lt)
  have HOW1 := Lib.hid (HOW.out.below hbW)
  have hp1 := H1.out.below hbW
  have hp2 := H2.out.below hbW
  have a4 : W.cell? ⟨g1, o1 + 4, none⟩ = some (.bool had1) := hp1.2 4 _ rfl
  have e4 : W.cell? ⟨g2, o2 + 4, none⟩ = some (.bool had2) := hp2.2 4 _ rfl
  have a5 : W.cell? ⟨g1, o1 + 5, none⟩ = some (.bool has1) := hp1.2 5 _ rfl
  have e5 : W.cell? ⟨g2, o2 + 5, none⟩ = some (.bool has2) := hp2.2 5 _ rfl
  have a6 : W.cell? ⟨g1, o1 + 6, none⟩ = some (.string old1.key.group) := hp1.2 6 _ rfl
  have e6 : W.cell? ⟨g2, o2 + 6, none⟩ = some (.string old2.key.group) := hp2.2 6 _ rfl
  have a7 : W.cell? ⟨g1, o1 + 7, none⟩ = some (.string old1.key.artifact) := hp1.2 7 _ rfl
  have e7 : W.cell? ⟨g2, o2 + 7, none⟩ = some (.string old2.key.artifact) := hp2.2 7 _ rfl
  have a8 : W.cell? ⟨g1, o1 + 8, none⟩ = some (.string old1.key.type) := hp1.2 8 _ rfl
  have e8 : W.cell? ⟨g2, o2 + 8, none⟩ = some (.string old2.key.type) := hp2.2 8 _ rfl
  have a9 : W.cell? ⟨g1, o1 + 9, none⟩ = some (.string old1.key.classifier) := hp1.2 9 _ rfl
  have e9 : W.cell? ⟨g2, o2 + 9, none⟩ = some (.string old2.key.classifier) := hp2.2 9 _ rfl
  have a10 : W.cell? ⟨g1, o1 + 10, none⟩ = some (.string old1.version) := hp1.2 10 _ rfl
  have e10 : W.cell? ⟨g2, o2 + 10, none⟩ = some (.string old2.version) := hp2.2 10 _ rfl
  have a11 : W.cell? ⟨g1, o1 + 11, none⟩ = some (.int .i64 old1.scope) := hp1.2 11 _ rfl
  have e11 : W.cell? ⟨g2, o2 + 11, none⟩ = some (.int .i64 old2.scope) := hp2.2 11 _ rfl
  have a12 : W.cell? ⟨g1, o1 + 12, none⟩ = some (.string new1.key.group) := hp1.2 12 _ rfl
  have e12 : W.cell? ⟨g2, o2 + 12, none⟩ = some (.string new2.key.group) := hp2.2 12 _ rfl
  have a13 : W.cell? ⟨g1, o1 + 13, none⟩ = some (.string new1.key.artifact) := hp1.2 13 _ rfl
  have e13 : W.cell? ⟨g2, o2 + 13, none⟩ = some (.string new2.key.artifact) := hp2.2 13 _ rfl
  have a14 : W.cell? ⟨g1, o1 + 14, none⟩ = some (.string new1.key.type) := hp1.2 14 _ rfl
  have e14 : W.cell? ⟨g2, o2 + 14, none⟩ = some (.string new2.key.type) := hp2.2 14 _ rfl
  have a15 : W.cell? ⟨g1, o1 + 15, none⟩ = some (.string new1.key.classifier) := hp1.2 15 _ rfl
  have e15 : W.cell? ⟨g2, o2 + 15, none⟩ = some (.string new2.key.classifier) := hp2.2 15 _ rfl
  have a16 : W.cell? ⟨g1, o1 + 16, none⟩ = some (.string new1.version) := hp1.2 16 _ rfl
  have e16 : W.cell? ⟨g2, o2 + 16, none⟩ = some (.string new2.version) := hp2.2 16 _ rfl
  have a17 : W.cell? ⟨g1, o1 + 17, none⟩ = some (.int .i64 new1.scope) := hp1.2 17 _ rfl
  have e17 : W.cell? ⟨g2, o2 + 17, none⟩ = some (.int .i64 new2.scope) := hp2.2 17 _ rfl
  have lg1 := hp1.1
  have lg2 := hp2.1
  clear hp1 hp2 x5 hbx hbW
  go_quiet (fail)
  go_wp2_with fail
  go_quiet (fail)
  clear a4 a5 a6 a7 a8 a9 a10 a11 a12 a13 a14 a15 a16 a17 e4 e5 e6 e7 e8 e9 e10 e11 e12 e13 e14 e15 e16 e17 lg1 lg2
  go_wp2
  go_end0
  exact ⟨rfl, ⟨_, (HBX1.out.drewN _).drewN _, (HBK1.out.drewN _).drewN _, (HOW1.out.below (belowN (Below.refl _ _) _)).below (belowN (Below.refl _ _) _)⟩, belowN (belowN (HBW.out.mono (Nat.le_of_lt HBX.out.lt)) _) _⟩

end Go.Proofs.Ytmcjpmogjmnfpaa
