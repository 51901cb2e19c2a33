/- Walks: the closure of diff.Edits; the conditions stand in the theorems. -/
import Derived.Test.YtmcjpmogjmnfpaaL5n
import Derived.Test.YtmcjpmogjmnfpaaL5b
import Derived.Test.YtmcjpmogjmnfpaaL6
import Derived.Deep.AppendLies
namespace Go.Proofs.Ytmcjpmogjmnfpaa
open Go Go.RowKit

theorem info_edit : (Try.prog.info? 46).map (fun i => (i.zero, i.size, i.bytes)) = some (some (.agg #[.string ⟨#[]⟩, .string ⟨#[]⟩, .string ⟨#[]⟩, .string ⟨#[]⟩, .bool false, .bool false, .string ⟨#[]⟩, .string ⟨#[]⟩, .string ⟨#[]⟩, .string ⟨#[]⟩, .string ⟨#[]⟩, .int .i64 0, .string ⟨#[]⟩, .string ⟨#[]⟩, .string ⟨#[]⟩, .string ⟨#[]⟩, .string ⟨#[]⟩, .int .i64 0]), 18, 248) := by kernel_rfl
theorem step_append_one {P : Program} {ops : Array Oper} {o : Oper} {a : Act} {w : World} {K : Act → World → Prop} {Q : Exit → Act → World → Prop} {E : Prop} {α : Type} {C : α → List Value} (hgd : o.guard = none) (s x : Operand) (t : TypeId)
    (ho : o.op = .call { callee := .builtin .append, args := #[s, x], argTypes := #[t, t] })
    (base : Nat) (e : TypeId) {z : Value} {size bytes : Nat} (ht : P.underlying t = some (.slice e)) (hinfo : (P.info? e).map (fun i => (i.zero, i.size, i.bytes)) = some (some z, size, bytes)) (hzs : z.cells.size = size) (hsz : 0 < size) (hC : ∀ y, (C y).length = size)
    (v : Value) (l : List α) (hs : a.eval s = v) (hown : Owns base e size C w v l) (H : Nat) (y : α) (hx : a.eval x = .slice (some ⟨H, 0, none⟩) 1 1) (hnews : ∀ j u, (C y)[j]? = some u → w.cell? ⟨H, j, none⟩ = some u) (h1 : ∀ u ∈ C y, u.oneCell' = true)
    (hbytes : (l.length + 1) * bytes ≤ 140737488355328) (hb0 : 0 < bytes) (hbase : base ≤ w.heap.size) (N : Nat) (hN : w.heap.size = N)
    (h : ∀ g cap w', Owns base e size C w' (.slice (some ⟨g, 0, none⟩) (l.length + 1) cap) (l ++ [y]) → w.grownBy w' v.ownBlock → (v.ownBlock = some g ∨ g = N) → g < w'.heap.size → K (a.put o.dst (.slice (some ⟨g, 0, none⟩) (l.length + 1) cap)) w') :
    if Region.wanted o (yielded ops a.tmps) = true then Oper.wp P o a w K Q else E := by
  have hlen63 : l.length + 1 ≤ maxLen := by
    have : l.length + 1 ≤ (l.length + 1) * bytes := Nat.le_mul_of_pos_right _ hb0
    unfold maxLen; omega
  obtain ⟨i, hi, hz, hsize, hby⟩ := info_parts hinfo
  refine step_append_lies w hgd s x t ho base e i z size bytes ht hi hz hsize hby hzs hsz v l.length (l.flatMap C) hs hown ⟨H, 0, none⟩ 1 1 (C y) hx (by rw [hC]; simp) (fun j u hu => by rw [Addr.add_lit, Nat.zero_add]; exact hnews j u hu) h1 (by decide) hlen63 hbytes hbase N hN ?_
  intro g cap w' h2 h3 h4 h5
  refine h g cap w' ?_ h3 h4 h5
  unfold Owns
  rw [List.length_append, List.flatMap_append]
  simpa using h2
/-- The edits that were put down so far: the slice lies in block B. -/
def OutAt (B : Nat) (w : World) (l : List Edit) : Prop := ∃ v, Box w B [v] ∧ Owns (B + 1) 46 18 editC w v l
theorem Owns.drew {α : Type} {base : Nat} {E : TypeId} {n : Nat} {C : α → List Value} {w : World} {v : Value} {l : List α} (h : Owns base E n C w v l) : Owns base E n C w.drew v l := h
theorem out_box {B : Nat} {w1 w8 : World} {v : Value} {l : List Edit} (hbx : Box w1 B [v]) (hown : Owns (B + 1) 46 18 editC w1 v l) (hg : w1.grownBy w8 v.ownBlock) : Box w8 B [v] :=
  hbx.grown hg fun e => by have := (hown.lt B e.symm).1; omega
theorem Box.drewN' {w : World} {b : Nat} {cs : List Value} (h : Box w b cs) (k : Nat) : Box (w.drewN k) b cs := ⟨h.lt, h.cell, h.free⟩
def pinEq (p q : Pin) : Bool := decide (p = q)
theorem neq_pinB (p q : Pin) (w : World) : (binOp .neq 44 (.agg #[.string p.key.group, .string p.key.artifact, .string p.key.type, .string p.key.classifier, .string p.version, .int .i64 p.scope]) (.agg #[.string q.key.group, .string q.key.artifact, .string q.key.type, .string q.key.classifier, .string q.version, .int .i64 q.scope])).run Try.prog w = .ok (.bool (!pinEq p q)) w := by
  have h := eqs_pinE
  obtain ⟨⟨a0, a1, a2, a3⟩, a4, a5⟩ := p
  obtain ⟨⟨b0, b1, b2, b3⟩, b4, b5⟩ := q
  unfold pinEq
  simp [go_sem, h, toList_iff]
  by_cases h0 : a0 = b0 <;> by_cases h1 : a1 = b1 <;> by_cases h2 : a2 = b2 <;> by_cases h3 : a3 = b3 <;> by_cases h4 : a4 = b4 <;> by_cases h5 : a5 = b5 <;> simp [h0, h1, h2, h3, h4, h5]
theorem OutAt.below {B : Nat} {w w' : World} {l : List Edit} (h : OutAt B w l) (hb : Below w.heap.size w w') : OutAt B w' l := by
  obtain ⟨v, h1, h2⟩ := h
  exact ⟨v, h1.below hb h1.lt, h2.below hb⟩
theorem OutAt.lt {B : Nat} {w : World} {l : List Edit} (h : OutAt B w l) : B < w.heap.size := by
  obtain ⟨v, h1, h2⟩ := h
  exact h1.lt
def oneEdit (e : Edit) : List Edit := [e]
theorem OutAt.push {B : Nat} {w1 w8 : World} {v v8 : Value} {l : List Edit} {e : Edit} (hbx : Box w1 B [v]) (hown : Owns (B + 1) 46 18 editC w1 v l) (hg : w1.grownBy w8 v.ownBlock) (h8 : Owns (B + 1) 46 18 editC w8 v8 (l ++ [e])) :
    OutAt B (w8.setCell ⟨B, 0, none⟩ v8) (l ++ [e]) ∧ Below B w1 (w8.setCell ⟨B, 0, none⟩ v8) := by
  have hne : some B ≠ v.ownBlock := fun e => by have := (hown.lt B e.symm).1; omega
  have hb8 := hbx.grown hg hne
  refine ⟨⟨v8, hb8.set 0 v8, h8.keptR (setCell_grown _ _ _ _) (by omega)⟩, ?_⟩
  refine Below.trans (b := w8) ⟨hg.os, hg.tape, hg.output, hg.size, fun k hk => hg.block k (Nat.lt_trans hk hbx.lt) fun e => ?_⟩ (((Below.refl B w8).setCell (p := ⟨B, 0, none⟩) (Nat.le_refl B) _))
  have := (hown.lt k e.symm).1
  omega

set_option maxRecDepth 100000 in
set_option maxHeartbeats 8000000 in
theorem clo_old (k : Key) (w : World) (B : Nat) (l : List Edit) (ho : OutAt B w l) (hl : l.length ≤ 1000) (p : Pin) (g1 o1 : Nat) (h1 : PinAt w g1 o1 p) : Calls Try.prog 26 #[.agg #[.string k.group, .string k.artifact, .string k.type, .string k.classifier], .pointer (some ⟨g1, o1, none⟩), .pointer none, .pointer (some ⟨B, 0, none⟩)] w fun e w' => e = .returned (.tuple #[]) ∧ OutAt B w' (l ++ [(editOf k (some p) none)]) ∧ Below B w w' := by
  obtain ⟨v, hbx, hown⟩ := ho
  obtain ⟨ao, cap, rfl⟩ := hown.shape
  have HBX := Lib.hid hbx
  have HOW := Lib.hid hown
  have HBL := Lib.hid hl
  have HP1 : Hid (∀ W, Below w.heap.size w W → PinAt W g1 o1 p) := fun W hb => h1.below hb
  clear hbx hown hl h1
  go_enter Try.func26, Try.ntmps26
  go_wp2
  go_quiet (fail)
  go_wp2_with fail
  refine wp_world ?_
  intro W hW
  have hbW : Below w.heap.size w W := by rw [hW]; exact belowN ((Below.refl _ w).alloc (Nat.le_refl _) _) _
  have x4 : Box W w.heap.size [.string k.group, .string k.artifact, .string k.type, .string k.classifier] := by rw [hW]; exact (Box.new w _ _ _ rfl).drewN _
  clear hW
  have hbx : Box W B [.slice ao l.length cap] := HBX.out.below hbW HBX.out.lt
  have c0 := hbx.cell 0 _ rfl
  have f0 := hbx.free 0
  have l0 := hbx.lt
  have y0 := x4.cell 0 _ rfl
  have y1 := x4.cell 1 _ rfl
  have y2 := x4.cell 2 _ rfl
  have y3 := x4.cell 3 _ rfl
  have HBX1 := Lib.hid hbx
  have HOW1 := Lib.hid (HOW.out.below hbW)
  have HBW := Lib.hid hbW
  have HCE : Hid (∀ (W1 : World), Below w.heap.size w W1 → Calls Try.prog 27 #[.agg #[.string k.group, .string k.artifact, .string k.type, .string k.classifier], .pointer (some ⟨g1, o1, none⟩), .pointer none] W1 fun e w' => e = .returned (.agg #[.string k.group, .string k.artifact, .string k.type, .string k.classifier, .bool true, .bool false, .string p.key.group, .string p.key.artifact, .string p.key.type, .string p.key.classifier, .string p.version, .int .i64 p.scope, .string ⟨#[]⟩, .string ⟨#[]⟩, .string ⟨#[]⟩, .string ⟨#[]⟩, .string ⟨#[]⟩, .int .i64 0]) ∧ Below W1.heap.size W1 w') := fun (W1 : World) (hb : Below w.heap.size w W1) => edit_old k W1 p g1 o1 (HP1.out _ hb)
  clear x4 hbW hbx
  have HBY : Hid ((l.length + 1) * 248 ≤ 140737488355328) := by have := HBL.out; show _ ≤ _; omega
  have HNW : Hid (∀ (w1 : World) j u, (editC (editOf k (some p) none))[j]? = some u → (w1.alloc (.cells (editC (editOf k (some p) none)).toArray 46)).cell? ⟨w1.heap.size, j, none⟩ = some u) := fun w1 j u hu => (Box.new w1 (editC (editOf k (some p) none)) 46 _ rfl).cell j u hu
  go_region_law (first | (refine step_append_one rfl (.tmp 22) (.tmp 27) 29 rfl (B + 1) 46 Try.underlying29 info_edit rfl (by decide) editC_len (.slice ao l.length cap) l (by simp [Act.eval]) (HO1.out.alloc _) w1.heap.size (editOf k (some p) none) (by simp [Act.eval]) (HNW.out w1) editC_one HBY.out (by decide) (by simp; have := HX1.out.lt; omega) (w1.heap.size + 1) (by simp) ?_; intro g8 cap8 w8 hown8 hgrow8 hat8 hlt8; have b8 := out_box (HX1.out.alloc _) (HO1.out.alloc _) hgrow8; have c8 := b8.cell 0 _ rfl; have f8 := b8.free 0; have l8 := b8.lt; have HP := Lib.hid (OutAt.push (HX1.out.alloc _) (HO1.out.alloc _) hgrow8 hown8); have HL := Lib.hid (HX1.out.lt); clear b8 hown8 hgrow8 hat8 hlt8) | (go_simp; go_at_call 27; refine (HCE.out _ (belowN HBW.out 1)).mono ?_; rintro e w1 ⟨rfl, hb1⟩; have x1 : Box w1 B [.slice ao l.length cap] := HBX1.out.drew.below hb1 HBX1.out.lt; have c1 := x1.cell 0 _ rfl; have l1 := x1.lt; have HX1 := Lib.hid x1; have HO1 := Lib.hid (HOW1.out.drew.below hb1); have HB1 := Lib.hid hb1; clear x1 hb1))
  all_goals (go_end0; exact ⟨rfl, HP.out.1, (HBW.out.mono (Nat.le_of_lt HBX.out.lt)).trans ((belowN (Below.refl B W) 1).trans ((HB1.out.mono (Nat.le_of_lt (HBX1.out.lt))).trans (((Below.refl B w1).alloc (Nat.le_of_lt HX1.out.lt) _).trans HP.out.2)))⟩)

set_option maxRecDepth 100000 in
set_option maxHeartbeats 8000000 in
theorem clo_new (k : Key) (w : World) (B : Nat) (l : List Edit) (ho : OutAt B w l) (hl : l.length ≤ 1000) (q : Pin) (g2 o2 : Nat) (h2 : PinAt w g2 o2 q) : Calls Try.prog 26 #[.agg #[.string k.group, .string k.artifact, .string k.type, .string k.classifier], .pointer none, .pointer (some ⟨g2, o2, none⟩), .pointer (some ⟨B, 0, none⟩)] w fun e w' => e = .returned (.tuple #[]) ∧ OutAt B w' (l ++ [(editOf k none (some q))]) ∧ Below B w w' := by
  obtain ⟨v, hbx, hown⟩ := ho
  obtain ⟨ao, cap, rfl⟩ := hown.shape
  have HBX := Lib.hid hbx
  have HOW := Lib.hid hown
  have HBL := Lib.hid hl
  have HP2 : Hid (∀ W, Below w.heap.size w W → PinAt W g2 o2 q) := fun W hb => h2.below hb
  clear hbx hown hl h2
  go_enter Try.func26, Try.ntmps26
  go_wp2
  go_quiet (fail)
  go_wp2_with fail
  refine wp_world ?_
  intro W hW
  have hbW : Below w.heap.size w W := by rw [hW]; exact belowN ((Below.refl _ w).alloc (Nat.le_refl _) _) _
  have x4 : Box W w.heap.size [.string k.group, .string k.artifact, .string k.type, .string k.classifier] := by rw [hW]; exact (Box.new w _ _ _ rfl).drewN _
  clear hW
  have hbx : Box W B [.slice ao l.length cap] := HBX.out.below hbW HBX.out.lt
  have c0 := hbx.cell 0 _ rfl
  have f0 := hbx.free 0
  have l0 := hbx.lt
  have y0 := x4.cell 0 _ rfl
  have y1 := x4.cell 1 _ rfl
  have y2 := x4.cell 2 _ rfl
  have y3 := x4.cell 3 _ rfl
  have HBX1 := Lib.hid hbx
  have HOW1 := Lib.hid (HOW.out.below hbW)
  have HBW := Lib.hid hbW
  have HCE : Hid (∀ (W1 : World), Below w.heap.size w W1 → Calls Try.prog 27 #[.agg #[.string k.group, .string k.artifact, .string k.type, .string k.classifier], .pointer none, .pointer (some ⟨g2, o2, none⟩)] W1 fun e w' => e = .returned (.agg #[.string k.group, .string k.artifact, .string k.type, .string k.classifier, .bool false, .bool true, .string ⟨#[]⟩, .string ⟨#[]⟩, .string ⟨#[]⟩, .string ⟨#[]⟩, .string ⟨#[]⟩, .int .i64 0, .string q.key.group, .string q.key.artifact, .string q.key.type, .string q.key.classifier, .string q.version, .int .i64 q.scope]) ∧ Below W1.heap.size W1 w') := fun (W1 : World) (hb : Below w.heap.size w W1) => edit_new k W1 q g2 o2 (HP2.out _ hb)
  clear x4 hbW hbx
  have HBY : Hid ((l.length + 1) * 248 ≤ 140737488355328) := by have := HBL.out; show _ ≤ _; omega
  have HNW : Hid (∀ (w1 : World) j u, (editC (editOf k none (some q)))[j]? = some u → (w1.alloc (.cells (editC (editOf k none (some q))).toArray 46)).cell? ⟨w1.heap.size, j, none⟩ = some u) := fun w1 j u hu => (Box.new w1 (editC (editOf k none (some q))) 46 _ rfl).cell j u hu
  go_region_law (first | (refine step_append_one rfl (.tmp 22) (.tmp 27) 29 rfl (B + 1) 46 Try.underlying29 info_edit rfl (by decide) editC_len (.slice ao l.length cap) l (by simp [Act.eval]) (HO1.out.alloc _) w1.heap.size (editOf k none (some q)) (by simp [Act.eval]) (HNW.out w1) editC_one HBY.out (by decide) (by simp; have := HX1.out.lt; omega) (w1.heap.size + 1) (by simp) ?_; intro g8 cap8 w8 hown8 hgrow8 hat8 hlt8; have b8 := out_box (HX1.out.alloc _) (HO1.out.alloc _) hgrow8; have c8 := b8.cell 0 _ rfl; have f8 := b8.free 0; have l8 := b8.lt; have HP := Lib.hid (OutAt.push (HX1.out.alloc _) (HO1.out.alloc _) hgrow8 hown8); have HL := Lib.hid (HX1.out.lt); clear b8 hown8 hgrow8 hat8 hlt8) | (go_simp; go_at_call 27; refine (HCE.out _ (belowN HBW.out 1)).mono ?_; rintro e w1 ⟨rfl, hb1⟩; have x1 : Box w1 B [.slice ao l.length cap] := HBX1.out.drew.below hb1 HBX1.out.lt; have c1 := x1.cell 0 _ rfl; have l1 := x1.lt; have HX1 := Lib.hid x1; have HO1 := Lib.hid (HOW1.out.drew.below hb1); have HB1 := Lib.hid hb1; clear x1 hb1))
  all_goals (go_end0; exact ⟨rfl, HP.out.1, (HBW.out.mono (Nat.le_of_lt HBX.out.lt)).trans ((belowN (Below.refl B W) 1).trans ((HB1.out.mono (Nat.le_of_lt (HBX1.out.lt))).trans (((Below.refl B w1).alloc (Nat.le_of_lt HX1.out.lt) _).trans HP.out.2)))⟩)

attribute [local go_sem ↓] eqg_pinE neq_pinB in
set_option maxRecDepth 100000 in
set_option maxHeartbeats 8000000 in
theorem clo_both (k : Key) (w : World) (B : Nat) (l : List Edit) (ho : OutAt B w l) (hl : l.length ≤ 1000) (p : Pin) (g1 o1 : Nat) (h1 : PinAt w g1 o1 p) (q : Pin) (g2 o2 : Nat) (h2 : PinAt w g2 o2 q) (hpq : p ≠ q) : Calls Try.prog 26 #[.agg #[.string k.group, .string k.artifact, .string k.type, .string k.classifier], .pointer (some ⟨g1, o1, none⟩), .pointer (some ⟨g2, o2, none⟩), .pointer (some ⟨B, 0, none⟩)] w fun e w' => e = .returned (.tuple #[]) ∧ OutAt B w' (l ++ [(editOf k (some p) (some q))]) ∧ Below B w w' := by
  obtain ⟨v, hbx, hown⟩ := ho
  obtain ⟨ao, cap, rfl⟩ := hown.shape
  have HBX := Lib.hid hbx
  have HOW := Lib.hid hown
  have HBL := Lib.hid hl
  have HP1 : Hid (∀ W, Below w.heap.size w W → PinAt W g1 o1 p) := fun W hb => h1.below hb
  have HP2 : Hid (∀ W, Below w.heap.size w W → PinAt W g2 o2 q) := fun W hb => h2.below hb
  clear hbx hown hl h1 h2
  go_enter Try.func26, Try.ntmps26
  have hd : pinEq p q = false := decide_eq_false hpq
  go_wp2_with fail
  refine wp_world ?_
  intro V hV
  have hV1 : Below w.heap.size w V := by rw [hV]; exact (Below.refl _ w).alloc (Nat.le_refl _) _
  have hV2 : Box V w.heap.size [.string k.group, .string k.artifact, .string k.type, .string k.classifier] := by rw [hV]; exact Box.new w _ _ _ rfl
  clear hV
  have hp1 := HP1.out _ hV1
  have hp2 := HP2.out _ hV1
  have a0 : V.cell? ⟨g1, o1, none⟩ = some (.string p.key.group) := by simpa using hp1.2 0 _ rfl
  have e0 : V.cell? ⟨g2, o2, none⟩ = some (.string q.key.group) := by simpa using hp2.2 0 _ rfl
  have a1 : V.cell? ⟨g1, o1 + 1, none⟩ = some (.string p.key.artifact) := hp1.2 1 _ rfl
  have a2 : V.cell? ⟨g1, o1 + 2, none⟩ = some (.string p.key.type) := hp1.2 2 _ rfl
  have a3 : V.cell? ⟨g1, o1 + 3, none⟩ = some (.string p.key.classifier) := hp1.2 3 _ rfl
  have a4 : V.cell? ⟨g1, o1 + 4, none⟩ = some (.string p.version) := hp1.2 4 _ rfl
  have a5 : V.cell? ⟨g1, o1 + 5, none⟩ = some (.int .i64 p.scope) := hp1.2 5 _ rfl
  have e1 : V.cell? ⟨g2, o2 + 1, none⟩ = some (.string q.key.artifact) := hp2.2 1 _ rfl
  have e2 : V.cell? ⟨g2, o2 + 2, none⟩ = some (.string q.key.type) := hp2.2 2 _ rfl
  have e3 : V.cell? ⟨g2, o2 + 3, none⟩ = some (.string q.key.classifier) := hp2.2 3 _ rfl
  have e4 : V.cell? ⟨g2, o2 + 4, none⟩ = some (.string q.version) := hp2.2 4 _ rfl
  have e5 : V.cell? ⟨g2, o2 + 5, none⟩ = some (.int .i64 q.scope) := hp2.2 5 _ rfl
  have HV1 := Lib.hid hV1
  have HV2 := Lib.hid hV2
  clear hV1 hV2 hp1 hp2
  go_quiet (fail)
  clear a0 a1 a2 a3 a4 a5 e0 e1 e2 e3 e4 e5 hd
  go_wp2_with fail
  refine wp_world ?_
  intro W hW
  have hbW : Below w.heap.size w W := by rw [hW]; exact belowN HV1.out _
  have x4 : Box W w.heap.size [.string k.group, .string k.artifact, .string k.type, .string k.classifier] := by rw [hW]; exact HV2.out.drewN _
  clear hW
  have hbx : Box W B [.slice ao l.length cap] := HBX.out.below hbW HBX.out.lt
  have c0 := hbx.cell 0 _ rfl
  have f0 := hbx.free 0
  have l0 := hbx.lt
  have y0 := x4.cell 0 _ rfl
  have y1 := x4.cell 1 _ rfl
  have y2 := x4.cell 2 _ rfl
  have y3 := x4.cell 3 _ rfl
  have HBX1 := Lib.hid hbx
  have HOW1 := Lib.hid (HOW.out.below hbW)
  have HBW := Lib.hid hbW
  have HCE : Hid (∀ (W1 : World), Below w.heap.size w W1 → Calls Try.prog 27 #[.agg #[.string k.group, .string k.artifact, .string k.type, .string k.classifier], .pointer (some ⟨g1, o1, none⟩), .pointer (some ⟨g2, o2, none⟩)] W1 fun e w' => e = .returned (.agg #[.string k.group, .string k.artifact, .string k.type, .string k.classifier, .bool true, .bool true, .string p.key.group, .string p.key.artifact, .string p.key.type, .string p.key.classifier, .string p.version, .int .i64 p.scope, .string q.key.group, .string q.key.artifact, .string q.key.type, .string q.key.classifier, .string q.version, .int .i64 q.scope]) ∧ Below W1.heap.size W1 w') := fun (W1 : World) (hb : Below w.heap.size w W1) => edit_both k W1 p g1 o1 (HP1.out _ hb) q g2 o2 (HP2.out _ hb)
  clear x4 hbW hbx
  have HBY : Hid ((l.length + 1) * 248 ≤ 140737488355328) := by have := HBL.out; show _ ≤ _; omega
  have HNW : Hid (∀ (w1 : World) j u, (editC (editOf k (some p) (some q)))[j]? = some u → (w1.alloc (.cells (editC (editOf k (some p) (some q))).toArray 46)).cell? ⟨w1.heap.size, j, none⟩ = some u) := fun w1 j u hu => (Box.new w1 (editC (editOf k (some p) (some q))) 46 _ rfl).cell j u hu
  go_region_law (first | (refine step_append_one rfl (.tmp 22) (.tmp 27) 29 rfl (B + 1) 46 Try.underlying29 info_edit rfl (by decide) editC_len (.slice ao l.length cap) l (by simp [Act.eval]) (HO1.out.alloc _) w1.heap.size (editOf k (some p) (some q)) (by simp [Act.eval]) (HNW.out w1) editC_one HBY.out (by decide) (by simp; have := HX1.out.lt; omega) (w1.heap.size + 1) (by simp) ?_; intro g8 cap8 w8 hown8 hgrow8 hat8 hlt8; have b8 := out_box (HX1.out.alloc _) (HO1.out.alloc _) hgrow8; have c8 := b8.cell 0 _ rfl; have f8 := b8.free 0; have l8 := b8.lt; have HP := Lib.hid (OutAt.push (HX1.out.alloc _) (HO1.out.alloc _) hgrow8 hown8); have HL := Lib.hid (HX1.out.lt); clear b8 hown8 hgrow8 hat8 hlt8) | (go_simp; go_at_call 27; refine (HCE.out _ (belowN HBW.out 1)).mono ?_; rintro e w1 ⟨rfl, hb1⟩; have x1 : Box w1 B [.slice ao l.length cap] := HBX1.out.drew.below hb1 HBX1.out.lt; have c1 := x1.cell 0 _ rfl; have l1 := x1.lt; have HX1 := Lib.hid x1; have HO1 := Lib.hid (HOW1.out.drew.below hb1); have HB1 := Lib.hid hb1; clear x1 hb1))
  all_goals (go_end0; exact ⟨rfl, HP.out.1, (HBW.out.mono (Nat.le_of_lt HBX.out.lt)).trans ((belowN (Below.refl B W) 1).trans ((HB1.out.mono (Nat.le_of_lt (HBX1.out.lt))).trans (((Below.refl B w1).alloc (Nat.le_of_lt HX1.out.lt) _).trans HP.out.2)))⟩)

attribute [local go_sem ↓] eqg_pinE neq_pinB in
set_option maxRecDepth 100000 in
set_option maxHeartbeats 8000000 in
theorem clo_same (k : Key) (w : World) (B : Nat) (l : List Edit) (ho : OutAt B w l) (q : Pin) (g1 o1 : Nat) (h1 : PinAt w g1 o1 q) (g2 o2 : Nat) (h2 : PinAt w g2 o2 q) : Calls Try.prog 26 #[.agg #[.string k.group, .string k.artifact, .string k.type, .string k.classifier], .pointer (some ⟨g1, o1, none⟩), .pointer (some ⟨g2, o2, none⟩), .pointer (some ⟨B, 0, none⟩)] w fun e w' => e = .returned (.tuple #[]) ∧ OutAt B w' l ∧ Below B w w' := by
  have HO := Lib.hid ho
  have HP1 : Hid (∀ W, Below w.heap.size w W → PinAt W g1 o1 q) := fun W hb => h1.below hb
  have HP2 : Hid (∀ W, Below w.heap.size w W → PinAt W g2 o2 q) := fun W hb => h2.below hb
  clear ho h1 h2
  go_enter Try.func26, Try.ntmps26
  have hd : pinEq q q = true := decide_eq_true rfl
  go_wp2_with fail
  refine wp_world ?_
  intro V hV
  have hV1 : Below w.heap.size w V := by rw [hV]; exact (Below.refl _ w).alloc (Nat.le_refl _) _
  have hV2 : Box V w.heap.size [.string k.group, .string k.artifact, .string k.type, .string k.classifier] := by rw [hV]; exact Box.new w _ _ _ rfl
  clear hV
  have hp1 := HP1.out _ hV1
  have hp2 := HP2.out _ hV1
  have a0 : V.cell? ⟨g1, o1, none⟩ = some (.string q.key.group) := by simpa using hp1.2 0 _ rfl
  have e0 : V.cell? ⟨g2, o2, none⟩ = some (.string q.key.group) := by simpa using hp2.2 0 _ rfl
  have a1 : V.cell? ⟨g1, o1 + 1, none⟩ = some (.string q.key.artifact) := hp1.2 1 _ rfl
  have a2 : V.cell? ⟨g1, o1 + 2, none⟩ = some (.string q.key.type) := hp1.2 2 _ rfl
  have a3 : V.cell? ⟨g1, o1 + 3, none⟩ = some (.string q.key.classifier) := hp1.2 3 _ rfl
  have a4 : V.cell? ⟨g1, o1 + 4, none⟩ = some (.string q.version) := hp1.2 4 _ rfl
  have a5 : V.cell? ⟨g1, o1 + 5, none⟩ = some (.int .i64 q.scope) := hp1.2 5 _ rfl
  have e1 : V.cell? ⟨g2, o2 + 1, none⟩ = some (.string q.key.artifact) := hp2.2 1 _ rfl
  have e2 : V.cell? ⟨g2, o2 + 2, none⟩ = some (.string q.key.type) := hp2.2 2 _ rfl
  have e3 : V.cell? ⟨g2, o2 + 3, none⟩ = some (.string q.key.classifier) := hp2.2 3 _ rfl
  have e4 : V.cell? ⟨g2, o2 + 4, none⟩ = some (.string q.version) := hp2.2 4 _ rfl
  have e5 : V.cell? ⟨g2, o2 + 5, none⟩ = some (.int .i64 q.scope) := hp2.2 5 _ rfl
  have HV1 := Lib.hid hV1
  have HV2 := Lib.hid hV2
  clear hV1 hV2 hp1 hp2
  go_quiet (fail)
  clear a0 a1 a2 a3 a4 a5 e0 e1 e2 e3 e4 e5 hd
  go_wp2
  go_end0
  exact ⟨rfl, HO.out.below (belowN HV1.out _), belowN (HV1.out.mono (Nat.le_of_lt HO.out.lt)) _⟩

end Go.Proofs.Ytmcjpmogjmnfpaa
