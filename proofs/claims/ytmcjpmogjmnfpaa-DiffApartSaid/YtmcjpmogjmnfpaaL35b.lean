/- Walks: the closure of diff.Join where it puts down an edit made of two; the conditions stand in the theorems. -/
import Derived.Test.YtmcjpmogjmnfpaaL35
import Derived.Test.YtmcjpmogjmnfpaaG2
namespace Go.Proofs.Ytmcjpmogjmnfpaa
open Go Go.RowKit

theorem wp_append_one {P : Program} {o : Oper} {a : Act} {w : World} {K : Act → World → Prop} {Q : Exit → Act → World → Prop} {α : Type} {C : α → List Value} (hgd : o.guard = none) (s x : Operand) (t : TypeId)
    (ho : o.op = .call { callee := .builtin .append, args := #[s, x], argTypes := #[t, t] })
    (base : Nat) (e : TypeId) {z : Value} {size bytes : Nat} (ht : P.underlying t = some (.slice e)) (hinfo : (P.info? e).map (fun i => (i.zero, i.size, i.bytes)) = some (some z, size, bytes)) (hzs : z.cells.size = size) (hsz : 0 < size) (hC : ∀ y, (C y).length = size)
    (v : Value) (l : List α) (hs : a.eval s = v) (hown : Owns base e size C w v l) (H : Nat) (y : α) (hx : a.eval x = .slice (some ⟨H, 0, none⟩) 1 1) (hnews : ∀ j u, (C y)[j]? = some u → w.cell? ⟨H, j, none⟩ = some u) (h1 : ∀ u ∈ C y, u.oneCell' = true)
    (hbytes : (l.length + 1) * bytes ≤ 140737488355328) (hb0 : 0 < bytes) (hbase : base ≤ w.heap.size) (N : Nat) (hN : w.heap.size = N)
    (h : ∀ g cap w', Owns base e size C w' (.slice (some ⟨g, 0, none⟩) (l.length + 1) cap) (l ++ [y]) → w.grownBy w' v.ownBlock → (v.ownBlock = some g ∨ g = N) → g < w'.heap.size → K (a.put o.dst (.slice (some ⟨g, 0, none⟩) (l.length + 1) cap)) w') : Oper.wp P o a w K Q := by
  have h2 := step_append_one (ops := #[]) (Q := Q) (E := True) hgd s x t ho base e ht hinfo hzs hsz hC v l hs hown H y hx hnews h1 hbytes hb0 hbase N hN h
  rwa [if_pos (by simp [Region.wanted, hgd])] at h2

def joinPUpd (k : Key) (g1 o1 g2 o2 : Nat) (had1 has2 : Bool) (old1 new2 : Pin) (ao : Option Addr) (cap : Nat) (l : List Edit) (V : World) (x0 x1 x2 x3 x4 x5 x6 x7 x8 x9 x10 x11 x12 x13 x14 x15 x16 x17 x18 x19 x20 x21 x22 x23 x24 x25 x26 x27 x28 x29 x30 x31 x32 x33 x34 x35 x36 x37 x38 x39 x40 x41 x42 x43 x44 x45 x46 x47 x48 x49 x50 x51 x52 x53 x54 x55 x56 x57 x58 x59 x60 x61 x62 x63 x64 x65 x66 x67 : Value) (f0 f1 f2 f3 f4 f5 f6 f7 f8 f9 f10 f11 f12 f13 f14 f15 f16 f17 f18 f19 f20 _f21 : Bool) (g8 cap8 : Nat) : Act :=
  ⟨#[x0, x1, x2, x3, x4, x5, x6, x7, x8, x9, x10, x11, x12, x13, x14, x15, x16, x17, x18, x19, x20, x21, x22, x23, x24, x25, x26, x27, x28, x29, x30, x31, x32, x33, x34, x35, x36, x37, x38, x39, x40, x41, x42, x43, x44, x45, x46, x47, x48, x49, x50, x51, x52, x53, x54, x55, x56, x57, x58, x59, x60, x61, x62, x63, x64, x65, x66, x67, cond f0 (.slice ao l.length cap) undef, cond f1 (.agg #[.string k.group, .string k.artifact, .string k.type, .string k.classifier]) undef, cond f2 (.pointer (some ⟨g1, o1, none⟩)) undef, cond f3 (.pointer (some ⟨g1, o1, none⟩)) undef, cond f4 (.pointer (some ⟨g1, o1 + 4, none⟩)) undef, cond f5 (.bool had1) undef, cond f6 (.pointer (some ⟨g2, o2, none⟩)) undef, cond f7 (.pointer (some ⟨g2, o2, none⟩)) undef, cond f8 (.pointer (some ⟨g2, o2 + 5, none⟩)) undef, cond f9 (.bool has2) undef, cond f10 (.pointer (some ⟨g1, o1, none⟩)) undef, cond f11 (.pointer (some ⟨g1, o1, none⟩)) undef, cond f12 (.pointer (some ⟨g1, o1 + 6, none⟩)) undef, cond f13 (.agg #[.string old1.key.group, .string old1.key.artifact, .string old1.key.type, .string old1.key.classifier, .string old1.version, .int .i64 old1.scope]) undef, cond f14 (.pointer (some ⟨g2, o2, none⟩)) undef, cond f15 (.pointer (some ⟨g2, o2, none⟩)) undef, cond f16 (.pointer (some ⟨g2, o2 + 12, none⟩)) undef, cond f17 (.agg #[.string new2.key.group, .string new2.key.artifact, .string new2.key.type, .string new2.key.classifier, .string new2.version, .int .i64 new2.scope]) undef, cond f18 (.agg #[.string k.group, .string k.artifact, .string k.type, .string k.classifier, .bool had1, .bool has2, .string old1.key.group, .string old1.key.artifact, .string old1.key.type, .string old1.key.classifier, .string old1.version, .int .i64 old1.scope, .string new2.key.group, .string new2.key.artifact, .string new2.key.type, .string new2.key.classifier, .string new2.version, .int .i64 new2.scope]) undef, cond f19 (.slice (some ⟨V.heap.size, 0, none⟩) 1 1) undef, cond f20 (.slice (some ⟨g8, 0, none⟩) (l.length + 1) cap8) undef], []⟩
def joinPJ (k : Key) (B g1 o1 g2 o2 : Nat) (had1 has2 : Bool) (old1 new2 : Pin) (ao : Option Addr) (cap : Nat) (l : List Edit) (ok : Bool) (V : World) (x0 x1 x2 x3 x4 x5 x6 x7 x8 x9 x10 x11 x12 x13 x14 x15 x16 x17 x18 x19 x20 x21 x22 x23 x24 x25 x26 x27 x28 x29 x30 x31 x32 x33 x34 x35 x36 x37 x38 x39 x40 x41 x42 x43 x44 x45 x46 x47 x48 x49 x50 x51 x52 x53 x54 x55 x56 x57 x58 x59 x60 x61 x62 x63 x64 x65 x66 x67 : Value) (listed : Array Bool) (atx : Act) (w' : World) : Prop :=
  ∃ (f0 f1 f2 f3 f4 f5 f6 f7 f8 f9 f10 f11 f12 f13 f14 f15 f16 f17 f18 f19 f20 f21 : Bool) (g8 cap8 : Nat), listed = #[f0, f1, f2, f3, f4, f5, f6, f7, f8, f9, f10, f11, f12, f13, f14, f15, f16, f17, f18, f19, f20, f21] ∧ atx = joinPUpd k g1 o1 g2 o2 had1 has2 old1 new2 ao cap l V x0 x1 x2 x3 x4 x5 x6 x7 x8 x9 x10 x11 x12 x13 x14 x15 x16 x17 x18 x19 x20 x21 x22 x23 x24 x25 x26 x27 x28 x29 x30 x31 x32 x33 x34 x35 x36 x37 x38 x39 x40 x41 x42 x43 x44 x45 x46 x47 x48 x49 x50 x51 x52 x53 x54 x55 x56 x57 x58 x59 x60 x61 x62 x63 x64 x65 x66 x67 f0 f1 f2 f3 f4 f5 f6 f7 f8 f9 f10 f11 f12 f13 f14 f15 f16 f17 f18 f19 f20 f21 g8 cap8 ∧ Hid (f18 = true → f1 = true ∧ f5 = true ∧ f9 = true ∧ f13 = true ∧ f17 = true) ∧ Hid (f19 = true → f18 = true) ∧ Hid (f20 = true → f19 = true ∧ f0 = true) ∧ Hid (f21 = true → f20 = true) ∧
    Hid (f19 = false → w' = V.drew) ∧ Hid (f19 = true → f20 = false → w' = V.drew.alloc (.cells #[.string k.group, .string k.artifact, .string k.type, .string k.classifier, .bool had1, .bool has2, .string old1.key.group, .string old1.key.artifact, .string old1.key.type, .string old1.key.classifier, .string old1.version, .int .i64 old1.scope, .string new2.key.group, .string new2.key.artifact, .string new2.key.type, .string new2.key.classifier, .string new2.version, .int .i64 new2.scope] 46)) ∧
    (f20 = true → f21 = false → (V.drew.alloc (.cells #[.string k.group, .string k.artifact, .string k.type, .string k.classifier, .bool had1, .bool has2, .string old1.key.group, .string old1.key.artifact, .string old1.key.type, .string old1.key.classifier, .string old1.version, .int .i64 old1.scope, .string new2.key.group, .string new2.key.artifact, .string new2.key.type, .string new2.key.classifier, .string new2.version, .int .i64 new2.scope] 46)).grownBy w' (Value.slice ao l.length cap).ownBlock ∧ Owns (B + 2) 46 18 editC w' (.slice (some ⟨g8, 0, none⟩) (l.length + 1) cap8) (l ++ [⟨k, had1, has2, old1, new2⟩])) ∧
    (f21 = true → JoinAt B w' (l ++ [⟨k, had1, has2, old1, new2⟩]) ok ∧ Below B V w')

attribute [local go_sem ↓] eqg_pinE neq_pinB in
set_option maxRecDepth 100000 in
set_option maxHeartbeats 8000000 in
theorem join_p1 (k : Key) (w : World) (B : Nat) (l : List Edit) (ok : Bool) (ho : JoinAt B w l ok) (hl : l.length ≤ 1000) (k1 k2 : Key) (had1 has1 had2 has2 : Bool) (old1 new1 old2 new2 : Pin) (g1 o1 g2 o2 : Nat) (h1 : EditAt w g1 o1 ⟨k1, had1, has1, old1, new1⟩) (h2 : EditAt w g2 o2 ⟨k2, had2, has2, old2, new2⟩) (hh : (has1 == had2) = true) (hn : pinEq new1 old2 = true) (hf : (had1 == has2) = false) : Calls Try.prog 40 #[.agg #[.string k.group, .string k.artifact, .string k.type, .string k.classifier], .pointer (some ⟨g1, o1, none⟩), .pointer (some ⟨g2, o2, none⟩), .pointer (some ⟨B, 0, none⟩), .pointer (some ⟨B + 1, 0, none⟩)] w fun e w' => e = .returned (.tuple #[]) ∧ JoinAt B w' (l ++ [⟨k, had1, has2, old1, new2⟩]) ok ∧ Below B w w' := by
  obtain ⟨v, hbx, hbk, hown⟩ := ho
  obtain ⟨ao, cap, rfl⟩ := hown.shape
  have HBX := Lib.hid hbx
  have HBK := Lib.hid hbk
  have HOW := Lib.hid hown
  have HBY : Hid ((l.length + 1) * 248 ≤ 140737488355328) := by show _ ≤ _; omega
  clear hbx hbk hown hl
  have H1 := Lib.hid h1
  have H2 := Lib.hid h2
  clear h1 h2
  go_enter Try.func40, Try.ntmps40
  go_upto_region 5 with fail
  refine wp_world ?_
  intro W hW
  have hbW : Below w.heap.size w W := by rw [hW]; exact (Below.refl _ w).alloc (Nat.le_refl _) _
  have x5 : Box W w.heap.size (keyC k) := by rw [hW]; exact Box.new w (keyC k) _ _ rfl
  clear hW
  have HBW := Lib.hid hbW
  have HX5 := Lib.hid x5
  have hbx : Box W B [.slice ao l.length cap] := HBX.out.below hbW HBX.out.lt
  have HBX1 := Lib.hid hbx
  have HBK1 := Lib.hid (HBK.out.below hbW HBK.out.lt)
  have HOW1 := Lib.hid (HOW.out.below hbW)
  have hp1 := H1.out.below hbW
  have hp2 := H2.out.below hbW
  have a4 : W.cell? ⟨g1, o1 + 4, none⟩ = some (.bool had1) := hp1.2 4 _ rfl
  have e4 : W.cell? ⟨g2, o2 + 4, none⟩ = some (.bool had2) := hp2.2 4 _ rfl
  have a5 : W.cell? ⟨g1, o1 + 5, none⟩ = some (.bool has1) := hp1.2 5 _ rfl
  have e5 : W.cell? ⟨g2, o2 + 5, none⟩ = some (.bool has2) := hp2.2 5 _ rfl
  have a6 : W.cell? ⟨g1, o1 + 6, none⟩ = some (.string old1.key.group) := hp1.2 6 _ rfl
  have e6 : W.cell? ⟨g2, o2 + 6, none⟩ = some (.string old2.key.group) := hp2.2 6 _ rfl
  have a7 : W.cell? ⟨g1, o1 + 7, none⟩ = some (.string old1.key.artifact) := hp1.2 7 _ rfl
  have e7 : W.cell? ⟨g2, o2 + 7, none⟩ = some (.string old2.key.artifact) := hp2.2 7 _ rfl
  have a8 : W.cell? ⟨g1, o1 + 8, none⟩ = some (.string old1.key.type) := hp1.2 8 _ rfl
  have e8 : W.cell? ⟨g2, o2 + 8, none⟩ = some (.string old2.key.type) := hp2.2 8 _ rfl
  have a9 : W.cell? ⟨g1, o1 + 9, none⟩ = some (.string old1.key.classifier) := hp1.2 9 _ rfl
  have e9 : W.cell? ⟨g2, o2 + 9, none⟩ = some (.string old2.key.classifier) := hp2.2 9 _ rfl
  have a10 : W.cell? ⟨g1, o1 + 10, none⟩ = some (.string old1.version) := hp1.2 10 _ rfl
  have e10 : W.cell? ⟨g2, o2 + 10, none⟩ = some (.string old2.version) := hp2.2 10 _ rfl
  have a11 : W.cell? ⟨g1, o1 + 11, none⟩ = some (.int .i64 old1.scope) := hp1.2 11 _ rfl
  have e11 : W.cell? ⟨g2, o2 + 11, none⟩ = some (.int .i64 old2.scope) := hp2.2 11 _ rfl
  have a12 : W.cell? ⟨g1, o1 + 12, none⟩ = some (.string new1.key.group) := hp1.2 12 _ rfl
  have e12 : W.cell? ⟨g2, o2 + 12, none⟩ = some (.string new2.key.group) := hp2.2 12 _ rfl
  have a13 : W.cell? ⟨g1, o1 + 13, none⟩ = some (.string new1.key.artifact) := hp1.2 13 _ rfl
  have e13 : W.cell? ⟨g2, o2 + 13, none⟩ = some (.string new2.key.artifact) := hp2.2 13 _ rfl
  have a14 : W.cell? ⟨g1, o1 + 14, none⟩ = some (.string new1.key.type) := hp1.2 14 _ rfl
  have e14 : W.cell? ⟨g2, o2 + 14, none⟩ = some (.string new2.key.type) := hp2.2 14 _ rfl
  have a15 : W.cell? ⟨g1, o1 + 15, none⟩ = some (.string new1.key.classifier) := hp1.2 15 _ rfl
  have e15 : W.cell? ⟨g2, o2 + 15, none⟩ = some (.string new2.key.classifier) := hp2.2 15 _ rfl
  have a16 : W.cell? ⟨g1, o1 + 16, none⟩ = some (.string new1.version) := hp1.2 16 _ rfl
  have e16 : W.cell? ⟨g2, o2 + 16, none⟩ = some (.string new2.version) := hp2.2 16 _ rfl
  have a17 : W.cell? ⟨g1, o1 + 17, none⟩ = some (.int .i64 new1.scope) := hp1.2 17 _ rfl
  have e17 : W.cell? ⟨g2, o2 + 17, none⟩ = some (.int .i64 new2.scope) := hp2.2 17 _ rfl
  have lg1 := hp1.1
  have lg2 := hp2.1
  clear hp1 hp2 x5 hbx hbW
  go_quiet (fail)
  go_wp2_with fail
  go_quiet (fail)
  go_upto_region 8 with fail
  refine wp_world ?_
  intro V hV
  have HVW : Hid (Below W.heap.size W V) := by rw [hV]; exact belowN (belowN (Below.refl _ _) _) _
  clear hV
  have v4 : V.cell? ⟨g1, o1 + 4, none⟩ = some (.bool had1) := (HVW.out.cell (by exact lg1)).trans a4
  have v6 : V.cell? ⟨g1, o1 + 6, none⟩ = some (.string old1.key.group) := (HVW.out.cell (by exact lg1)).trans a6
  have v7 : V.cell? ⟨g1, o1 + 7, none⟩ = some (.string old1.key.artifact) := (HVW.out.cell (by exact lg1)).trans a7
  have v8 : V.cell? ⟨g1, o1 + 8, none⟩ = some (.string old1.key.type) := (HVW.out.cell (by exact lg1)).trans a8
  have v9 : V.cell? ⟨g1, o1 + 9, none⟩ = some (.string old1.key.classifier) := (HVW.out.cell (by exact lg1)).trans a9
  have v10 : V.cell? ⟨g1, o1 + 10, none⟩ = some (.string old1.version) := (HVW.out.cell (by exact lg1)).trans a10
  have v11 : V.cell? ⟨g1, o1 + 11, none⟩ = some (.int .i64 old1.scope) := (HVW.out.cell (by exact lg1)).trans a11
  have u5 : V.cell? ⟨g2, o2 + 5, none⟩ = some (.bool has2) := (HVW.out.cell (by exact lg2)).trans e5
  have u12 : V.cell? ⟨g2, o2 + 12, none⟩ = some (.string new2.key.group) := (HVW.out.cell (by exact lg2)).trans e12
  have u13 : V.cell? ⟨g2, o2 + 13, none⟩ = some (.string new2.key.artifact) := (HVW.out.cell (by exact lg2)).trans e13
  have u14 : V.cell? ⟨g2, o2 + 14, none⟩ = some (.string new2.key.type) := (HVW.out.cell (by exact lg2)).trans e14
  have u15 : V.cell? ⟨g2, o2 + 15, none⟩ = some (.string new2.key.classifier) := (HVW.out.cell (by exact lg2)).trans e15
  have u16 : V.cell? ⟨g2, o2 + 16, none⟩ = some (.string new2.version) := (HVW.out.cell (by exact lg2)).trans e16
  have u17 : V.cell? ⟨g2, o2 + 17, none⟩ = some (.int .i64 new2.scope) := (HVW.out.cell (by exact lg2)).trans e17
  clear a4 a5 a6 a7 a8 a9 a10 a11 a12 a13 a14 a15 a16 a17 e4 e5 e6 e7 e8 e9 e10 e11 e12 e13 e14 e15 e16 e17
  have HBX2 := Lib.hid (HBX1.out.below HVW.out HBX1.out.lt)
  have HBK2 := Lib.hid (HBK1.out.below HVW.out HBK1.out.lt)
  have HOW2 := Lib.hid (HOW1.out.below HVW.out)
  have HX6 := HX5.out.below HVW.out HX5.out.lt
  have c0 := HBX2.out.cell 0 _ rfl
  have f0 := HBX2.out.free 0
  have l0 := HBX2.out.lt
  have y0 := HX6.cell 0 _ rfl
  have y1 := HX6.cell 1 _ rfl
  have y2 := HX6.cell 2 _ rfl
  have y3 := HX6.cell 3 _ rfl
  have ly := HX6.lt
  have lv1 : g1 < V.heap.size := Nat.lt_of_lt_of_le lg1 HVW.out.size
  have lv2 : g2 < V.heap.size := Nat.lt_of_lt_of_le lg2 HVW.out.size
  have HNW : Hid (∀ j u, (editC ⟨k, had1, has2, old1, new2⟩)[j]? = some u → (V.drew.alloc (.cells (editC ⟨k, had1, has2, old1, new2⟩).toArray 46)).cell? ⟨V.drew.heap.size, j, none⟩ = some u) := fun j u hu => (Box.new V.drew (editC ⟨k, had1, has2, old1, new2⟩) 46 _ rfl).cell j u hu
  clear HX6 lg1 lg2
  refine wp_region_flags0 (joinPJ k B g1 o1 g2 o2 had1 has2 old1 new2 ao cap l ok V _ _ _ _ _ _ _ _ _ _ _ _ _ _ _ _ _ _ _ _ _ _ _ _ _ _ _ _ _ _ _ _ _ _ _ _ _ _ _ _ _ _ _ _ _ _ _ _ _ _ _ _ _ _ _ _ _ _ _ _ _ _ _ _ _ _ _ _) (by kernel_rfl) 22 rfl (by kernel_rfl) ⟨false, false, false, false, false, false, false, false, false, false, false, false, false, false, false, false, false, false, false, false, false, false, 0, 0, rfl, rfl, Lib.hid (by simp), Lib.hid (by simp), Lib.hid (by simp), Lib.hid (by simp), Lib.hid fun _ => rfl, Lib.hid (by simp), by simp, by simp⟩ ?fin ?step
  case fin =>
    rintro a' w' ⟨f0, f1, f2, f3, f4, f5, f6, f7, f8, f9, f10, f11, f12, f13, f14, f15, f16, f17, f18, f19, f20, f21, g8, cap8, hl, rfl, c18, c19, c20, c21, wA, wB, wC, wD⟩
    have hl' : [true, true, true, true, true, true, true, true, true, true, true, true, true, true, true, true, true, true, true, true, true, true] = [f0, f1, f2, f3, f4, f5, f6, f7, f8, f9, f10, f11, f12, f13, f14, f15, f16, f17, f18, f19, f20, f21] := congrArg Array.toList hl
    simp only [List.cons.injEq, and_true] at hl'
    obtain ⟨rfl, rfl, rfl, rfl, rfl, rfl, rfl, rfl, rfl, rfl, rfl, rfl, rfl, rfl, rfl, rfl, rfl, rfl, rfl, rfl, rfl, rfl⟩ := hl'
    unfold joinPUpd
    simp only [cond_true]
    obtain ⟨hj, hbB⟩ := wD rfl
    have HJ := Lib.hid hj
    have HBB := Lib.hid hbB
    clear hj hbB wA wB wC wD c18 c19 c20 c21
    go_wp2
    go_end0
    exact ⟨rfl, HJ.out, (HBW.out.mono (Nat.le_of_lt HBX.out.lt)).trans ((HVW.out.mono (Nat.le_of_lt HBX1.out.lt)).trans HBB.out)⟩
  case step =>
    rintro listed a' w' ⟨f0, f1, f2, f3, f4, f5, f6, f7, f8, f9, f10, f11, f12, f13, f14, f15, f16, f17, f18, f19, f20, f21, g8, cap8, rfl, rfl, c18, c19, c20, c21, wA, wB, wC, wD⟩ i hi
    rw [mem_ready] at hi
    obtain ⟨hu, o, ho, ha⟩ := hi
    have hi8 : i < 22 := (Array.getElem?_eq_some_iff.1 ho).1
    rcases (by omega : i = 0 ∨ i = 1 ∨ i = 2 ∨ i = 3 ∨ i = 4 ∨ i = 5 ∨ i = 6 ∨ i = 7 ∨ i = 8 ∨ i = 9 ∨ i = 10 ∨ i = 11 ∨ i = 12 ∨ i = 13 ∨ i = 14 ∨ i = 15 ∨ i = 16 ∨ i = 17 ∨ i = 18 ∨ i = 19 ∨ i = 20 ∨ i = 21) with rfl | rfl | rfl | rfl | rfl | rfl | rfl | rfl | rfl | rfl | rfl | rfl | rfl | rfl | rfl | rfl | rfl | rfl | rfl | rfl | rfl | rfl
    · have ho' := ho
      simp at hu ho
      subst hu ho
      clear ha
      have e20 : f20 = false := Bool.eq_false_iff.2 fun h => (Bool.false_ne_true ((c20.out h).2))
      subst e20
      have e21 : f21 = false := Bool.eq_false_iff.2 fun h => (Bool.false_ne_true (c21.out h))
      subst e21
      cases f19
      · obtain rfl := wA.out rfl
        refine .inl ?_
        unfold joinPUpd Oper.wp
        go_simp
        exact ⟨true, f1, f2, f3, f4, f5, f6, f7, f8, f9, f10, f11, f12, f13, f14, f15, f16, f17, f18, false, false, false, g8, cap8, rfl, rfl, c18, c19, Lib.hid (by simp), Lib.hid (by simp), Lib.hid fun _ => rfl, Lib.hid (by simp), by simp, by simp⟩
      · obtain rfl := wB.out rfl rfl
        refine .inl ?_
        unfold joinPUpd Oper.wp
        go_simp
        exact ⟨true, f1, f2, f3, f4, f5, f6, f7, f8, f9, f10, f11, f12, f13, f14, f15, f16, f17, f18, true, false, false, g8, cap8, rfl, rfl, c18, c19, Lib.hid (by simp), Lib.hid (by simp), Lib.hid (by simp), Lib.hid fun _ _ => rfl, by simp, by simp⟩
    · have ho' := ho
      simp at hu ho
      subst hu ho
      clear ha
      have e18 : f18 = false := Bool.eq_false_iff.2 fun h => (Bool.false_ne_true ((c18.out h).1))
      subst e18
      have e19 : f19 = false := Bool.eq_false_iff.2 fun h => (Bool.false_ne_true (c19.out h))
      subst e19
      have e20 : f20 = false := Bool.eq_false_iff.2 fun h => (Bool.false_ne_true ((c20.out h).1))
      subst e20
      obtain rfl := wA.out rfl
      refine .inl ?_
      unfold joinPUpd Oper.wp
      go_simp
      exact ⟨f0, true, f2, f3, f4, f5, f6, f7, f8, f9, f10, f11, f12, f13, f14, f15, f16, f17, false, false, false, f21, g8, cap8, rfl, rfl, Lib.hid (by simp), Lib.hid (by simp), Lib.hid (by simp), c21, Lib.hid fun _ => rfl, Lib.hid (by simp), by simp, wD⟩
    · have ho' := ho
      simp at hu ho
      subst hu ho
      clear ha
      refine .inl ?_
      unfold joinPUpd Oper.wp
      go_simp
      exact ⟨f0, f1, true, f3, f4, f5, f6, f7, f8, f9, f10, f11, f12, f13, f14, f15, f16, f17, f18, f19, f20, f21, g8, cap8, rfl, rfl, c18, c19, c20, c21, wA, wB, wC, wD⟩
    · have ho' := ho
      simp at hu ho
      subst hu ho
      simp [Region.binds] at ha
      obtain rfl : f2 = true := by simp_all
      clear ha
      refine .inl ?_
      unfold joinPUpd Oper.wp
      go_simp
      exact ⟨f0, f1, true, true, f4, f5, f6, f7, f8, f9, f10, f11, f12, f13, f14, f15, f16, f17, f18, f19, f20, f21, g8, cap8, rfl, rfl, c18, c19, c20, c21, wA, wB, wC, wD⟩
    · have ho' := ho
      simp at hu ho
      subst hu ho
      simp [Region.binds] at ha
      obtain rfl : f3 = true := by simp_all
      clear ha
      refine .inl ?_
      unfold joinPUpd Oper.wp
      go_simp
      exact ⟨f0, f1, f2, true, true, f5, f6, f7, f8, f9, f10, f11, f12, f13, f14, f15, f16, f17, f18, f19, f20, f21, g8, cap8, rfl, rfl, c18, c19, c20, c21, wA, wB, wC, wD⟩
    · have ho' := ho
      simp at hu ho
      subst hu ho
      simp [Region.binds] at ha
      obtain rfl : f4 = true := by simp_all
      clear ha
      have e18 : f18 = false := Bool.eq_false_iff.2 fun h => (Bool.false_ne_true ((c18.out h).2.1))
      subst e18
      have e19 : f19 = false := Bool.eq_false_iff.2 fun h => (Bool.false_ne_true (c19.out h))
      subst e19
      have e20 : f20 = false := Bool.eq_false_iff.2 fun h => (Bool.false_ne_true ((c20.out h).1))
      subst e20
      obtain rfl := wA.out rfl
      refine .inl ?_
      unfold joinPUpd Oper.wp
      go_simp
      exact ⟨f0, f1, f2, f3, true, true, f6, f7, f8, f9, f10, f11, f12, f13, f14, f15, f16, f17, false, false, false, f21, g8, cap8, rfl, rfl, Lib.hid (by simp), Lib.hid (by simp), Lib.hid (by simp), c21, Lib.hid fun _ => rfl, Lib.hid (by simp), by simp, wD⟩
    · have ho' := ho
      simp at hu ho
      subst hu ho
      clear ha
      refine .inl ?_
      unfold joinPUpd Oper.wp
      go_simp
      exact ⟨f0, f1, f2, f3, f4, f5, true, f7, f8, f9, f10, f11, f12, f13, f14, f15, f16, f17, f18, f19, f20, f21, g8, cap8, rfl, rfl, c18, c19, c20, c21, wA, wB, wC, wD⟩
    · have ho' := ho
      simp at hu ho
      subst hu ho
      simp [Region.binds] at ha
      obtain rfl : f6 = true := by simp_all
      clear ha
      refine .inl ?_
      unfold joinPUpd Oper.wp
      go_simp
      exact ⟨f0, f1, f2, f3, f4, f5, true, true, f8, f9, f10, f11, f12, f13, f14, f15, f16, f17, f18, f19, f20, f21, g8, cap8, rfl, rfl, c18, c19, c20, c21, wA, wB, wC, wD⟩
    · have ho' := ho
      simp at hu ho
      subst hu ho
      simp [Region.binds] at ha
      obtain rfl : f7 = true := by simp_all
      clear ha
      refine .inl ?_
      unfold joinPUpd Oper.wp
      go_simp
      exact ⟨f0, f1, f2, f3, f4, f5, f6, true, true, f9, f10, f11, f12, f13, f14, f15, f16, f17, f18, f19, f20, f21, g8, cap8, rfl, rfl, c18, c19, c20, c21, wA, wB, wC, wD⟩
    · have ho' := ho
      simp at hu ho
      subst hu ho
      simp [Region.binds] at ha
      obtain rfl : f8 = true := by simp_all
      clear ha
      have e18 : f18 = false := Bool.eq_false_iff.2 fun h => (Bool.false_ne_true ((c18.out h).2.2.1))
      subst e18
      have e19 : f19 = false := Bool.eq_false_iff.2 fun h => (Bool.false_ne_true (c19.out h))
      subst e19
      have e20 : f20 = false := Bool.eq_false_iff.2 fun h => (Bool.false_ne_true ((c20.out h).1))
      subst e20
      obtain rfl := wA.out rfl
      refine .inl ?_
      unfold joinPUpd Oper.wp
      go_simp
      exact ⟨f0, f1, f2, f3, f4, f5, f6, f7, true, true, f10, f11, f12, f13, f14, f15, f16, f17, false, false, false, f21, g8, cap8, rfl, rfl, Lib.hid (by simp), Lib.hid (by simp), Lib.hid (by simp), c21, Lib.hid fun _ => rfl, Lib.hid (by simp), by simp, wD⟩
    · have ho' := ho
      simp at hu ho
      subst hu ho
      clear ha
      refine .inl ?_
      unfold joinPUpd Oper.wp
      go_simp
      exact ⟨f0, f1, f2, f3, f4, f5, f6, f7, f8, f9, true, f11, f12, f13, f14, f15, f16, f17, f18, f19, f20, f21, g8, cap8, rfl, rfl, c18, c19, c20, c21, wA, wB, wC, wD⟩
    · have ho' := ho
      simp at hu ho
      subst hu ho
      simp [Region.binds] at ha
      obtain rfl : f10 = true := by simp_all
      clear ha
      refine .inl ?_
      unfold joinPUpd Oper.wp
      go_simp
      exact ⟨f0, f1, f2, f3, f4, f5, f6, f7, f8, f9, true, true, f12, f13, f14, f15, f16, f17, f18, f19, f20, f21, g8, cap8, rfl, rfl, c18, c19, c20, c21, wA, wB, wC, wD⟩
    · have ho' := ho
      simp at hu ho
      subst hu ho
      simp [Region.binds] at ha
      obtain rfl : f11 = true := by simp_all
      clear ha
      refine .inl ?_
      unfold joinPUpd Oper.wp
      go_simp
      exact ⟨f0, f1, f2, f3, f4, f5, f6, f7, f8, f9, f10, true, true, f13, f14, f15, f16, f17, f18, f19, f20, f21, g8, cap8, rfl, rfl, c18, c19, c20, c21, wA, wB, wC, wD⟩
    · have ho' := ho
      simp at hu ho
      subst hu ho
      simp [Region.binds] at ha
      obtain rfl : f12 = true := by simp_all
      clear ha
      have e18 : f18 = false := Bool.eq_false_iff.2 fun h => (Bool.false_ne_true ((c18.out h).2.2.2.1))
      subst e18
      have e19 : f19 = false := Bool.eq_false_iff.2 fun h => (Bool.false_ne_true (c19.out h))
      subst e19
      have e20 : f20 = false := Bool.eq_false_iff.2 fun h => (Bool.false_ne_true ((c20.out h).1))
      subst e20
      obtain rfl := wA.out rfl
      refine .inl ?_
      unfold joinPUpd Oper.wp
      go_simp
      exact ⟨f0, f1, f2, f3, f4, f5, f6, f7, f8, f9, f10, f11, true, true, f14, f15, f16, f17, false, false, false, f21, g8, cap8, rfl, rfl, Lib.hid (by simp), Lib.hid (by simp), Lib.hid (by simp), c21, Lib.hid fun _ => rfl, Lib.hid (by simp), by simp, wD⟩
    · have ho' := ho
      simp at hu ho
      subst hu ho
      clear ha
      refine .inl ?_
      unfold joinPUpd Oper.wp
      go_simp
      exact ⟨f0, f1, f2, f3, f4, f5, f6, f7, f8, f9, f10, f11, f12, f13, true, f15, f16, f17, f18, f19, f20, f21, g8, cap8, rfl, rfl, c18, c19, c20, c21, wA, wB, wC, wD⟩
    · have ho' := ho
      simp at hu ho
      subst hu ho
      simp [Region.binds] at ha
      obtain rfl : f14 = true := by simp_all
      clear ha
      refine .inl ?_
      unfold joinPUpd Oper.wp
      go_simp
      exact ⟨f0, f1, f2, f3, f4, f5, f6, f7, f8, f9, f10, f11, f12, f13, true, true, f16, f17, f18, f19, f20, f21, g8, cap8, rfl, rfl, c18, c19, c20, c21, wA, wB, wC, wD⟩
    · have ho' := ho
      simp at hu ho
      subst hu ho
      simp [Region.binds] at ha
      obtain rfl : f15 = true := by simp_all
      clear ha
      refine .inl ?_
      unfold joinPUpd Oper.wp
      go_simp
      exact ⟨f0, f1, f2, f3, f4, f5, f6, f7, f8, f9, f10, f11, f12, f13, f14, true, true, f17, f18, f19, f20, f21, g8, cap8, rfl, rfl, c18, c19, c20, c21, wA, wB, wC, wD⟩
    · have ho' := ho
      simp at hu ho
      subst hu ho
      simp [Region.binds] at ha
      obtain rfl : f16 = true := by simp_all
      clear ha
      have e18 : f18 = false := Bool.eq_false_iff.2 fun h => (Bool.false_ne_true ((c18.out h).2.2.2.2))
      subst e18
      have e19 : f19 = false := Bool.eq_false_iff.2 fun h => (Bool.false_ne_true (c19.out h))
      subst e19
      have e20 : f20 = false := Bool.eq_false_iff.2 fun h => (Bool.false_ne_true ((c20.out h).1))
      subst e20
      obtain rfl := wA.out rfl
      refine .inl ?_
      unfold joinPUpd Oper.wp
      go_simp
      exact ⟨f0, f1, f2, f3, f4, f5, f6, f7, f8, f9, f10, f11, f12, f13, f14, f15, true, true, false, false, false, f21, g8, cap8, rfl, rfl, Lib.hid (by simp), Lib.hid (by simp), Lib.hid (by simp), c21, Lib.hid fun _ => rfl, Lib.hid (by simp), by simp, wD⟩
    · have ho' := ho
      simp at hu ho
      subst hu ho
      simp [Region.binds] at ha
      obtain rfl : f1 = true := by simp_all
      obtain rfl : f5 = true := by simp_all
      obtain rfl : f9 = true := by simp_all
      obtain rfl : f13 = true := by simp_all
      obtain rfl : f17 = true := by simp_all
      clear ha
      have e19 : f19 = false := Bool.eq_false_iff.2 fun h => (Bool.false_ne_true (c19.out h))
      subst e19
      have e20 : f20 = false := Bool.eq_false_iff.2 fun h => (Bool.false_ne_true ((c20.out h).1))
      subst e20
      obtain rfl := wA.out rfl
      refine .inl ?_
      unfold joinPUpd Oper.wp
      go_simp
      exact ⟨f0, true, f2, f3, f4, true, f6, f7, f8, true, f10, f11, f12, true, f14, f15, f16, true, true, false, false, f21, g8, cap8, rfl, rfl, Lib.hid (by simp), Lib.hid (by simp), Lib.hid (by simp), c21, Lib.hid fun _ => rfl, Lib.hid (by simp), by simp, wD⟩
    · have ho' := ho
      simp at hu ho
      subst hu ho
      simp [Region.binds] at ha
      obtain rfl : f18 = true := by simp_all
      clear ha
      have e20 : f20 = false := Bool.eq_false_iff.2 fun h => (Bool.false_ne_true ((c20.out h).1))
      subst e20
      have e21 : f21 = false := Bool.eq_false_iff.2 fun h => (Bool.false_ne_true (c21.out h))
      subst e21
      obtain rfl := wA.out rfl
      refine .inl ?_
      unfold joinPUpd Oper.wp
      go_simp
      exact ⟨f0, f1, f2, f3, f4, f5, f6, f7, f8, f9, f10, f11, f12, f13, f14, f15, f16, f17, true, true, false, false, g8, cap8, rfl, rfl, c18, Lib.hid (by simp), Lib.hid (by simp), Lib.hid (by simp), Lib.hid (by simp), Lib.hid fun _ _ => rfl, by simp, by simp⟩
    · have ho' := ho
      simp at hu ho
      subst hu ho
      simp [Region.binds] at ha
      obtain rfl : f0 = true := by simp_all
      obtain rfl : f19 = true := by simp_all
      clear ha
      have e21 : f21 = false := Bool.eq_false_iff.2 fun h => (Bool.false_ne_true (c21.out h))
      subst e21
      obtain rfl := wB.out rfl rfl
      unfold joinPUpd
      refine wpOp_do ho' (by rfl) ?_
      refine wp_append_one rfl (.tmp 68) (.tmp 87) 29 rfl (B + 2) 46 Try.underlying29 info_edit rfl (by decide) editC_len (.slice ao l.length cap) l (by simp [Act.eval]) (HOW2.out.drew.alloc _) V.drew.heap.size ⟨k, had1, has2, old1, new2⟩ (by simp [Act.eval]) HNW.out editC_one HBY.out (by decide) (by simp; have := HBX2.out.lt; have := HBK2.out.lt; omega) (V.drew.heap.size + 1) (by simp) ?_
      intro g9 cap9 w9 hown9 hgrow9 _ _
      simp only [Act.put, List.setIfInBounds_toArray, List.set_cons_succ, List.set_cons_zero]
      exact ⟨true, f1, f2, f3, f4, f5, f6, f7, f8, f9, f10, f11, f12, f13, f14, f15, f16, f17, f18, true, true, false, g9, cap9, rfl, rfl, c18, c19, Lib.hid (by simp), Lib.hid (by simp), Lib.hid (by simp), Lib.hid (by simp), fun _ _ => ⟨hgrow9, hown9⟩, by simp⟩
    · have ho' := ho
      simp at hu ho
      subst hu ho
      simp [Region.binds] at ha
      obtain rfl : f20 = true := by simp_all
      clear ha
      obtain ⟨hgr, how⟩ := wC rfl rfl
      obtain ⟨rfl, rfl⟩ := c20.out rfl
      have b8 := join_box (HBX2.out.drew.alloc _) (HOW2.out.drew.alloc _) hgr
      have c8 := b8.cell 0 _ rfl
      have f8x := b8.free 0
      have l8 := b8.lt
      have HP := Lib.hid (JoinAt.push (HBX2.out.drew.alloc _) (HBK2.out.drew.alloc _) (HOW2.out.drew.alloc _) hgr how)
      clear b8 hgr how wC wD
      refine .inl ?_
      unfold joinPUpd Oper.wp
      go_simp
      exact ⟨true, f1, f2, f3, f4, f5, f6, f7, f8, f9, f10, f11, f12, f13, f14, f15, f16, f17, f18, true, true, true, g8, cap8, rfl, rfl, c18, c19, Lib.hid (by simp), Lib.hid (by simp), Lib.hid (by simp), Lib.hid (by simp), by simp, fun _ => ⟨HP.out.1, (((belowN (Below.refl B V) 1).alloc (Nat.le_of_lt HBX2.out.lt) _).trans HP.out.2.2)⟩⟩

attribute [local go_sem ↓] eqg_pinE neq_pinB in
set_option maxRecDepth 100000 in
set_option maxHeartbeats 8000000 in
theorem join_p2 (k : Key) (w : World) (B : Nat) (l : List Edit) (ok : Bool) (ho : JoinAt B w l ok) (hl : l.length ≤ 1000) (k1 k2 : Key) (had1 has1 had2 has2 : Bool) (old1 new1 old2 new2 : Pin) (g1 o1 g2 o2 : Nat) (h1 : EditAt w g1 o1 ⟨k1, had1, has1, old1, new1⟩) (h2 : EditAt w g2 o2 ⟨k2, had2, has2, old2, new2⟩) (hh : (has1 == had2) = true) (hn : pinEq new1 old2 = true) (hf : (had1 == has2) = true) (hp : pinEq old1 new2 = false) : Calls Try.prog 40 #[.agg #[.string k.group, .string k.artifact, .string k.type, .string k.classifier], .pointer (some ⟨g1, o1, none⟩), .pointer (some ⟨g2, o2, none⟩), .pointer (some ⟨B, 0, none⟩), .pointer (some ⟨B + 1, 0, none⟩)] w fun e w' => e = .returned (.tuple #[]) ∧ JoinAt B w' (l ++ [⟨k, had1, has2, old1, new2⟩]) ok ∧ Below B w w' := by
  obtain ⟨v, hbx, hbk, hown⟩ := ho
  obtain ⟨ao, cap, rfl⟩ := hown.shape
  have HBX := Lib.hid hbx
  have HBK := Lib.hid hbk
  have HOW := Lib.hid hown
  have HBY : Hid ((l.length + 1) * 248 ≤ 140737488355328) := by show _ ≤ _; omega
  clear hbx hbk hown hl
  have H1 := Lib.hid h1
  have H2 := Lib.hid h2
  clear h1 h2
  go_enter Try.func40, Try.ntmps40
  go_upto_region 5 with fail
  refine wp_world ?_
  intro W hW
  have hbW : Below w.heap.size w W := by rw [hW]; exact (Below.refl _ w).alloc (Nat.le_refl _) _
  have x5 : Box W w.heap.size (keyC k) := by rw [hW]; exact Box.new w (keyC k) _ _ rfl
  clear hW
  have HBW := Lib.hid hbW
  have HX5 := Lib.hid x5
  have hbx : Box W B [.slice ao l.length cap] := HBX.out.below hbW HBX.out.lt
  have HBX1 := Lib.hid hbx
  have HBK1 := Lib.hid (HBK.out.below hbW HBK.out.lt)
  have HOW1 := Lib.hid (HOW.out.below hbW)
  have hp1 := H1.out.below hbW
  have hp2 := H2.out.below hbW
  have a4 : W.cell? ⟨g1, o1 + 4, none⟩ = some (.bool had1) := hp1.2 4 _ rfl
  have e4 : W.cell? ⟨g2, o2 + 4, none⟩ = some (.bool had2) := hp2.2 4 _ rfl
  have a5 : W.cell? ⟨g1, o1 + 5, none⟩ = some (.bool has1) := hp1.2 5 _ rfl
  have e5 : W.cell? ⟨g2, o2 + 5, none⟩ = some (.bool has2) := hp2.2 5 _ rfl
  have a6 : W.cell? ⟨g1, o1 + 6, none⟩ = some (.string old1.key.group) := hp1.2 6 _ rfl
  have e6 : W.cell? ⟨g2, o2 + 6, none⟩ = some (.string old2.key.group) := hp2.2 6 _ rfl
  have a7 : W.cell? ⟨g1, o1 + 7, none⟩ = some (.string old1.key.artifact) := hp1.2 7 _ rfl
  have e7 : W.cell? ⟨g2, o2 + 7, none⟩ = some (.string old2.key.artifact) := hp2.2 7 _ rfl
  have a8 : W.cell? ⟨g1, o1 + 8, none⟩ = some (.string old1.key.type) := hp1.2 8 _ rfl
  have e8 : W.cell? ⟨g2, o2 + 8, none⟩ = some (.string old2.key.type) := hp2.2 8 _ rfl
  have a9 : W.cell? ⟨g1, o1 + 9, none⟩ = some (.string old1.key.classifier) := hp1.2 9 _ rfl
  have e9 : W.cell? ⟨g2, o2 + 9, none⟩ = some (.string old2.key.classifier) := hp2.2 9 _ rfl
  have a10 : W.cell? ⟨g1, o1 + 10, none⟩ = some (.string old1.version) := hp1.2 10 _ rfl
  have e10 : W.cell? ⟨g2, o2 + 10, none⟩ = some (.string old2.version) := hp2.2 10 _ rfl
  have a11 : W.cell? ⟨g1, o1 + 11, none⟩ = some (.int .i64 old1.scope) := hp1.2 11 _ rfl
  have e11 : W.cell? ⟨g2, o2 + 11, none⟩ = some (.int .i64 old2.scope) := hp2.2 11 _ rfl
  have a12 : W.cell? ⟨g1, o1 + 12, none⟩ = some (.string new1.key.group) := hp1.2 12 _ rfl
  have e12 : W.cell? ⟨g2, o2 + 12, none⟩ = some (.string new2.key.group) := hp2.2 12 _ rfl
  have a13 : W.cell? ⟨g1, o1 + 13, none⟩ = some (.string new1.key.artifact) := hp1.2 13 _ rfl
  have e13 : W.cell? ⟨g2, o2 + 13, none⟩ = some (.string new2.key.artifact) := hp2.2 13 _ rfl
  have a14 : W.cell? ⟨g1, o1 + 14, none⟩ = some (.string new1.key.type) := hp1.2 14 _ rfl
  have e14 : W.cell? ⟨g2, o2 + 14, none⟩ = some (.string new2.key.type) := hp2.2 14 _ rfl
  have a15 : W.cell? ⟨g1, o1 + 15, none⟩ = some (.string new1.key.classifier) := hp1.2 15 _ rfl
  have e15 : W.cell? ⟨g2, o2 + 15, none⟩ = some (.string new2.key.classifier) := hp2.2 15 _ rfl
  have a16 : W.cell? ⟨g1, o1 + 16, none⟩ = some (.string new1.version) := hp1.2 16 _ rfl
  have e16 : W.cell? ⟨g2, o2 + 16, none⟩ = some (.string new2.version) := hp2.2 16 _ rfl
  have a17 : W.cell? ⟨g1, o1 + 17, none⟩ = some (.int .i64 new1.scope) := hp1.2 17 _ rfl
  have e17 : W.cell? ⟨g2, o2 + 17, none⟩ = some (.int .i64 new2.scope) := hp2.2 17 _ rfl
  have lg1 := hp1.1
  have lg2 := hp2.1
  clear hp1 hp2 x5 hbx hbW
  go_quiet (fail)
  go_wp2_with fail
  go_quiet (fail)
  go_upto_region 8 with fail
  refine wp_world ?_
  intro V hV
  have HVW : Hid (Below W.heap.size W V) := by rw [hV]; exact belowN (belowN (Below.refl _ _) _) _
  clear hV
  have v4 : V.cell? ⟨g1, o1 + 4, none⟩ = some (.bool had1) := (HVW.out.cell (by exact lg1)).trans a4
  have v6 : V.cell? ⟨g1, o1 + 6, none⟩ = some (.string old1.key.group) := (HVW.out.cell (by exact lg1)).trans a6
  have v7 : V.cell? ⟨g1, o1 + 7, none⟩ = some (.string old1.key.artifact) := (HVW.out.cell (by exact lg1)).trans a7
  have v8 : V.cell? ⟨g1, o1 + 8, none⟩ = some (.string old1.key.type) := (HVW.out.cell (by exact lg1)).trans a8
  have v9 : V.cell? ⟨g1, o1 + 9, none⟩ = some (.string old1.key.classifier) := (HVW.out.cell (by exact lg1)).trans a9
  have v10 : V.cell? ⟨g1, o1 + 10, none⟩ = some (.string old1.version) := (HVW.out.cell (by exact lg1)).trans a10
  have v11 : V.cell? ⟨g1, o1 + 11, none⟩ = some (.int .i64 old1.scope) := (HVW.out.cell (by exact lg1)).trans a11
  have u5 : V.cell? ⟨g2, o2 + 5, none⟩ = some (.bool has2) := (HVW.out.cell (by exact lg2)).trans e5
  have u12 : V.cell? ⟨g2, o2 + 12, none⟩ = some (.string new2.key.group) := (HVW.out.cell (by exact lg2)).trans e12
  have u13 : V.cell? ⟨g2, o2 + 13, none⟩ = some (.string new2.key.artifact) := (HVW.out.cell (by exact lg2)).trans e13
  have u14 : V.cell? ⟨g2, o2 + 14, none⟩ = some (.string new2.key.type) := (HVW.out.cell (by exact lg2)).trans e14
  have u15 : V.cell? ⟨g2, o2 + 15, none⟩ = some (.string new2.key.classifier) := (HVW.out.cell (by exact lg2)).trans e15
  have u16 : V.cell? ⟨g2, o2 + 16, none⟩ = some (.string new2.version) := (HVW.out.cell (by exact lg2)).trans e16
  have u17 : V.cell? ⟨g2, o2 + 17, none⟩ = some (.int .i64 new2.scope) := (HVW.out.cell (by exact lg2)).trans e17
  clear a4 a5 a6 a7 a8 a9 a10 a11 a12 a13 a14 a15 a16 a17 e4 e5 e6 e7 e8 e9 e10 e11 e12 e13 e14 e15 e16 e17
  have HBX2 := Lib.hid (HBX1.out.below HVW.out HBX1.out.lt)
  have HBK2 := Lib.hid (HBK1.out.below HVW.out HBK1.out.lt)
  have HOW2 := Lib.hid (HOW1.out.below HVW.out)
  have HX6 := HX5.out.below HVW.out HX5.out.lt
  have c0 := HBX2.out.cell 0 _ rfl
  have f0 := HBX2.out.free 0
  have l0 := HBX2.out.lt
  have y0 := HX6.cell 0 _ rfl
  have y1 := HX6.cell 1 _ rfl
  have y2 := HX6.cell 2 _ rfl
  have y3 := HX6.cell 3 _ rfl
  have ly := HX6.lt
  have lv1 : g1 < V.heap.size := Nat.lt_of_lt_of_le lg1 HVW.out.size
  have lv2 : g2 < V.heap.size := Nat.lt_of_lt_of_le lg2 HVW.out.size
  have HNW : Hid (∀ j u, (editC ⟨k, had1, has2, old1, new2⟩)[j]? = some u → (V.drew.alloc (.cells (editC ⟨k, had1, has2, old1, new2⟩).toArray 46)).cell? ⟨V.drew.heap.size, j, none⟩ = some u) := fun j u hu => (Box.new V.drew (editC ⟨k, had1, has2, old1, new2⟩) 46 _ rfl).cell j u hu
  clear HX6 lg1 lg2
  refine wp_region_flags0 (joinPJ k B g1 o1 g2 o2 had1 has2 old1 new2 ao cap l ok V _ _ _ _ _ _ _ _ _ _ _ _ _ _ _ _ _ _ _ _ _ _ _ _ _ _ _ _ _ _ _ _ _ _ _ _ _ _ _ _ _ _ _ _ _ _ _ _ _ _ _ _ _ _ _ _ _ _ _ _ _ _ _ _ _ _ _ _) (by kernel_rfl) 22 rfl (by kernel_rfl) ⟨false, false, false, false, false, false, false, false, false, false, false, false, false, false, false, false, false, false, false, false, false, false, 0, 0, rfl, rfl, Lib.hid (by simp), Lib.hid (by simp), Lib.hid (by simp), Lib.hid (by simp), Lib.hid fun _ => rfl, Lib.hid (by simp), by simp, by simp⟩ ?fin ?step
  case fin =>
    rintro a' w' ⟨f0, f1, f2, f3, f4, f5, f6, f7, f8, f9, f10, f11, f12, f13, f14, f15, f16, f17, f18, f19, f20, f21, g8, cap8, hl, rfl, c18, c19, c20, c21, wA, wB, wC, wD⟩
    have hl' : [true, true, true, true, true, true, true, true, true, true, true, true, true, true, true, true, true, true, true, true, true, true] = [f0, f1, f2, f3, f4, f5, f6, f7, f8, f9, f10, f11, f12, f13, f14, f15, f16, f17, f18, f19, f20, f21] := congrArg Array.toList hl
    simp only [List.cons.injEq, and_true] at hl'
    obtain ⟨rfl, rfl, rfl, rfl, rfl, rfl, rfl, rfl, rfl, rfl, rfl, rfl, rfl, rfl, rfl, rfl, rfl, rfl, rfl, rfl, rfl, rfl⟩ := hl'
    unfold joinPUpd
    simp only [cond_true]
    obtain ⟨hj, hbB⟩ := wD rfl
    have HJ := Lib.hid hj
    have HBB := Lib.hid hbB
    clear hj hbB wA wB wC wD c18 c19 c20 c21
    go_wp2
    go_end0
    exact ⟨rfl, HJ.out, (HBW.out.mono (Nat.le_of_lt HBX.out.lt)).trans ((HVW.out.mono (Nat.le_of_lt HBX1.out.lt)).trans HBB.out)⟩
  case step =>
    rintro listed a' w' ⟨f0, f1, f2, f3, f4, f5, f6, f7, f8, f9, f10, f11, f12, f13, f14, f15, f16, f17, f18, f19, f20, f21, g8, cap8, rfl, rfl, c18, c19, c20, c21, wA, wB, wC, wD⟩ i hi
    rw [mem_ready] at hi
    obtain ⟨hu, o, ho, ha⟩ := hi
    have hi8 : i < 22 := (Array.getElem?_eq_some_iff.1 ho).1
    rcases (by omega : i = 0 ∨ i = 1 ∨ i = 2 ∨ i = 3 ∨ i = 4 ∨ i = 5 ∨ i = 6 ∨ i = 7 ∨ i = 8 ∨ i = 9 ∨ i = 10 ∨ i = 11 ∨ i = 12 ∨ i = 13 ∨ i = 14 ∨ i = 15 ∨ i = 16 ∨ i = 17 ∨ i = 18 ∨ i = 19 ∨ i = 20 ∨ i = 21) with rfl | rfl | rfl | rfl | rfl | rfl | rfl | rfl | rfl | rfl | rfl | rfl | rfl | rfl | rfl | rfl | rfl | rfl | rfl | rfl | rfl | rfl
    · have ho' := ho
      simp at hu ho
      subst hu ho
      clear ha
      have e20 : f20 = false := Bool.eq_false_iff.2 fun h => (Bool.false_ne_true ((c20.out h).2))
      subst e20
      have e21 : f21 = false := Bool.eq_false_iff.2 fun h => (Bool.false_ne_true (c21.out h))
      subst e21
      cases f19
      · obtain rfl := wA.out rfl
        refine .inl ?_
        unfold joinPUpd Oper.wp
        go_simp
        exact ⟨true, f1, f2, f3, f4, f5, f6, f7, f8, f9, f10, f11, f12, f13, f14, f15, f16, f17, f18, false, false, false, g8, cap8, rfl, rfl, c18, c19, Lib.hid (by simp), Lib.hid (by simp), Lib.hid fun _ => rfl, Lib.hid (by simp), by simp, by simp⟩
      · obtain rfl := wB.out rfl rfl
        refine .inl ?_
        unfold joinPUpd Oper.wp
        go_simp
        exact ⟨true, f1, f2, f3, f4, f5, f6, f7, f8, f9, f10, f11, f12, f13, f14, f15, f16, f17, f18, true, false, false, g8, cap8, rfl, rfl, c18, c19, Lib.hid (by simp), Lib.hid (by simp), Lib.hid (by simp), Lib.hid fun _ _ => rfl, by simp, by simp⟩
    · have ho' := ho
      simp at hu ho
      subst hu ho
      clear ha
      have e18 : f18 = false := Bool.eq_false_iff.2 fun h => (Bool.false_ne_true ((c18.out h).1))
      subst e18
      have e19 : f19 = false := Bool.eq_false_iff.2 fun h => (Bool.false_ne_true (c19.out h))
      subst e19
      have e20 : f20 = false := Bool.eq_false_iff.2 fun h => (Bool.false_ne_true ((c20.out h).1))
      subst e20
      obtain rfl := wA.out rfl
      refine .inl ?_
      unfold joinPUpd Oper.wp
      go_simp
      exact ⟨f0, true, f2, f3, f4, f5, f6, f7, f8, f9, f10, f11, f12, f13, f14, f15, f16, f17, false, false, false, f21, g8, cap8, rfl, rfl, Lib.hid (by simp), Lib.hid (by simp), Lib.hid (by simp), c21, Lib.hid fun _ => rfl, Lib.hid (by simp), by simp, wD⟩
    · have ho' := ho
      simp at hu ho
      subst hu ho
      clear ha
      refine .inl ?_
      unfold joinPUpd Oper.wp
      go_simp
      exact ⟨f0, f1, true, f3, f4, f5, f6, f7, f8, f9, f10, f11, f12, f13, f14, f15, f16, f17, f18, f19, f20, f21, g8, cap8, rfl, rfl, c18, c19, c20, c21, wA, wB, wC, wD⟩
    · have ho' := ho
      simp at hu ho
      subst hu ho
      simp [Region.binds] at ha
      obtain rfl : f2 = true := by simp_all
      clear ha
      refine .inl ?_
      unfold joinPUpd Oper.wp
      go_simp
      exact ⟨f0, f1, true, true, f4, f5, f6, f7, f8, f9, f10, f11, f12, f13, f14, f15, f16, f17, f18, f19, f20, f21, g8, cap8, rfl, rfl, c18, c19, c20, c21, wA, wB, wC, wD⟩
    · have ho' := ho
      simp at hu ho
      subst hu ho
      simp [Region.binds] at ha
      obtain rfl : f3 = true := by simp_all
      clear ha
      refine .inl ?_
      unfold joinPUpd Oper.wp
      go_simp
      exact ⟨f0, f1, f2, true, true, f5, f6, f7, f8, f9, f10, f11, f12, f13, f14, f15, f16, f17, f18, f19, f20, f21, g8, cap8, rfl, rfl, c18, c19, c20, c21, wA, wB, wC, wD⟩
    · have ho' := ho
      simp at hu ho
      subst hu ho
      simp [Region.binds] at ha
      obtain rfl : f4 = true := by simp_all
      clear ha
      have e18 : f18 = false := Bool.eq_false_iff.2 fun h => (Bool.false_ne_true ((c18.out h).2.1))
      subst e18
      have e19 : f19 = false := Bool.eq_false_iff.2 fun h => (Bool.false_ne_true (c19.out h))
      subst e19
      have e20 : f20 = false := Bool.eq_false_iff.2 fun h => (Bool.false_ne_true ((c20.out h).1))
      subst e20
      obtain rfl := wA.out rfl
      refine .inl ?_
      unfold joinPUpd Oper.wp
      go_simp
      exact ⟨f0, f1, f2, f3, true, true, f6, f7, f8, f9, f10, f11, f12, f13, f14, f15, f16, f17, false, false, false, f21, g8, cap8, rfl, rfl, Lib.hid (by simp), Lib.hid (by simp), Lib.hid (by simp), c21, Lib.hid fun _ => rfl, Lib.hid (by simp), by simp, wD⟩
    · have ho' := ho
      simp at hu ho
      subst hu ho
      clear ha
      refine .inl ?_
      unfold joinPUpd Oper.wp
      go_simp
      exact ⟨f0, f1, f2, f3, f4, f5, true, f7, f8, f9, f10, f11, f12, f13, f14, f15, f16, f17, f18, f19, f20, f21, g8, cap8, rfl, rfl, c18, c19, c20, c21, wA, wB, wC, wD⟩
    · have ho' := ho
      simp at hu ho
      subst hu ho
      simp [Region.binds] at ha
      obtain rfl : f6 = true := by simp_all
      clear ha
      refine .inl ?_
      unfold joinPUpd Oper.wp
      go_simp
      exact ⟨f0, f1, f2, f3, f4, f5, true, true, f8, f9, f10, f11, f12, f13, f14, f15, f16, f17, f18, f19, f20, f21, g8, cap8, rfl, rfl, c18, c19, c20, c21, wA, wB, wC, wD⟩
    · have ho' := ho
      simp at hu ho
      subst hu ho
      simp [Region.binds] at ha
      obtain rfl : f7 = true := by simp_all
      clear ha
      refine .inl ?_
      unfold joinPUpd Oper.wp
      go_simp
      exact ⟨f0, f1, f2, f3, f4, f5, f6, true, true, f9, f10, f11, f12, f13, f14, f15, f16, f17, f18, f19, f20, f21, g8, cap8, rfl, rfl, c18, c19, c20, c21, wA, wB, wC, wD⟩
    · have ho' := ho
      simp at hu ho
      subst hu ho
      simp [Region.binds] at ha
      obtain rfl : f8 = true := by simp_all
      clear ha
      have e18 : f18 = false := Bool.eq_false_iff.2 fun h => (Bool.false_ne_true ((c18.out h).2.2.1))
      subst e18
      have e19 : f19 = false := Bool.eq_false_iff.2 fun h => (Bool.false_ne_true (c19.out h))
      subst e19
      have e20 : f20 = false := Bool.eq_false_iff.2 fun h => (Bool.false_ne_true ((c20.out h).1))
      subst e20
      obtain rfl := wA.out rfl
      refine .inl ?_
      unfold joinPUpd Oper.wp
      go_simp
      exact ⟨f0, f1, f2, f3, f4, f5, f6, f7, true, true, f10, f11, f12, f13, f14, f15, f16, f17, false, false, false, f21, g8, cap8, rfl, rfl, Lib.hid (by simp), Lib.hid (by simp), Lib.hid (by simp), c21, Lib.hid fun _ => rfl, Lib.hid (by simp), by simp, wD⟩
    · have ho' := ho
      simp at hu ho
      subst hu ho
      clear ha
      refine .inl ?_
      unfold joinPUpd Oper.wp
      go_simp
      exact ⟨f0, f1, f2, f3, f4, f5, f6, f7, f8, f9, true, f11, f12, f13, f14, f15, f16, f17, f18, f19, f20, f21, g8, cap8, rfl, rfl, c18, c19, c20, c21, wA, wB, wC, wD⟩
    · have ho' := ho
      simp at hu ho
      subst hu ho
      simp [Region.binds] at ha
      obtain rfl : f10 = true := by simp_all
      clear ha
      refine .inl ?_
      unfold joinPUpd Oper.wp
      go_simp
      exact ⟨f0, f1, f2, f3, f4, f5, f6, f7, f8, f9, true, true, f12, f13, f14, f15, f16, f17, f18, f19, f20, f21, g8, cap8, rfl, rfl, c18, c19, c20, c21, wA, wB, wC, wD⟩
    · have ho' := ho
      simp at hu ho
      subst hu ho
      simp [Region.binds] at ha
      obtain rfl : f11 = true := by simp_all
      clear ha
      refine .inl ?_
      unfold joinPUpd Oper.wp
      go_simp
      exact ⟨f0, f1, f2, f3, f4, f5, f6, f7, f8, f9, f10, true, true, f13, f14, f15, f16, f17, f18, f19, f20, f21, g8, cap8, rfl, rfl, c18, c19, c20, c21, wA, wB, wC, wD⟩
    · have ho' := ho
      simp at hu ho
      subst hu ho
      simp [Region.binds] at ha
      obtain rfl : f12 = true := by simp_all
      clear ha
      have e18 : f18 = false := Bool.eq_false_iff.2 fun h => (Bool.false_ne_true ((c18.out h).2.2.2.1))
      subst e18
      have e19 : f19 = false := Bool.eq_false_iff.2 fun h => (Bool.false_ne_true (c19.out h))
      subst e19
      have e20 : f20 = false := Bool.eq_false_iff.2 fun h => (Bool.false_ne_true ((c20.out h).1))
      subst e20
      obtain rfl := wA.out rfl
      refine .inl ?_
      unfold joinPUpd Oper.wp
      go_simp
      exact ⟨f0, f1, f2, f3, f4, f5, f6, f7, f8, f9, f10, f11, true, true, f14, f15, f16, f17, false, false, false, f21, g8, cap8, rfl, rfl, Lib.hid (by simp), Lib.hid (by simp), Lib.hid (by simp), c21, Lib.hid fun _ => rfl, Lib.hid (by simp), by simp, wD⟩
    · have ho' := ho
      simp at hu ho
      subst hu ho
      clear ha
      refine .inl ?_
      unfold joinPUpd Oper.wp
      go_simp
      exact ⟨f0, f1, f2, f3, f4, f5, f6, f7, f8, f9, f10, f11, f12, f13, true, f15, f16, f17, f18, f19, f20, f21, g8, cap8, rfl, rfl, c18, c19, c20, c21, wA, wB, wC, wD⟩
    · have ho' := ho
      simp at hu ho
      subst hu ho
      simp [Region.binds] at ha
      obtain rfl : f14 = true := by simp_all
      clear ha
      refine .inl ?_
      unfold joinPUpd Oper.wp
      go_simp
      exact ⟨f0, f1, f2, f3, f4, f5, f6, f7, f8, f9, f10, f11, f12, f13, true, true, f16, f17, f18, f19, f20, f21, g8, cap8, rfl, rfl, c18, c19, c20, c21, wA, wB, wC, wD⟩
    · have ho' := ho
      simp at hu ho
      subst hu ho
      simp [Region.binds] at ha
      obtain rfl : f15 = true := by simp_all
      clear ha
      refine .inl ?_
      unfold joinPUpd Oper.wp
      go_simp
      exact ⟨f0, f1, f2, f3, f4, f5, f6, f7, f8, f9, f10, f11, f12, f13, f14, true, true, f17, f18, f19, f20, f21, g8, cap8, rfl, rfl, c18, c19, c20, c21, wA, wB, wC, wD⟩
    · have ho' := ho
      simp at hu ho
      subst hu ho
      simp [Region.binds] at ha
      obtain rfl : f16 = true := by simp_all
      clear ha
      have e18 : f18 = false := Bool.eq_false_iff.2 fun h => (Bool.false_ne_true ((c18.out h).2.2.2.2))
      subst e18
      have e19 : f19 = false := Bool.eq_false_iff.2 fun h => (Bool.false_ne_true (c19.out h))
      subst e19
      have e20 : f20 = false := Bool.eq_false_iff.2 fun h => (Bool.false_ne_true ((c20.out h).1))
      subst e20
      obtain rfl := wA.out rfl
      refine .inl ?_
      unfold joinPUpd Oper.wp
      go_simp
      exact ⟨f0, f1, f2, f3, f4, f5, f6, f7, f8, f9, f10, f11, f12, f13, f14, f15, true, true, false, false, false, f21, g8, cap8, rfl, rfl, Lib.hid (by simp), Lib.hid (by simp), Lib.hid (by simp), c21, Lib.hid fun _ => rfl, Lib.hid (by simp), by simp, wD⟩
    · have ho' := ho
      simp at hu ho
      subst hu ho
      simp [Region.binds] at ha
      obtain rfl : f1 = true := by simp_all
      obtain rfl : f5 = true := by simp_all
      obtain rfl : f9 = true := by simp_all
      obtain rfl : f13 = true := by simp_all
      obtain rfl : f17 = true := by simp_all
      clear ha
      have e19 : f19 = false := Bool.eq_false_iff.2 fun h => (Bool.false_ne_true (c19.out h))
      subst e19
      have e20 : f20 = false := Bool.eq_false_iff.2 fun h => (Bool.false_ne_true ((c20.out h).1))
      subst e20
      obtain rfl := wA.out rfl
      refine .inl ?_
      unfold joinPUpd Oper.wp
      go_simp
      exact ⟨f0, true, f2, f3, f4, true, f6, f7, f8, true, f10, f11, f12, true, f14, f15, f16, true, true, false, false, f21, g8, cap8, rfl, rfl, Lib.hid (by simp), Lib.hid (by simp), Lib.hid (by simp), c21, Lib.hid fun _ => rfl, Lib.hid (by simp), by simp, wD⟩
    · have ho' := ho
      simp at hu ho
      subst hu ho
      simp [Region.binds] at ha
      obtain rfl : f18 = true := by simp_all
      clear ha
      have e20 : f20 = false := Bool.eq_false_iff.2 fun h => (Bool.false_ne_true ((c20.out h).1))
      subst e20
      have e21 : f21 = false := Bool.eq_false_iff.2 fun h => (Bool.false_ne_true (c21.out h))
      subst e21
      obtain rfl := wA.out rfl
      refine .inl ?_
      unfold joinPUpd Oper.wp
      go_simp
      exact ⟨f0, f1, f2, f3, f4, f5, f6, f7, f8, f9, f10, f11, f12, f13, f14, f15, f16, f17, true, true, false, false, g8, cap8, rfl, rfl, c18, Lib.hid (by simp), Lib.hid (by simp), Lib.hid (by simp), Lib.hid (by simp), Lib.hid fun _ _ => rfl, by simp, by simp⟩
    · have ho' := ho
      simp at hu ho
      subst hu ho
      simp [Region.binds] at ha
      obtain rfl : f0 = true := by simp_all
      obtain rfl : f19 = true := by simp_all
      clear ha
      have e21 : f21 = false := Bool.eq_false_iff.2 fun h => (Bool.false_ne_true (c21.out h))
      subst e21
      obtain rfl := wB.out rfl rfl
      unfold joinPUpd
      refine wpOp_do ho' (by rfl) ?_
      refine wp_append_one rfl (.tmp 68) (.tmp 87) 29 rfl (B + 2) 46 Try.underlying29 info_edit rfl (by decide) editC_len (.slice ao l.length cap) l (by simp [Act.eval]) (HOW2.out.drew.alloc _) V.drew.heap.size ⟨k, had1, has2, old1, new2⟩ (by simp [Act.eval]) HNW.out editC_one HBY.out (by decide) (by simp; have := HBX2.out.lt; have := HBK2.out.lt; omega) (V.drew.heap.size + 1) (by simp) ?_
      intro g9 cap9 w9 hown9 hgrow9 _ _
      simp only [Act.put, List.setIfInBounds_toArray, List.set_cons_succ, List.set_cons_zero]
      exact ⟨true, f1, f2, f3, f4, f5, f6, f7, f8, f9, f10, f11, f12, f13, f14, f15, f16, f17, f18, true, true, false, g9, cap9, rfl, rfl, c18, c19, Lib.hid (by simp), Lib.hid (by simp), Lib.hid (by simp), Lib.hid (by simp), fun _ _ => ⟨hgrow9, hown9⟩, by simp⟩
    · have ho' := ho
      simp at hu ho
      subst hu ho
      simp [Region.binds] at ha
      obtain rfl : f20 = true := by simp_all
      clear ha
      obtain ⟨hgr, how⟩ := wC rfl rfl
      obtain ⟨rfl, rfl⟩ := c20.out rfl
      have b8 := join_box (HBX2.out.drew.alloc _) (HOW2.out.drew.alloc _) hgr
      have c8 := b8.cell 0 _ rfl
      have f8x := b8.free 0
      have l8 := b8.lt
      have HP := Lib.hid (JoinAt.push (HBX2.out.drew.alloc _) (HBK2.out.drew.alloc _) (HOW2.out.drew.alloc _) hgr how)
      clear b8 hgr how wC wD
      refine .inl ?_
      unfold joinPUpd Oper.wp
      go_simp
      exact ⟨true, f1, f2, f3, f4, f5, f6, f7, f8, f9, f10, f11, f12, f13, f14, f15, f16, f17, f18, true, true, true, g8, cap8, rfl, rfl, c18, c19, Lib.hid (by simp), Lib.hid (by simp), Lib.hid (by simp), Lib.hid (by simp), by simp, fun _ => ⟨HP.out.1, (((belowN (Below.refl B V) 1).alloc (Nat.le_of_lt HBX2.out.lt) _).trans HP.out.2.2)⟩⟩

end Go.Proofs.Ytmcjpmogjmnfpaa
