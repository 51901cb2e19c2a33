/- The document's dependencies as an element; the conditions stand in the theorem. -/
import Derived.Test.YtbbbfjcikhpmbaaGreatJG14

namespace Go.Proofs.YtbbbfjcikhpmbaaGreat
open Go Go.RowKit

theorem rows2 {X : Nat → Prop} {w : World} {v0 v1 : Value} {t0 t1 : List Tr} (h0 : RowX X w v0 t0) (h1 : RowX X w v1 t1) : ∀ (i : Nat) (x : Value) (ts : List Tr), [v0, v1][i]? = some x → [t0, t1][i]? = some ts → RowX X w x ts
 | 0, x, ts, hx, ht => by cases hx; cases ht; exact h0
 | 1, x, ts, hx, ht => by cases hx; cases ht; exact h1
 | i + 2, x, ts, hx, ht => by simp at hx
theorem rows8 {X : Nat → Prop} {w : World} {v0 v1 v2 v3 v4 v5 v6 v7 : Value} {t0 t1 t2 t3 t4 t5 t6 t7 : List Tr} (h0 : RowX X w v0 t0) (h1 : RowX X w v1 t1) (h2 : RowX X w v2 t2) (h3 : RowX X w v3 t3) (h4 : RowX X w v4 t4) (h5 : RowX X w v5 t5) (h6 : RowX X w v6 t6) (h7 : RowX X w v7 t7) :
    ∀ (i : Nat) (x : Value) (ts : List Tr), [v0, v1, v2, v3, v4, v5, v6, v7][i]? = some x → [t0, t1, t2, t3, t4, t5, t6, t7][i]? = some ts → RowX X w x ts
 | 0, x, ts, hx, ht => by cases hx; cases ht; exact h0
 | 1, x, ts, hx, ht => by cases hx; cases ht; exact h1
 | 2, x, ts, hx, ht => by cases hx; cases ht; exact h2
 | 3, x, ts, hx, ht => by cases hx; cases ht; exact h3
 | 4, x, ts, hx, ht => by cases hx; cases ht; exact h4
 | 5, x, ts, hx, ht => by cases hx; cases ht; exact h5
 | 6, x, ts, hx, ht => by cases hx; cases ht; exact h6
 | 7, x, ts, hx, ht => by cases hx; cases ht; exact h7
 | i + 8, x, ts, hx, ht => by simp at hx
theorem lens2 {t0 t1 : List Tr} {n : Nat} (h0 : t0.length ≤ n) (h1 : t1.length ≤ n) : ∀ ts ∈ [t0, t1], ts.length ≤ n := fun ts h => by
 simp only [List.mem_cons, List.not_mem_nil, or_false] at h
 rcases h with rfl | rfl <;> assumption
theorem flat2 (t0 t1 : List Tr) : [t0, t1].flatten = t0 ++ t1 := by simp
theorem Grow.rowX {X : Nat → Prop} {b : Nat} {w : World} {v : Value} {ts : List Tr} {L : List TrV} (h : Grow b w v ts L) (hX : ∀ j, X j → j < b) : RowX X w v ts :=
 ⟨L, h.are, h.sliceX (fun g hg hx => by have h1 := hX g hx; have h2 := (h.lt g hg).1; omega), fun y hy => (h.nodes y hy).keep (KeptX.refl _ _) (fun k _ hx => .inl (hX k hx))⟩
def optS (n : Int) : S := if n = 1 then bs bTrue else if n = 2 then bs bFalse else ⟨#[]⟩
theorem opt_leaf (n : Int) : leafT bOptional (optS n) = optT n := by
 unfold optS optT
 split
 · rfl
 · split
   · rfl
   · kernel_rfl
def e9Upd (B8 : Nat) (y1 y2 : S) (xo : Option Addr) (xc : Nat) (XL : List TrV) (x0 x1 x2 x3 x4 x5 y6 x7 x8 x9 x10 x11 x12 x13 x14 x15 x16 x17 x18 x19 x20 x21 x22 x23 y24 y25 y26 y27 y28 y29 y30 y31 y32 y33 y34 y35 x36 x37 x38 x39 x40 x41 x42 x43 x44 x45 x46 x47 x48 x49 x50 x51 x52 x53 x54 x55 x56 x57 x58 x59 x60 x61 x62 x63 x64 x65 x66 x67 x68 x69 x70 x71 x72 x73 x74 x75 : Value) (f0 f1 f2 f3 f4 f5 f6 f7 f8 f9 f10 f11 f12 : Bool) (o27 : Option Addr) (n27 : Nat) (c27 : Nat) (o30 : Option Addr) (n30 : Nat) (c30 : Nat) (H31 : Nat) (o32 : Option Addr) (n32 : Nat) (c32 : Nat) (H34 : Nat) (o35 : Option Addr) (c35 : Nat) : Act :=
 ⟨#[x0, x1, x2, x3, x4, x5, cond f12 (.slice o35 (XL.length + 1) c35) y6, x7, x8, x9, x10, x11, x12, x13, x14, x15, x16, x17, x18, x19, x20, x21, x22, x23, cond f0 (.slice xo XL.length xc) y24, cond f1 (.pointer (some ⟨B8, 0, none⟩)) y25, cond f2 (.string y1) y26, cond f3 (.slice o27 n27 c27) y27, cond f4 (.pointer (some ⟨B8, 1, none⟩)) y28, cond f5 (.string y2) y29, cond f6 (.slice o30 n30 c30) y30, cond f7 (.slice (some ⟨H31, 0, none⟩) 2 2) y31, cond f8 (.slice o32 n32 c32) y32, cond f9 (.agg #[.string (bs bExclusion), .slice none 0 0, .slice o32 n32 c32, .string ⟨#[]⟩]) y33, cond f10 (.slice (some ⟨H34, 0, none⟩) 1 1) y34, cond f11 (.slice o35 (XL.length + 1) c35) y35, x36, x37, x38, x39, x40, x41, x42, x43, x44, x45, x46, x47, x48, x49, x50, x51, x52, x53, x54, x55, x56, x57, x58, x59, x60, x61, x62, x63, x64, x65, x66, x67, x68, x69, x70, x71, x72, x73, x74, x75], []⟩
inductive e9J (B B8 : Nat) (y1 y2 : S) (xo : Option Addr) (xc : Nat) (XL : List TrV) (ts : List Tr) (V : World) (x0 x1 x2 x3 x4 x5 y6 x7 x8 x9 x10 x11 x12 x13 x14 x15 x16 x17 x18 x19 x20 x21 x22 x23 y24 y25 y26 y27 y28 y29 y30 y31 y32 y33 y34 y35 x36 x37 x38 x39 x40 x41 x42 x43 x44 x45 x46 x47 x48 x49 x50 x51 x52 x53 x54 x55 x56 x57 x58 x59 x60 x61 x62 x63 x64 x65 x66 x67 x68 x69 x70 x71 x72 x73 x74 x75 : Value) : Array Bool → Act → World → Prop where
 | mk (f0 f1 f2 f3 f4 f5 f6 f7 f8 f9 f10 f11 f12 : Bool) (o27 : Option Addr) (n27 : Nat) (c27 : Nat) (o30 : Option Addr) (n30 : Nat) (c30 : Nat) (H31 : Nat) (o32 : Option Addr) (n32 : Nat) (c32 : Nat) (H34 : Nat) (o35 : Option Addr) (c35 : Nat) (w' : World) (ch2 : Hid (f2 = true → f1 = true)) (ch3 : Hid (f3 = true → f2 = true)) (ch5 : Hid (f5 = true → f4 = true)) (ch6 : Hid (f6 = true → f5 = true)) (ch7 : Hid (f7 = true → f3 = true ∧ f6 = true)) (ch8 : Hid (f8 = true → f7 = true)) (ch9 : Hid (f9 = true → f8 = true)) (ch10 : Hid (f10 = true → f9 = true)) (ch11 : Hid (f11 = true → f0 = true ∧ f10 = true)) (ch12 : Hid (f12 = true → f11 = true)) (hB : (f11 = false → Below V.heap.size V w')) (r27 : (f3 = true → f11 = false → RowX (fun j => j < V.heap.size) w' (.slice o27 n27 c27) (leafT bGroup y1))) (r30 : (f6 = true → f11 = false → RowX (fun j => j < V.heap.size) w' (.slice o30 n30 c30) (leafT bArtifact y2))) (r31 : (f7 = true → f11 = false → RowsX (fun j => j < V.heap.size) w' (.slice (some ⟨H31, 0, none⟩) 2 2) [(leafT bGroup y1), (leafT bArtifact y2)])) (r32 : (f8 = true → f11 = false → RowX (fun j => j < V.heap.size) w' (.slice o32 n32 c32) (leafT bGroup y1 ++ leafT bArtifact y2))) (r34 : (f10 = true → f11 = false → SliceOf 4 trC w' (.slice (some ⟨H34, 0, none⟩) 1 1) [((.mk bExclusion [] (leafT bGroup y1 ++ leafT bArtifact y2) [], .slice none 0 0, .slice o32 n32 c32) : TrV)])) (r35 : (f11 = true → Grow B w' (.slice o35 (XL.length + 1) c35) (ts ++ [.mk bExclusion [] (leafT bGroup y1 ++ leafT bArtifact y2) []]) (XL ++ [((.mk bExclusion [] (leafT bGroup y1 ++ leafT bArtifact y2) [], .slice none 0 0, .slice o32 n32 c32) : TrV)]) ∧ Below B V w')) : e9J B B8 y1 y2 xo xc XL ts V x0 x1 x2 x3 x4 x5 y6 x7 x8 x9 x10 x11 x12 x13 x14 x15 x16 x17 x18 x19 x20 x21 x22 x23 y24 y25 y26 y27 y28 y29 y30 y31 y32 y33 y34 y35 x36 x37 x38 x39 x40 x41 x42 x43 x44 x45 x46 x47 x48 x49 x50 x51 x52 x53 x54 x55 x56 x57 x58 x59 x60 x61 x62 x63 x64 x65 x66 x67 x68 x69 x70 x71 x72 x73 x74 x75 #[f0, f1, f2, f3, f4, f5, f6, f7, f8, f9, f10, f11, f12] (e9Upd B8 y1 y2 xo xc XL x0 x1 x2 x3 x4 x5 y6 x7 x8 x9 x10 x11 x12 x13 x14 x15 x16 x17 x18 x19 x20 x21 x22 x23 y24 y25 y26 y27 y28 y29 y30 y31 y32 y33 y34 y35 x36 x37 x38 x39 x40 x41 x42 x43 x44 x45 x46 x47 x48 x49 x50 x51 x52 x53 x54 x55 x56 x57 x58 x59 x60 x61 x62 x63 x64 x65 x66 x67 x68 x69 x70 x71 x72 x73 x74 x75 f0 f1 f2 f3 f4 f5 f6 f7 f8 f9 f10 f11 f12 o27 n27 c27 o30 n30 c30 H31 o32 n32 c32 H34 o35 c35) w'
theorem e9J.at {B B8 : Nat} {y1 y2 : S} {xo : Option Addr} {xc : Nat} {XL : List TrV} {ts : List Tr} {V : World} {x0 x1 x2 x3 x4 x5 y6 x7 x8 x9 x10 x11 x12 x13 x14 x15 x16 x17 x18 x19 x20 x21 x22 x23 y24 y25 y26 y27 y28 y29 y30 y31 y32 y33 y34 y35 x36 x37 x38 x39 x40 x41 x42 x43 x44 x45 x46 x47 x48 x49 x50 x51 x52 x53 x54 x55 x56 x57 x58 x59 x60 x61 x62 x63 x64 x65 x66 x67 x68 x69 x70 x71 x72 x73 x74 x75 : Value} {listed : Array Bool} {atx : Act} {w' : World} (f0 f1 f2 f3 f4 f5 f6 f7 f8 f9 f10 f11 f12 : Bool) (o27 : Option Addr) (n27 : Nat) (c27 : Nat) (o30 : Option Addr) (n30 : Nat) (c30 : Nat) (H31 : Nat) (o32 : Option Addr) (n32 : Nat) (c32 : Nat) (H34 : Nat) (o35 : Option Addr) (c35 : Nat) (hl : listed = #[f0, f1, f2, f3, f4, f5, f6, f7, f8, f9, f10, f11, f12]) (ha : atx = e9Upd B8 y1 y2 xo xc XL x0 x1 x2 x3 x4 x5 y6 x7 x8 x9 x10 x11 x12 x13 x14 x15 x16 x17 x18 x19 x20 x21 x22 x23 y24 y25 y26 y27 y28 y29 y30 y31 y32 y33 y34 y35 x36 x37 x38 x39 x40 x41 x42 x43 x44 x45 x46 x47 x48 x49 x50 x51 x52 x53 x54 x55 x56 x57 x58 x59 x60 x61 x62 x63 x64 x65 x66 x67 x68 x69 x70 x71 x72 x73 x74 x75 f0 f1 f2 f3 f4 f5 f6 f7 f8 f9 f10 f11 f12 o27 n27 c27 o30 n30 c30 H31 o32 n32 c32 H34 o35 c35) (ch2 : Hid (f2 = true → f1 = true)) (ch3 : Hid (f3 = true → f2 = true)) (ch5 : Hid (f5 = true → f4 = true)) (ch6 : Hid (f6 = true → f5 = true)) (ch7 : Hid (f7 = true → f3 = true ∧ f6 = true)) (ch8 : Hid (f8 = true → f7 = true)) (ch9 : Hid (f9 = true → f8 = true)) (ch10 : Hid (f10 = true → f9 = true)) (ch11 : Hid (f11 = true → f0 = true ∧ f10 = true)) (ch12 : Hid (f12 = true → f11 = true)) (hB : (f11 = false → Below V.heap.size V w')) (r27 : (f3 = true → f11 = false → RowX (fun j => j < V.heap.size) w' (.slice o27 n27 c27) (leafT bGroup y1))) (r30 : (f6 = true → f11 = false → RowX (fun j => j < V.heap.size) w' (.slice o30 n30 c30) (leafT bArtifact y2))) (r31 : (f7 = true → f11 = false → RowsX (fun j => j < V.heap.size) w' (.slice (some ⟨H31, 0, none⟩) 2 2) [(leafT bGroup y1), (leafT bArtifact y2)])) (r32 : (f8 = true → f11 = false → RowX (fun j => j < V.heap.size) w' (.slice o32 n32 c32) (leafT bGroup y1 ++ leafT bArtifact y2))) (r34 : (f10 = true → f11 = false → SliceOf 4 trC w' (.slice (some ⟨H34, 0, none⟩) 1 1) [((.mk bExclusion [] (leafT bGroup y1 ++ leafT bArtifact y2) [], .slice none 0 0, .slice o32 n32 c32) : TrV)])) (r35 : (f11 = true → Grow B w' (.slice o35 (XL.length + 1) c35) (ts ++ [.mk bExclusion [] (leafT bGroup y1 ++ leafT bArtifact y2) []]) (XL ++ [((.mk bExclusion [] (leafT bGroup y1 ++ leafT bArtifact y2) [], .slice none 0 0, .slice o32 n32 c32) : TrV)]) ∧ Below B V w')) : e9J B B8 y1 y2 xo xc XL ts V x0 x1 x2 x3 x4 x5 y6 x7 x8 x9 x10 x11 x12 x13 x14 x15 x16 x17 x18 x19 x20 x21 x22 x23 y24 y25 y26 y27 y28 y29 y30 y31 y32 y33 y34 y35 x36 x37 x38 x39 x40 x41 x42 x43 x44 x45 x46 x47 x48 x49 x50 x51 x52 x53 x54 x55 x56 x57 x58 x59 x60 x61 x62 x63 x64 x65 x66 x67 x68 x69 x70 x71 x72 x73 x74 x75 listed atx w' := by
 subst hl ha
 exact .mk f0 f1 f2 f3 f4 f5 f6 f7 f8 f9 f10 f11 f12 o27 n27 c27 o30 n30 c30 H31 o32 n32 c32 H34 o35 c35 w' ch2 ch3 ch5 ch6 ch7 ch8 ch9 ch10 ch11 ch12 hB r27 r30 r31 r32 r34 r35
def e16Upd (B5 : Nat) (d : Dep) (os : S) (xo : Option Addr) (xn xc : Nat) (x0 x1 x2 x3 x4 x5 x6 x7 x8 x9 y10 x11 x12 x13 x14 x15 x16 x17 x18 x19 x20 x21 x22 x23 x24 x25 x26 x27 x28 x29 x30 x31 x32 x33 x34 x35 x36 x37 x38 x39 x40 x41 x42 y43 y44 y45 y46 y47 y48 y49 y50 y51 y52 y53 y54 y55 y56 y57 y58 y59 y60 y61 y62 y63 y64 y65 y66 y67 x68 x69 x70 x71 x72 x73 x74 x75 : Value) (f0 f1 f2 f3 f4 f5 f6 f7 f8 f9 f10 f11 f12 f13 f14 f15 f16 f17 f18 f19 f20 f21 f22 f23 f24 f25 : Bool) (o45 : Option Addr) (n45 : Nat) (c45 : Nat) (o48 : Option Addr) (n48 : Nat) (c48 : Nat) (o51 : Option Addr) (n51 : Nat) (c51 : Nat) (o54 : Option Addr) (n54 : Nat) (c54 : Nat) (o57 : Option Addr) (n57 : Nat) (c57 : Nat) (o61 : Option Addr) (n61 : Nat) (c61 : Nat) (o63 : Option Addr) (n63 : Nat) (c63 : Nat) (o65 : Option Addr) (n65 : Nat) (c65 : Nat) (H66 : Nat) (o67 : Option Addr) (n67 : Nat) (c67 : Nat) : Act :=
 ⟨#[x0, x1, x2, x3, x4, x5, x6, x7, x8, x9, cond f25 (.slice o67 n67 c67) y10, x11, x12, x13, x14, x15, x16, x17, x18, x19, x20, x21, x22, x23, x24, x25, x26, x27, x28, x29, x30, x31, x32, x33, x34, x35, x36, x37, x38, x39, x40, x41, x42, cond f0 (.pointer (some ⟨B5, 0, none⟩)) y43, cond f1 (.string d.group) y44, cond f2 (.slice o45 n45 c45) y45, cond f3 (.pointer (some ⟨B5, 1, none⟩)) y46, cond f4 (.string d.artifact) y47, cond f5 (.slice o48 n48 c48) y48, cond f6 (.pointer (some ⟨B5, 2, none⟩)) y49, cond f7 (.string d.version) y50, cond f8 (.slice o51 n51 c51) y51, cond f9 (.pointer (some ⟨B5, 3, none⟩)) y52, cond f10 (.string d.type) y53, cond f11 (.slice o54 n54 c54) y54, cond f12 (.pointer (some ⟨B5, 4, none⟩)) y55, cond f13 (.string d.classifier) y56, cond f14 (.slice o57 n57 c57) y57, cond f15 (.pointer (some ⟨B5, 5, none⟩)) y58, cond f16 (.int .i64 d.scope) y59, cond f17 (.string (bs (wordB d.scope))) y60, cond f18 (.slice o61 n61 c61) y61, cond f19 (.string os) y62, cond f20 (.slice o63 n63 c63) y63, cond f21 (.slice xo xn xc) y64, cond f22 (.slice o65 n65 c65) y65, cond f23 (.slice (some ⟨H66, 0, none⟩) 8 8) y66, cond f24 (.slice o67 n67 c67) y67, x68, x69, x70, x71, x72, x73, x74, x75], []⟩
inductive e16J (B5 : Nat) (d : Dep) (os : S) (xo : Option Addr) (xn xc : Nat) (xs : List Tr) (V : World) (x0 x1 x2 x3 x4 x5 x6 x7 x8 x9 y10 x11 x12 x13 x14 x15 x16 x17 x18 x19 x20 x21 x22 x23 x24 x25 x26 x27 x28 x29 x30 x31 x32 x33 x34 x35 x36 x37 x38 x39 x40 x41 x42 y43 y44 y45 y46 y47 y48 y49 y50 y51 y52 y53 y54 y55 y56 y57 y58 y59 y60 y61 y62 y63 y64 y65 y66 y67 x68 x69 x70 x71 x72 x73 x74 x75 : Value) : Array Bool → Act → World → Prop where
 | mk (f0 f1 f2 f3 f4 f5 f6 f7 f8 f9 f10 f11 f12 f13 f14 f15 f16 f17 f18 f19 f20 f21 f22 f23 f24 f25 : Bool) (o45 : Option Addr) (n45 : Nat) (c45 : Nat) (o48 : Option Addr) (n48 : Nat) (c48 : Nat) (o51 : Option Addr) (n51 : Nat) (c51 : Nat) (o54 : Option Addr) (n54 : Nat) (c54 : Nat) (o57 : Option Addr) (n57 : Nat) (c57 : Nat) (o61 : Option Addr) (n61 : Nat) (c61 : Nat) (o63 : Option Addr) (n63 : Nat) (c63 : Nat) (o65 : Option Addr) (n65 : Nat) (c65 : Nat) (H66 : Nat) (o67 : Option Addr) (n67 : Nat) (c67 : Nat) (w' : World) (ch1 : Hid (f1 = true → f0 = true)) (ch2 : Hid (f2 = true → f1 = true)) (ch4 : Hid (f4 = true → f3 = true)) (ch5 : Hid (f5 = true → f4 = true)) (ch7 : Hid (f7 = true → f6 = true)) (ch8 : Hid (f8 = true → f7 = true)) (ch10 : Hid (f10 = true → f9 = true)) (ch11 : Hid (f11 = true → f10 = true)) (ch13 : Hid (f13 = true → f12 = true)) (ch14 : Hid (f14 = true → f13 = true)) (ch16 : Hid (f16 = true → f15 = true)) (ch17 : Hid (f17 = true → f16 = true)) (ch18 : Hid (f18 = true → f17 = true)) (ch20 : Hid (f20 = true → f19 = true)) (ch22 : Hid (f22 = true → f21 = true)) (ch23 : Hid (f23 = true → f2 = true ∧ f5 = true ∧ f8 = true ∧ f11 = true ∧ f14 = true ∧ f18 = true ∧ f20 = true ∧ f22 = true)) (ch24 : Hid (f24 = true → f23 = true)) (ch25 : Hid (f25 = true → f24 = true)) (hB : Below V.heap.size V w') (r45 : (f2 = true → RowX (fun j => j < B5) w' (.slice o45 n45 c45) (leafT bGroup d.group))) (r48 : (f5 = true → RowX (fun j => j < B5) w' (.slice o48 n48 c48) (leafT bArtifact d.artifact))) (r51 : (f8 = true → RowX (fun j => j < B5) w' (.slice o51 n51 c51) (leafT bVersion d.version))) (r54 : (f11 = true → RowX (fun j => j < B5) w' (.slice o54 n54 c54) (leafT bType d.type))) (r57 : (f14 = true → RowX (fun j => j < B5) w' (.slice o57 n57 c57) (leafT bClassifier d.classifier))) (r61 : (f18 = true → RowX (fun j => j < B5) w' (.slice o61 n61 c61) (leafT bScope (bs (wordB d.scope))))) (r63 : (f20 = true → RowX (fun j => j < B5) w' (.slice o63 n63 c63) (leafT bOptional os))) (r65 : (f22 = true → RowX (fun j => j < B5) w' (.slice o65 n65 c65) (branchT bExclusions xs))) (r66 : (f23 = true → RowsX (fun j => j < B5) w' (.slice (some ⟨H66, 0, none⟩) 8 8) [leafT bGroup d.group, leafT bArtifact d.artifact, leafT bVersion d.version, leafT bType d.type, leafT bClassifier d.classifier, leafT bScope (bs (wordB d.scope)), leafT bOptional os, branchT bExclusions xs])) (r67 : (f24 = true → RowX (fun j => j < B5) w' (.slice o67 n67 c67) ([leafT bGroup d.group, leafT bArtifact d.artifact, leafT bVersion d.version, leafT bType d.type, leafT bClassifier d.classifier, leafT bScope (bs (wordB d.scope)), leafT bOptional os, branchT bExclusions xs].flatten))) : e16J B5 d os xo xn xc xs V x0 x1 x2 x3 x4 x5 x6 x7 x8 x9 y10 x11 x12 x13 x14 x15 x16 x17 x18 x19 x20 x21 x22 x23 x24 x25 x26 x27 x28 x29 x30 x31 x32 x33 x34 x35 x36 x37 x38 x39 x40 x41 x42 y43 y44 y45 y46 y47 y48 y49 y50 y51 y52 y53 y54 y55 y56 y57 y58 y59 y60 y61 y62 y63 y64 y65 y66 y67 x68 x69 x70 x71 x72 x73 x74 x75 #[f0, f1, f2, f3, f4, f5, f6, f7, f8, f9, f10, f11, f12, f13, f14, f15, f16, f17, f18, f19, f20, f21, f22, f23, f24, f25] (e16Upd B5 d os xo xn xc x0 x1 x2 x3 x4 x5 x6 x7 x8 x9 y10 x11 x12 x13 x14 x15 x16 x17 x18 x19 x20 x21 x22 x23 x24 x25 x26 x27 x28 x29 x30 x31 x32 x33 x34 x35 x36 x37 x38 x39 x40 x41 x42 y43 y44 y45 y46 y47 y48 y49 y50 y51 y52 y53 y54 y55 y56 y57 y58 y59 y60 y61 y62 y63 y64 y65 y66 y67 x68 x69 x70 x71 x72 x73 x74 x75 f0 f1 f2 f3 f4 f5 f6 f7 f8 f9 f10 f11 f12 f13 f14 f15 f16 f17 f18 f19 f20 f21 f22 f23 f24 f25 o45 n45 c45 o48 n48 c48 o51 n51 c51 o54 n54 c54 o57 n57 c57 o61 n61 c61 o63 n63 c63 o65 n65 c65 H66 o67 n67 c67) w'
theorem e16J.at {B5 : Nat} {d : Dep} {os : S} {xo : Option Addr} {xn xc : Nat} {xs : List Tr} {V : World} {x0 x1 x2 x3 x4 x5 x6 x7 x8 x9 y10 x11 x12 x13 x14 x15 x16 x17 x18 x19 x20 x21 x22 x23 x24 x25 x26 x27 x28 x29 x30 x31 x32 x33 x34 x35 x36 x37 x38 x39 x40 x41 x42 y43 y44 y45 y46 y47 y48 y49 y50 y51 y52 y53 y54 y55 y56 y57 y58 y59 y60 y61 y62 y63 y64 y65 y66 y67 x68 x69 x70 x71 x72 x73 x74 x75 : Value} {listed : Array Bool} {atx : Act} {w' : World} (f0 f1 f2 f3 f4 f5 f6 f7 f8 f9 f10 f11 f12 f13 f14 f15 f16 f17 f18 f19 f20 f21 f22 f23 f24 f25 : Bool) (o45 : Option Addr) (n45 : Nat) (c45 : Nat) (o48 : Option Addr) (n48 : Nat) (c48 : Nat) (o51 : Option Addr) (n51 : Nat) (c51 : Nat) (o54 : Option Addr) (n54 : Nat) (c54 : Nat) (o57 : Option Addr) (n57 : Nat) (c57 : Nat) (o61 : Option Addr) (n61 : Nat) (c61 : Nat) (o63 : Option Addr) (n63 : Nat) (c63 : Nat) (o65 : Option Addr) (n65 : Nat) (c65 : Nat) (H66 : Nat) (o67 : Option Addr) (n67 : Nat) (c67 : Nat) (hl : listed = #[f0, f1, f2, f3, f4, f5, f6, f7, f8, f9, f10, f11, f12, f13, f14, f15, f16, f17, f18, f19, f20, f21, f22, f23, f24, f25]) (ha : atx = e16Upd B5 d os xo xn xc x0 x1 x2 x3 x4 x5 x6 x7 x8 x9 y10 x11 x12 x13 x14 x15 x16 x17 x18 x19 x20 x21 x22 x23 x24 x25 x26 x27 x28 x29 x30 x31 x32 x33 x34 x35 x36 x37 x38 x39 x40 x41 x42 y43 y44 y45 y46 y47 y48 y49 y50 y51 y52 y53 y54 y55 y56 y57 y58 y59 y60 y61 y62 y63 y64 y65 y66 y67 x68 x69 x70 x71 x72 x73 x74 x75 f0 f1 f2 f3 f4 f5 f6 f7 f8 f9 f10 f11 f12 f13 f14 f15 f16 f17 f18 f19 f20 f21 f22 f23 f24 f25 o45 n45 c45 o48 n48 c48 o51 n51 c51 o54 n54 c54 o57 n57 c57 o61 n61 c61 o63 n63 c63 o65 n65 c65 H66 o67 n67 c67) (ch1 : Hid (f1 = true → f0 = true)) (ch2 : Hid (f2 = true → f1 = true)) (ch4 : Hid (f4 = true → f3 = true)) (ch5 : Hid (f5 = true → f4 = true)) (ch7 : Hid (f7 = true → f6 = true)) (ch8 : Hid (f8 = true → f7 = true)) (ch10 : Hid (f10 = true → f9 = true)) (ch11 : Hid (f11 = true → f10 = true)) (ch13 : Hid (f13 = true → f12 = true)) (ch14 : Hid (f14 = true → f13 = true)) (ch16 : Hid (f16 = true → f15 = true)) (ch17 : Hid (f17 = true → f16 = true)) (ch18 : Hid (f18 = true → f17 = true)) (ch20 : Hid (f20 = true → f19 = true)) (ch22 : Hid (f22 = true → f21 = true)) (ch23 : Hid (f23 = true → f2 = true ∧ f5 = true ∧ f8 = true ∧ f11 = true ∧ f14 = true ∧ f18 = true ∧ f20 = true ∧ f22 = true)) (ch24 : Hid (f24 = true → f23 = true)) (ch25 : Hid (f25 = true → f24 = true)) (hB : Below V.heap.size V w') (r45 : (f2 = true → RowX (fun j => j < B5) w' (.slice o45 n45 c45) (leafT bGroup d.group))) (r48 : (f5 = true → RowX (fun j => j < B5) w' (.slice o48 n48 c48) (leafT bArtifact d.artifact))) (r51 : (f8 = true → RowX (fun j => j < B5) w' (.slice o51 n51 c51) (leafT bVersion d.version))) (r54 : (f11 = true → RowX (fun j => j < B5) w' (.slice o54 n54 c54) (leafT bType d.type))) (r57 : (f14 = true → RowX (fun j => j < B5) w' (.slice o57 n57 c57) (leafT bClassifier d.classifier))) (r61 : (f18 = true → RowX (fun j => j < B5) w' (.slice o61 n61 c61) (leafT bScope (bs (wordB d.scope))))) (r63 : (f20 = true → RowX (fun j => j < B5) w' (.slice o63 n63 c63) (leafT bOptional os))) (r65 : (f22 = true → RowX (fun j => j < B5) w' (.slice o65 n65 c65) (branchT bExclusions xs))) (r66 : (f23 = true → RowsX (fun j => j < B5) w' (.slice (some ⟨H66, 0, none⟩) 8 8) [leafT bGroup d.group, leafT bArtifact d.artifact, leafT bVersion d.version, leafT bType d.type, leafT bClassifier d.classifier, leafT bScope (bs (wordB d.scope)), leafT bOptional os, branchT bExclusions xs])) (r67 : (f24 = true → RowX (fun j => j < B5) w' (.slice o67 n67 c67) ([leafT bGroup d.group, leafT bArtifact d.artifact, leafT bVersion d.version, leafT bType d.type, leafT bClassifier d.classifier, leafT bScope (bs (wordB d.scope)), leafT bOptional os, branchT bExclusions xs].flatten))) : e16J B5 d os xo xn xc xs V x0 x1 x2 x3 x4 x5 x6 x7 x8 x9 y10 x11 x12 x13 x14 x15 x16 x17 x18 x19 x20 x21 x22 x23 x24 x25 x26 x27 x28 x29 x30 x31 x32 x33 x34 x35 x36 x37 x38 x39 x40 x41 x42 y43 y44 y45 y46 y47 y48 y49 y50 y51 y52 y53 y54 y55 y56 y57 y58 y59 y60 y61 y62 y63 y64 y65 y66 y67 x68 x69 x70 x71 x72 x73 x74 x75 listed atx w' := by
 subst hl ha
 exact .mk f0 f1 f2 f3 f4 f5 f6 f7 f8 f9 f10 f11 f12 f13 f14 f15 f16 f17 f18 f19 f20 f21 f22 f23 f24 f25 o45 n45 c45 o48 n48 c48 o51 n51 c51 o54 n54 c54 o57 n57 c57 o61 n61 c61 o63 n63 c63 o65 n65 c65 H66 o67 n67 c67 w' ch1 ch2 ch4 ch5 ch7 ch8 ch10 ch11 ch13 ch14 ch16 ch17 ch18 ch20 ch22 ch23 ch24 ch25 hB r45 r48 r51 r54 r57 r61 r63 r65 r66 r67
set_option maxRecDepth 100000 in
set_option maxHeartbeats 16000000 in
theorem depsR_any (X : Nat → Prop) (dv : Value) (ds : List Dep) (w : World) (hd : DepsOf w dv ds) (hX : ∀ j, X j → j < w.heap.size) (hn : ds.length ≤ 2000) (hx : ∀ d ∈ ds, d.excl.length ≤ 2000) :
    Calls Tryz.prog 59 #[dv] w (RowP X (depsT ds) w) := by
 obtain ⟨l, hel, hdl, hdo⟩ := hd
 have hlen : l.length = ds.length := by rw [← hel, List.length_map]
 obtain ⟨lo, lc, rfl⟩ := hdl.shape
 have HDL := Lib.hid hdl
 have HDO := Lib.hid hdo
 have HEL := Lib.hid hel
 have HXX := Lib.hid hX
 have HXN : Hid (∀ q ∈ l, q.1.excl.length ≤ 2000) := fun q hq => hx _ (by rw [← hel]; exact List.mem_map.2 ⟨q, hq, rfl⟩)
 have HLN : Hid (l.length ≤ 2000) := by show _ ≤ _; omega
 have hln : l.length ≤ 2000 := HLN.out
 clear hel hdl hdo hx hlen hn hX
 go_enter Tryz.func59, Tryz.ntmps59
 go_wp2
 go_loopw [3, 13] (fun av i wr => ∃ (k : Nat) (oa : Option Addr) (oc : Nat) (AL : List TrV), k ≤ l.length ∧ i = .int .i64 k ∧ av = .slice oa AL.length oc ∧ Hid (Below w.heap.size w wr ∧ Grow w.heap.size wr (.slice oa AL.length oc) ((l.take k).map (fun q => depT q.1)) AL)) (fun _ i _ => l.length - (intOf i).toNat)
 case atStart => exact ⟨0, none, 0, [], Nat.zero_le _, rfl, rfl, Below.refl _ _, Grow.nil _ _⟩
 case round =>
  obtain ⟨k, oa, oc, AL, hk, rfl, rfl, HRR⟩ := hrel
  by_cases hlt : k < l.length
  · have HTK := Lib.hid (List.take_succ_eq_append_getElem hlt)
    have HXK := Lib.hid (HXN.out l[k] (List.getElem_mem hlt))
    have hok := (HDO.out l[k] (List.getElem_mem hlt)).below HRR.out.1
    obtain ⟨g, o, rfl, hg, c0, c1, c2, c3, c4, c5, c6, c7⟩ := (HDL.out.below HRR.out.1).atDep hlt
    have hsr := HRR.out.1.size
    have HLT : Hid (k < l.length) := hlt
    have hkI : (k : Int) < (l.length : Int) := by omega
    generalize l[k] = q at *
    obtain ⟨d, dx⟩ := q
    obtain ⟨eo, ec, rfl⟩ := hok.shape
    simp only at c0 c1 c2 c3 c4 c5 c6 c7
    have HOK : Hid (SliceOf 2 idC wr (.slice eo d.excl.length ec) d.excl) := hok
    clear hok
    go_upto_region 5 with fail
    refine wp_world ?_
    intro W4 hW4
    have x4 : Box W4 wr.heap.size [.string d.group, .string d.artifact, .string d.version, .string d.type, .string d.classifier, .int .i64 d.scope, .int .i64 d.opt, .slice eo d.excl.length ec] := by rw [hW4]; exact Box.new wr [.string d.group, .string d.artifact, .string d.version, .string d.type, .string d.classifier, .int .i64 d.scope, .int .i64 d.opt, .slice eo d.excl.length ec] _ _ rfl
    have hb4 : Below wr.heap.size wr W4 := by rw [hW4]; exact (Below.refl _ _).alloc (Nat.le_refl _) _
    clear hW4 c0 c1 c2 c3 c4 c5 c6 c7
    have HD := Lib.hid x4
    have HB4 := Lib.hid hb4
    have HOK4 := Lib.hid (HOK.out.below hb4)
    have s4 : wr.heap.size < W4.heap.size := x4.lt
    have hb40 := HB4
    clear x4 hb4
    have d7 := HD.out.cell 7 _ rfl
    have hdx : d.excl.length ≤ 2000 := HXK.out
    obtain ⟨wo, rfl⟩ : ∃ wo : World, wo = wr := ⟨wr, rfl⟩
    go_wp2_with fail
    go_loopw [6, 20] (fun xv i wr => ∃ (j : Nat) (qo : Option Addr) (qc : Nat) (XL : List TrV), j ≤ d.excl.length ∧ i = .int .i64 j ∧ xv = .slice qo XL.length qc ∧ Hid (Grow (wo.heap.size + 1) wr (.slice qo XL.length qc) ((d.excl.take j).map exT) XL) ∧ Hid (Below (wo.heap.size + 1) W4 wr)) (fun _ i _ => d.excl.length - (intOf i).toNat)
    case atStart => exact ⟨0, none, 0, [], Nat.zero_le _, rfl, rfl, Lib.hid (Grow.nil _ _), Lib.hid (Below.refl _ _)⟩
    case round =>
     obtain ⟨j, qo, qc, XL, hj, rfl, rfl, HXG0, HXB0⟩ := hrel
     by_cases hjl : j < d.excl.length
     · have HTJ := Lib.hid (List.take_succ_eq_append_getElem hjl)
       obtain ⟨xb, xq, rfl, hxl, i0, i1⟩ := SliceOf.atId HOK.out hjl
       have hxw := HXB0.out.size
       have hjI : (j : Int) < (d.excl.length : Int) := by omega
       have i0 := (HXB0.out.cell (p := ⟨xb, xq + j * 2, none⟩) (by exact Nat.lt_succ_of_lt hxl)).trans ((hb40.out.cell (by exact hxl)).trans i0)
       have i1 := (HXB0.out.cell (p := ⟨xb, xq + j * 2 + 1, none⟩) (by exact Nat.lt_succ_of_lt hxl)).trans ((hb40.out.cell (by exact hxl)).trans i1)
       have hxl2 : xb < wr.heap.size := by omega
       generalize d.excl[j] = yy at *
       obtain ⟨y1, y2⟩ := yy
       simp only at i0 i1
       go_upto_region 9 with fail
       refine wp_world ?_
       intro V8 hV8
       have x8 : Box V8 wr.heap.size [.string y1, .string y2] := by rw [hV8]; exact Box.new wr [.string y1, .string y2] _ _ rfl
       have hb8 : Below wr.heap.size wr V8 := by rw [hV8]; exact (Below.refl _ _).alloc (Nat.le_refl _) _
       clear hV8 i0 i1 d7
       have HI := Lib.hid x8
       have HXG := Lib.hid (HXG0.out.below hb8)
       have HVS : Hid (wo.heap.size + 1 ≤ V8.heap.size) := Nat.le_trans (Nat.le_trans s4 hxw) hb8.size
       have HB8 := Lib.hid (HXB0.out.trans (hb8.mono (Nat.le_trans s4 hxw)))
       have HXB : Hid (XL.length ≤ 2000) := by
        show _ ≤ _
        have h1 := HXG0.out.len
        rw [List.length_map, List.length_take] at h1
        omega
       clear x8 hb8
       obtain ⟨TS, hTS⟩ : ∃ TS, TS = (d.excl.take j).map exT := ⟨_, rfl⟩
       rw [← hTS] at HXG
       have HTS := Lib.hid hTS
       clear hTS
       refine wp_region_flags0 (e9J (wo.heap.size + 1) wr.heap.size y1 y2 qo qc XL TS V8 _ _ _ _ _ _ _ _ _ _ _ _ _ _ _ _ _ _ _ _ _ _ _ _ _ _ _ _ _ _ _ _ _ _ _ _ _ _ _ _ _ _ _ _ _ _ _ _ _ _ _ _ _ _ _ _ _ _ _ _ _ _ _ _ _ _ _ _ _ _ _ _ _ _ _ _) (by kernel_rfl) 13 rfl (by kernel_rfl) (e9J.at false false false false false false false false false false false false false (none) (0) (0) (none) (0) (0) (0) (none) (0) (0) (0) (none) (0) rfl (by unfold e9Upd; rfl) ?i0 ?i1 ?i2 ?i3 ?i4 ?i5 ?i6 ?i7 ?i8 ?i9 ?i10 ?i11 ?i12 ?i13 ?i14 ?i15 ?i16) ?fin ?step
       case i0 => exact Lib.hid (by simp)
       case i1 => exact Lib.hid (by simp)
       case i2 => exact Lib.hid (by simp)
       case i3 => exact Lib.hid (by simp)
       case i4 => exact Lib.hid (by simp)
       case i5 => exact Lib.hid (by simp)
       case i6 => exact Lib.hid (by simp)
       case i7 => exact Lib.hid (by simp)
       case i8 => exact Lib.hid (by simp)
       case i9 => exact Lib.hid (by simp)
       case i10 => exact fun h0 => belowN (Below.refl _ _) 1
       case i11 => exact by simp
       case i12 => exact by simp
       case i13 => exact by simp
       case i14 => exact by simp
       case i15 => exact by simp
       case i16 => exact by simp
       case fin =>
        intro a' w' hJ
        generalize hl : Array.replicate 13 true = Lz at hJ
        cases hJ with
        | mk f0 f1 f2 f3 f4 f5 f6 f7 f8 f9 f10 f11 f12 o27 n27 c27 o30 n30 c30 H31 o32 n32 c32 H34 o35 c35 _ ch2 ch3 ch5 ch6 ch7 ch8 ch9 ch10 ch11 ch12 hB r27 r30 r31 r32 r34 r35 =>
         have hl' : [true, true, true, true, true, true, true, true, true, true, true, true, true] = [f0, f1, f2, f3, f4, f5, f6, f7, f8, f9, f10, f11, f12] := congrArg Array.toList hl
         simp only [List.cons.injEq, and_true] at hl'
         obtain ⟨rfl, rfl, rfl, rfl, rfl, rfl, rfl, rfl, rfl, rfl, rfl, rfl, rfl⟩ := hl'
         clear hl
         unfold e9Upd
         simp only [cond_true]
         have HD9 := Lib.hid (r35 rfl)
         clear ch2 ch3 ch5 ch6 ch7 ch8 ch9 ch10 ch11 ch12 hB r27 r30 r31 r32 r34 r35
         go_wp2
         go_roundw
         case rel =>
          refine ⟨j + 1, o35, c35, XL ++ [((.mk bExclusion [] (leafT bGroup y1 ++ leafT bArtifact y2) [], .slice none 0 0, .slice o32 n32 c32) : TrV)], by omega, by go_num, by simp, Lib.hid ?_, Lib.hid (HB8.out.trans HD9.out.2)⟩
          rw [List.length_append, List.length_singleton, HTJ.out, List.map_append, ← HTS.out]
          exact HD9.out.1
         case measure => simp [intOf]; omega
       case step =>
        intro listed a' w' hJ i hi
        cases hJ with
        | mk f0 f1 f2 f3 f4 f5 f6 f7 f8 f9 f10 f11 f12 o27 n27 c27 o30 n30 c30 H31 o32 n32 c32 H34 o35 c35 _ ch2 ch3 ch5 ch6 ch7 ch8 ch9 ch10 ch11 ch12 hB r27 r30 r31 r32 r34 r35 =>
         rw [mem_ready] at hi
         obtain ⟨hu, o, ho, ha⟩ := hi
         have hi8 : i < 13 := (Array.getElem?_eq_some_iff.1 ho).1
         rcases (by omega : i = 0 ∨ i = 1 ∨ i = 2 ∨ i = 3 ∨ i = 4 ∨ i = 5 ∨ i = 6 ∨ i = 7 ∨ i = 8 ∨ i = 9 ∨ i = 10 ∨ i = 11 ∨ i = 12) with rfl | rfl | rfl | rfl | rfl | rfl | rfl | rfl | rfl | rfl | rfl | rfl | rfl
         · have ho' := ho
           simp at hu ho
           subst hu ho
           clear ha
           have e11 : f11 = false := Bool.eq_false_iff.2 fun h => Bool.false_ne_true ((ch11.out h).1)
           have e12 : f12 = false := Bool.eq_false_iff.2 fun h => Bool.false_ne_true ((ch11.out (ch12.out h)).1)
           subst e11 e12
           refine .inl ?_
           unfold e9Upd Oper.wp
           go_simp
           exact e9J.at true f1 f2 f3 f4 f5 f6 f7 f8 f9 f10 false false (o27) (n27) (c27) (o30) (n30) (c30) (H31) (o32) (n32) (c32) (H34) (o35) (c35) rfl rfl (ch2) (ch3) (ch5) (ch6) (ch7) (ch8) (ch9) (ch10) (Lib.hid (by simp)) (Lib.hid (by simp)) (hB) (r27) (r30) (r31) (r32) (r34) (by simp)
         · have ho' := ho
           simp at hu ho
           subst hu ho
           clear ha
           have e2 : f2 = false := Bool.eq_false_iff.2 fun h => Bool.false_ne_true ((ch2.out h))
           have e3 : f3 = false := Bool.eq_false_iff.2 fun h => Bool.false_ne_true ((ch2.out (ch3.out h)))
           have e7 : f7 = false := Bool.eq_false_iff.2 fun h => Bool.false_ne_true ((ch2.out (ch3.out (ch7.out h).1)))
           have e8 : f8 = false := Bool.eq_false_iff.2 fun h => Bool.false_ne_true ((ch2.out (ch3.out (ch7.out (ch8.out h)).1)))
           have e9 : f9 = false := Bool.eq_false_iff.2 fun h => Bool.false_ne_true ((ch2.out (ch3.out (ch7.out (ch8.out (ch9.out h))).1)))
           have e10 : f10 = false := Bool.eq_false_iff.2 fun h => Bool.false_ne_true ((ch2.out (ch3.out (ch7.out (ch8.out (ch9.out (ch10.out h)))).1)))
           have e11 : f11 = false := Bool.eq_false_iff.2 fun h => Bool.false_ne_true ((ch2.out (ch3.out (ch7.out (ch8.out (ch9.out (ch10.out (ch11.out h).2)))).1)))
           have e12 : f12 = false := Bool.eq_false_iff.2 fun h => Bool.false_ne_true ((ch2.out (ch3.out (ch7.out (ch8.out (ch9.out (ch10.out (ch11.out (ch12.out h)).2)))).1)))
           subst e2 e3 e7 e8 e9 e10 e11 e12
           refine .inl ?_
           unfold e9Upd Oper.wp
           go_simp
           exact e9J.at f0 true false false f4 f5 f6 false false false false false false (o27) (n27) (c27) (o30) (n30) (c30) (H31) (o32) (n32) (c32) (H34) (o35) (c35) rfl rfl (Lib.hid (by simp)) (Lib.hid (by simp)) (ch5) (ch6) (Lib.hid (by simp)) (Lib.hid (by simp)) (Lib.hid (by simp)) (Lib.hid (by simp)) (Lib.hid (by simp)) (Lib.hid (by simp)) (hB) (by simp) (r30) (by simp) (by simp) (by simp) (by simp)
         · have ho' := ho
           simp at hu ho
           subst hu ho
           simp [Region.binds] at ha
           obtain rfl : f1 = true := by simp only [ha]
           clear ha
           have e3 : f3 = false := Bool.eq_false_iff.2 fun h => Bool.false_ne_true ((ch3.out h))
           have e7 : f7 = false := Bool.eq_false_iff.2 fun h => Bool.false_ne_true ((ch3.out (ch7.out h).1))
           have e8 : f8 = false := Bool.eq_false_iff.2 fun h => Bool.false_ne_true ((ch3.out (ch7.out (ch8.out h)).1))
           have e9 : f9 = false := Bool.eq_false_iff.2 fun h => Bool.false_ne_true ((ch3.out (ch7.out (ch8.out (ch9.out h))).1))
           have e10 : f10 = false := Bool.eq_false_iff.2 fun h => Bool.false_ne_true ((ch3.out (ch7.out (ch8.out (ch9.out (ch10.out h)))).1))
           have e11 : f11 = false := Bool.eq_false_iff.2 fun h => Bool.false_ne_true ((ch3.out (ch7.out (ch8.out (ch9.out (ch10.out (ch11.out h).2)))).1))
           have e12 : f12 = false := Bool.eq_false_iff.2 fun h => Bool.false_ne_true ((ch3.out (ch7.out (ch8.out (ch9.out (ch10.out (ch11.out (ch12.out h)).2)))).1))
           subst e3 e7 e8 e9 e10 e11 e12
           have hB1 := hB rfl
           have k0 := (hB1.cell (p := ⟨wr.heap.size, 0, none⟩) (by exact HI.out.lt)).trans (HI.out.cell 0 _ rfl)
           have kl := Nat.lt_of_lt_of_le HI.out.lt hB1.size
           refine .inl ?_
           unfold e9Upd Oper.wp
           go_simp
           exact e9J.at f0 true true false f4 f5 f6 false false false false false false (o27) (n27) (c27) (o30) (n30) (c30) (H31) (o32) (n32) (c32) (H34) (o35) (c35) rfl rfl (Lib.hid (by simp)) (Lib.hid (by simp)) (ch5) (ch6) (Lib.hid (by simp)) (Lib.hid (by simp)) (Lib.hid (by simp)) (Lib.hid (by simp)) (Lib.hid (by simp)) (Lib.hid (by simp)) (hB) (by simp) (r30) (by simp) (by simp) (by simp) (by simp)
         · have ho' := ho
           simp at hu ho
           subst hu ho
           simp [Region.binds] at ha
           obtain rfl : f2 = true := by simp only [ha]
           clear ha
           obtain rfl : f1 = true := (ch2.out rfl)
           have e7 : f7 = false := Bool.eq_false_iff.2 fun h => Bool.false_ne_true ((ch7.out h).1)
           have e8 : f8 = false := Bool.eq_false_iff.2 fun h => Bool.false_ne_true ((ch7.out (ch8.out h)).1)
           have e9 : f9 = false := Bool.eq_false_iff.2 fun h => Bool.false_ne_true ((ch7.out (ch8.out (ch9.out h))).1)
           have e10 : f10 = false := Bool.eq_false_iff.2 fun h => Bool.false_ne_true ((ch7.out (ch8.out (ch9.out (ch10.out h)))).1)
           have e11 : f11 = false := Bool.eq_false_iff.2 fun h => Bool.false_ne_true ((ch7.out (ch8.out (ch9.out (ch10.out (ch11.out h).2)))).1)
           have e12 : f12 = false := Bool.eq_false_iff.2 fun h => Bool.false_ne_true ((ch7.out (ch8.out (ch9.out (ch10.out (ch11.out (ch12.out h)).2)))).1)
           subst e7 e8 e9 e10 e11 e12
           have hS := (hB rfl).size
           refine .inl ?_
           unfold e9Upd Oper.wp
           go_simp
           refine (leafR_any (fun j => j < V8.heap.size) bGroup y1 w' (fun j h => Nat.lt_of_lt_of_le h hS)).mono ?_
           intro e w1 hO
           obtain ⟨o1, n1, c1, rfl, hr, hb⟩ := hO
           exact e9J.at f0 true true true f4 f5 f6 false false false false false false (o1) (n1) (c1) (o30) (n30) (c30) (H31) (o32) (n32) (c32) (H34) (o35) (c35) rfl rfl (Lib.hid (by simp)) (Lib.hid (by simp)) (ch5) (ch6) (Lib.hid (by simp)) (Lib.hid (by simp)) (Lib.hid (by simp)) (Lib.hid (by simp)) (Lib.hid (by simp)) (Lib.hid (by simp)) (fun h0 => (hB h0).trans (hb.mono hS)) (fun h0 h1 => hr) (fun h0 h1 => (r30 h0 h1).later hb) (by simp) (by simp) (by simp) (by simp)
         · have ho' := ho
           simp at hu ho
           subst hu ho
           clear ha
           have e5 : f5 = false := Bool.eq_false_iff.2 fun h => Bool.false_ne_true ((ch5.out h))
           have e6 : f6 = false := Bool.eq_false_iff.2 fun h => Bool.false_ne_true ((ch5.out (ch6.out h)))
           have e7 : f7 = false := Bool.eq_false_iff.2 fun h => Bool.false_ne_true ((ch5.out (ch6.out (ch7.out h).2)))
           have e8 : f8 = false := Bool.eq_false_iff.2 fun h => Bool.false_ne_true ((ch5.out (ch6.out (ch7.out (ch8.out h)).2)))
           have e9 : f9 = false := Bool.eq_false_iff.2 fun h => Bool.false_ne_true ((ch5.out (ch6.out (ch7.out (ch8.out (ch9.out h))).2)))
           have e10 : f10 = false := Bool.eq_false_iff.2 fun h => Bool.false_ne_true ((ch5.out (ch6.out (ch7.out (ch8.out (ch9.out (ch10.out h)))).2)))
           have e11 : f11 = false := Bool.eq_false_iff.2 fun h => Bool.false_ne_true ((ch5.out (ch6.out (ch7.out (ch8.out (ch9.out (ch10.out (ch11.out h).2)))).2)))
           have e12 : f12 = false := Bool.eq_false_iff.2 fun h => Bool.false_ne_true ((ch5.out (ch6.out (ch7.out (ch8.out (ch9.out (ch10.out (ch11.out (ch12.out h)).2)))).2)))
           subst e5 e6 e7 e8 e9 e10 e11 e12
           refine .inl ?_
           unfold e9Upd Oper.wp
           go_simp
           exact e9J.at f0 f1 f2 f3 true false false false false false false false false (o27) (n27) (c27) (o30) (n30) (c30) (H31) (o32) (n32) (c32) (H34) (o35) (c35) rfl rfl (ch2) (ch3) (Lib.hid (by simp)) (Lib.hid (by simp)) (Lib.hid (by simp)) (Lib.hid (by simp)) (Lib.hid (by simp)) (Lib.hid (by simp)) (Lib.hid (by simp)) (Lib.hid (by simp)) (hB) (r27) (by simp) (by simp) (by simp) (by simp) (by simp)
         · have ho' := ho
           simp at hu ho
           subst hu ho
           simp [Region.binds] at ha
           obtain rfl : f4 = true := by simp only [ha]
           clear ha
           have e6 : f6 = false := Bool.eq_false_iff.2 fun h => Bool.false_ne_true ((ch6.out h))
           have e7 : f7 = false := Bool.eq_false_iff.2 fun h => Bool.false_ne_true ((ch6.out (ch7.out h).2))
           have e8 : f8 = false := Bool.eq_false_iff.2 fun h => Bool.false_ne_true ((ch6.out (ch7.out (ch8.out h)).2))
           have e9 : f9 = false := Bool.eq_false_iff.2 fun h => Bool.false_ne_true ((ch6.out (ch7.out (ch8.out (ch9.out h))).2))
           have e10 : f10 = false := Bool.eq_false_iff.2 fun h => Bool.false_ne_true ((ch6.out (ch7.out (ch8.out (ch9.out (ch10.out h)))).2))
           have e11 : f11 = false := Bool.eq_false_iff.2 fun h => Bool.false_ne_true ((ch6.out (ch7.out (ch8.out (ch9.out (ch10.out (ch11.out h).2)))).2))
           have e12 : f12 = false := Bool.eq_false_iff.2 fun h => Bool.false_ne_true ((ch6.out (ch7.out (ch8.out (ch9.out (ch10.out (ch11.out (ch12.out h)).2)))).2))
           subst e6 e7 e8 e9 e10 e11 e12
           have hB1 := hB rfl
           have k0 := (hB1.cell (p := ⟨wr.heap.size, 1, none⟩) (by exact HI.out.lt)).trans (HI.out.cell 1 _ rfl)
           have kl := Nat.lt_of_lt_of_le HI.out.lt hB1.size
           refine .inl ?_
           unfold e9Upd Oper.wp
           go_simp
           exact e9J.at f0 f1 f2 f3 true true false false false false false false false (o27) (n27) (c27) (o30) (n30) (c30) (H31) (o32) (n32) (c32) (H34) (o35) (c35) rfl rfl (ch2) (ch3) (Lib.hid (by simp)) (Lib.hid (by simp)) (Lib.hid (by simp)) (Lib.hid (by simp)) (Lib.hid (by simp)) (Lib.hid (by simp)) (Lib.hid (by simp)) (Lib.hid (by simp)) (hB) (r27) (by simp) (by simp) (by simp) (by simp) (by simp)
         · have ho' := ho
           simp at hu ho
           subst hu ho
           simp [Region.binds] at ha
           obtain rfl : f5 = true := by simp only [ha]
           clear ha
           obtain rfl : f4 = true := (ch5.out rfl)
           have e7 : f7 = false := Bool.eq_false_iff.2 fun h => Bool.false_ne_true ((ch7.out h).2)
           have e8 : f8 = false := Bool.eq_false_iff.2 fun h => Bool.false_ne_true ((ch7.out (ch8.out h)).2)
           have e9 : f9 = false := Bool.eq_false_iff.2 fun h => Bool.false_ne_true ((ch7.out (ch8.out (ch9.out h))).2)
           have e10 : f10 = false := Bool.eq_false_iff.2 fun h => Bool.false_ne_true ((ch7.out (ch8.out (ch9.out (ch10.out h)))).2)
           have e11 : f11 = false := Bool.eq_false_iff.2 fun h => Bool.false_ne_true ((ch7.out (ch8.out (ch9.out (ch10.out (ch11.out h).2)))).2)
           have e12 : f12 = false := Bool.eq_false_iff.2 fun h => Bool.false_ne_true ((ch7.out (ch8.out (ch9.out (ch10.out (ch11.out (ch12.out h)).2)))).2)
           subst e7 e8 e9 e10 e11 e12
           have hS := (hB rfl).size
           refine .inl ?_
           unfold e9Upd Oper.wp
           go_simp
           refine (leafR_any (fun j => j < V8.heap.size) bArtifact y2 w' (fun j h => Nat.lt_of_lt_of_le h hS)).mono ?_
           intro e w1 hO
           obtain ⟨o1, n1, c1, rfl, hr, hb⟩ := hO
           exact e9J.at f0 f1 f2 f3 true true true false false false false false false (o27) (n27) (c27) (o1) (n1) (c1) (H31) (o32) (n32) (c32) (H34) (o35) (c35) rfl rfl (ch2) (ch3) (Lib.hid (by simp)) (Lib.hid (by simp)) (Lib.hid (by simp)) (Lib.hid (by simp)) (Lib.hid (by simp)) (Lib.hid (by simp)) (Lib.hid (by simp)) (Lib.hid (by simp)) (fun h0 => (hB h0).trans (hb.mono hS)) (fun h0 h1 => (r27 h0 h1).later hb) (fun h0 h1 => hr) (by simp) (by simp) (by simp) (by simp)
         · have ho' := ho
           simp at hu ho
           subst hu ho
           simp [Region.binds] at ha
           obtain rfl : f3 = true := by simp only [ha]
           obtain rfl : f6 = true := by simp only [ha]
           clear ha
           obtain rfl : f5 = true := (ch6.out rfl)
           obtain rfl : f4 = true := (ch5.out (ch6.out rfl))
           obtain rfl : f2 = true := (ch3.out rfl)
           obtain rfl : f1 = true := (ch2.out (ch3.out rfl))
           have e8 : f8 = false := Bool.eq_false_iff.2 fun h => Bool.false_ne_true ((ch8.out h))
           have e9 : f9 = false := Bool.eq_false_iff.2 fun h => Bool.false_ne_true ((ch8.out (ch9.out h)))
           have e10 : f10 = false := Bool.eq_false_iff.2 fun h => Bool.false_ne_true ((ch8.out (ch9.out (ch10.out h))))
           have e11 : f11 = false := Bool.eq_false_iff.2 fun h => Bool.false_ne_true ((ch8.out (ch9.out (ch10.out (ch11.out h).2))))
           have e12 : f12 = false := Bool.eq_false_iff.2 fun h => Bool.false_ne_true ((ch8.out (ch9.out (ch10.out (ch11.out (ch12.out h)).2))))
           subst e8 e9 e10 e11 e12
           have hS := (hB rfl).size
           have hal := fun o => (Below.refl w'.heap.size w').alloc (Nat.le_refl w'.heap.size) o
           refine .inl ?_
           unfold e9Upd Oper.wp
           go_simp
           exact e9J.at f0 true true true true true true true false false false false false (o27) (n27) (c27) (o30) (n30) (c30) (w'.heap.size) (o32) (n32) (c32) (H34) (o35) (c35) rfl rfl (Lib.hid (by simp)) (Lib.hid (by simp)) (Lib.hid (by simp)) (Lib.hid (by simp)) (Lib.hid (by simp)) (Lib.hid (by simp)) (Lib.hid (by simp)) (Lib.hid (by simp)) (Lib.hid (by simp)) (Lib.hid (by simp)) (fun h0 => (hB h0).trans ((hal _).mono hS)) (fun h0 h1 => (r27 h0 h1).later (hal _)) (fun h0 h1 => (r30 h0 h1).later (hal _)) (fun h0 h1 => rows_lit [.slice o27 n27 c27, .slice o30 n30 c30] [(leafT bGroup y1), (leafT bArtifact y2)] w' _ _ rfl rfl (by simp [maxLen]) (rows2 (r27 rfl rfl) (r30 rfl rfl))) (by simp) (by simp) (by simp)
         · have ho' := ho
           simp at hu ho
           subst hu ho
           simp [Region.binds] at ha
           obtain rfl : f7 = true := by simp only [ha]
           clear ha
           obtain rfl : f6 = true := (ch7.out rfl).2
           obtain rfl : f5 = true := (ch6.out (ch7.out rfl).2)
           obtain rfl : f4 = true := (ch5.out (ch6.out (ch7.out rfl).2))
           obtain rfl : f3 = true := (ch7.out rfl).1
           obtain rfl : f2 = true := (ch3.out (ch7.out rfl).1)
           obtain rfl : f1 = true := (ch2.out (ch3.out (ch7.out rfl).1))
           have e9 : f9 = false := Bool.eq_false_iff.2 fun h => Bool.false_ne_true ((ch9.out h))
           have e10 : f10 = false := Bool.eq_false_iff.2 fun h => Bool.false_ne_true ((ch9.out (ch10.out h)))
           have e11 : f11 = false := Bool.eq_false_iff.2 fun h => Bool.false_ne_true ((ch9.out (ch10.out (ch11.out h).2)))
           have e12 : f12 = false := Bool.eq_false_iff.2 fun h => Bool.false_ne_true ((ch9.out (ch10.out (ch11.out (ch12.out h)).2)))
           subst e9 e10 e11 e12
           have hS := (hB rfl).size
           refine .inl ?_
           unfold e9Upd Oper.wp
           go_simp
           refine (allR_any (fun j => j < V8.heap.size) _ _ w' (r31 rfl rfl) (fun j h => Nat.lt_of_lt_of_le h hS) (by simp) (lens2 (Nat.le_trans (leafT_len _ _) (by decide)) (Nat.le_trans (leafT_len _ _) (by decide)))).mono ?_
           intro e w1 hO
           obtain ⟨o1, n1, c1, rfl, hr, hb⟩ := hO
           rw [flat2] at hr
           exact e9J.at f0 true true true true true true true true false false false false (o27) (n27) (c27) (o30) (n30) (c30) (H31) (o1) (n1) (c1) (H34) (o35) (c35) rfl rfl (Lib.hid (by simp)) (Lib.hid (by simp)) (Lib.hid (by simp)) (Lib.hid (by simp)) (Lib.hid (by simp)) (Lib.hid (by simp)) (Lib.hid (by simp)) (Lib.hid (by simp)) (Lib.hid (by simp)) (Lib.hid (by simp)) (fun h0 => (hB h0).trans (hb.mono hS)) (fun h0 h1 => (r27 h0 h1).later hb) (fun h0 h1 => (r30 h0 h1).later hb) (fun h0 h1 => (r31 h0 h1).later hb) (fun h0 h1 => hr) (by simp) (by simp)
         · have ho' := ho
           simp at hu ho
           subst hu ho
           simp [Region.binds] at ha
           obtain rfl : f8 = true := by simp only [ha]
           clear ha
           obtain rfl : f7 = true := (ch8.out rfl)
           obtain rfl : f6 = true := (ch7.out (ch8.out rfl)).2
           obtain rfl : f5 = true := (ch6.out (ch7.out (ch8.out rfl)).2)
           obtain rfl : f4 = true := (ch5.out (ch6.out (ch7.out (ch8.out rfl)).2))
           obtain rfl : f3 = true := (ch7.out (ch8.out rfl)).1
           obtain rfl : f2 = true := (ch3.out (ch7.out (ch8.out rfl)).1)
           obtain rfl : f1 = true := (ch2.out (ch3.out (ch7.out (ch8.out rfl)).1))
           have e10 : f10 = false := Bool.eq_false_iff.2 fun h => Bool.false_ne_true ((ch10.out h))
           have e11 : f11 = false := Bool.eq_false_iff.2 fun h => Bool.false_ne_true ((ch10.out (ch11.out h).2))
           have e12 : f12 = false := Bool.eq_false_iff.2 fun h => Bool.false_ne_true ((ch10.out (ch11.out (ch12.out h)).2))
           subst e10 e11 e12
           refine .inl ?_
           unfold e9Upd Oper.wp
           go_simp
           exact e9J.at f0 true true true true true true true true true false false false (o27) (n27) (c27) (o30) (n30) (c30) (H31) (o32) (n32) (c32) (H34) (o35) (c35) rfl rfl (Lib.hid (by simp)) (Lib.hid (by simp)) (Lib.hid (by simp)) (Lib.hid (by simp)) (Lib.hid (by simp)) (Lib.hid (by simp)) (Lib.hid (by simp)) (Lib.hid (by simp)) (Lib.hid (by simp)) (Lib.hid (by simp)) (hB) (r27) (r30) (r31) (r32) (by simp) (by simp)
         · have ho' := ho
           simp at hu ho
           subst hu ho
           simp [Region.binds] at ha
           obtain rfl : f9 = true := by simp only [ha]
           clear ha
           obtain rfl : f8 = true := (ch9.out rfl)
           obtain rfl : f7 = true := (ch8.out (ch9.out rfl))
           obtain rfl : f6 = true := (ch7.out (ch8.out (ch9.out rfl))).2
           obtain rfl : f5 = true := (ch6.out (ch7.out (ch8.out (ch9.out rfl))).2)
           obtain rfl : f4 = true := (ch5.out (ch6.out (ch7.out (ch8.out (ch9.out rfl))).2))
           obtain rfl : f3 = true := (ch7.out (ch8.out (ch9.out rfl))).1
           obtain rfl : f2 = true := (ch3.out (ch7.out (ch8.out (ch9.out rfl))).1)
           obtain rfl : f1 = true := (ch2.out (ch3.out (ch7.out (ch8.out (ch9.out rfl))).1))
           have e11 : f11 = false := Bool.eq_false_iff.2 fun h => Bool.false_ne_true ((ch11.out h).2)
           have e12 : f12 = false := Bool.eq_false_iff.2 fun h => Bool.false_ne_true ((ch11.out (ch12.out h)).2)
           subst e11 e12
           have hS := (hB rfl).size
           have hal := fun o => (Below.refl w'.heap.size w').alloc (Nat.le_refl w'.heap.size) o
           refine .inl ?_
           unfold e9Upd Oper.wp
           go_simp
           exact e9J.at f0 true true true true true true true true true true false false (o27) (n27) (c27) (o30) (n30) (c30) (H31) (o32) (n32) (c32) (w'.heap.size) (o35) (c35) rfl rfl (Lib.hid (by simp)) (Lib.hid (by simp)) (Lib.hid (by simp)) (Lib.hid (by simp)) (Lib.hid (by simp)) (Lib.hid (by simp)) (Lib.hid (by simp)) (Lib.hid (by simp)) (Lib.hid (by simp)) (Lib.hid (by simp)) (fun h0 => (hB h0).trans ((hal _).mono hS)) (fun h0 h1 => (r27 h0 h1).later (hal _)) (fun h0 h1 => (r30 h0 h1).later (hal _)) (fun h0 h1 => (r31 h0 h1).later (hal _)) (fun h0 h1 => (r32 h0 h1).later (hal _)) (fun h0 h1 => tr_lit ((.mk bExclusion [] (leafT bGroup y1 ++ leafT bArtifact y2) [], .slice none 0 0, .slice o32 n32 c32) : TrV) w' _ rfl) (by simp)
         · have ho' := ho
           simp at hu ho
           subst hu ho
           simp [Region.binds] at ha
           obtain rfl : f0 = true := by simp only [ha]
           obtain rfl : f10 = true := by simp only [ha]
           clear ha
           obtain rfl : f9 = true := (ch10.out rfl)
           obtain rfl : f8 = true := (ch9.out (ch10.out rfl))
           obtain rfl : f7 = true := (ch8.out (ch9.out (ch10.out rfl)))
           obtain rfl : f6 = true := (ch7.out (ch8.out (ch9.out (ch10.out rfl)))).2
           obtain rfl : f5 = true := (ch6.out (ch7.out (ch8.out (ch9.out (ch10.out rfl)))).2)
           obtain rfl : f4 = true := (ch5.out (ch6.out (ch7.out (ch8.out (ch9.out (ch10.out rfl)))).2))
           obtain rfl : f3 = true := (ch7.out (ch8.out (ch9.out (ch10.out rfl)))).1
           obtain rfl : f2 = true := (ch3.out (ch7.out (ch8.out (ch9.out (ch10.out rfl)))).1)
           obtain rfl : f1 = true := (ch2.out (ch3.out (ch7.out (ch8.out (ch9.out (ch10.out rfl)))).1))
           have e12 : f12 = false := Bool.eq_false_iff.2 fun h => Bool.false_ne_true ((ch12.out h))
           subst e12
           have hB1 := hB rfl
           have hS1 := hB1.size
           have hs4 := r34 rfl rfl
           have hr2 := r32 rfl rfl
           have hgr := HXG.out.below hB1
           refine .inl ?_
           unfold e9Upd
           refine wp_append_slice w' (.tmp 24) (.tmp 34) 23 rfl (wo.heap.size + 1) 25 Tryz.underlying23 info_node rfl (by decide) trC_len (.slice qo XL.length qc) XL (by simp [Act.eval]) hgr.own (.slice (some ⟨H34, 0, none⟩) 1 1) _ (by simp [Act.eval]) hs4 (fun y hy => by rw [List.mem_singleton.1 hy]; exact tr_one' (hr2.node bExclusion)) (by have := HXB.out; simp only [List.length_cons, List.length_nil]; omega) (by decide) (Nat.le_trans HVS.out hS1) ?_
           intro v1 w1 hown hg hloc
           obtain ⟨o1, c1, hv⟩ := hown.shape
           rw [List.length_append, List.length_singleton] at hv
           subst hv
           have hgn := Grow.snoc hgr (Below.refl _ w') hown hg hloc ((hr2.node bExclusion).keep (KeptX.refl _ _) (fun k _ h => h.elim (fun h => by have := HVS.out; omega) (fun h => (HXG.out.lt k h.symm).2)))
           exact e9J.at true true true true true true true true true true true true false (o27) (n27) (c27) (o30) (n30) (c30) (H31) (o32) (n32) (c32) (H34) (o1) (c1) rfl rfl (Lib.hid (by simp)) (Lib.hid (by simp)) (Lib.hid (by simp)) (Lib.hid (by simp)) (Lib.hid (by simp)) (Lib.hid (by simp)) (Lib.hid (by simp)) (Lib.hid (by simp)) (Lib.hid (by simp)) (Lib.hid (by simp)) (by simp) (by simp) (by simp) (by simp) (by simp) (by simp) (fun _ => ⟨hgn, (hB1.mono HVS.out).trans (below_own hg (fun g e => (hgr.lt g e).1) (Nat.le_trans HVS.out hS1))⟩)
         · have ho' := ho
           simp at hu ho
           subst hu ho
           simp [Region.binds] at ha
           obtain rfl : f11 = true := by simp only [ha]
           clear ha
           obtain rfl : f10 = true := (ch11.out rfl).2
           obtain rfl : f9 = true := (ch10.out (ch11.out rfl).2)
           obtain rfl : f8 = true := (ch9.out (ch10.out (ch11.out rfl).2))
           obtain rfl : f7 = true := (ch8.out (ch9.out (ch10.out (ch11.out rfl).2)))
           obtain rfl : f6 = true := (ch7.out (ch8.out (ch9.out (ch10.out (ch11.out rfl).2)))).2
           obtain rfl : f5 = true := (ch6.out (ch7.out (ch8.out (ch9.out (ch10.out (ch11.out rfl).2)))).2)
           obtain rfl : f4 = true := (ch5.out (ch6.out (ch7.out (ch8.out (ch9.out (ch10.out (ch11.out rfl).2)))).2))
           obtain rfl : f3 = true := (ch7.out (ch8.out (ch9.out (ch10.out (ch11.out rfl).2)))).1
           obtain rfl : f2 = true := (ch3.out (ch7.out (ch8.out (ch9.out (ch10.out (ch11.out rfl).2)))).1)
           obtain rfl : f1 = true := (ch2.out (ch3.out (ch7.out (ch8.out (ch9.out (ch10.out (ch11.out rfl).2)))).1))
           obtain rfl : f0 = true := (ch11.out rfl).1
           refine .inl ?_
           unfold e9Upd Oper.wp
           go_simp
           exact e9J.at true true true true true true true true true true true true true (o27) (n27) (c27) (o30) (n30) (c30) (H31) (o32) (n32) (c32) (H34) (o35) (c35) rfl rfl (Lib.hid (by simp)) (Lib.hid (by simp)) (Lib.hid (by simp)) (Lib.hid (by simp)) (Lib.hid (by simp)) (Lib.hid (by simp)) (Lib.hid (by simp)) (Lib.hid (by simp)) (Lib.hid (by simp)) (Lib.hid (by simp)) (by simp) (by simp) (by simp) (by simp) (by simp) (by simp) (r35)
     · obtain rfl : j = d.excl.length := by omega
       have HWS : Hid (wo.heap.size ≤ wr.heap.size) := by have := HXB0.out.size; show _ ≤ _; omega
       have HD16 := Lib.hid (HD.out.below HXB0.out (Nat.lt_succ_self _))
       have HXR := Lib.hid (HXG0.out.rowX (X := fun j => j < wo.heap.size) (fun j h => Nat.lt_succ_of_lt h))
       have HAO := Lib.hid (HRR.out.2.lt)
       have d6 := HD16.out.cell 6 _ rfl
       have dl := HD16.out.lt
       have HBX := Lib.hid (HB4.out.trans (HXB0.out.mono (Nat.le_succ _)))
       obtain ⟨TS, hTS⟩ : ∃ TS, TS = (d.excl.take d.excl.length).map exT := ⟨_, rfl⟩
       rw [← hTS] at HXR
       have HTX : Hid (TS = d.excl.map exT) := by show _ = _; rw [hTS, List.take_length]
       clear hTS
       clear d7
       rcases (by omega : d.opt = 1 ∨ d.opt = 2 ∨ (d.opt ≠ 1 ∧ d.opt ≠ 2)) with ho | ho | ho
       · have q1 : (d.opt == 1) = true := by rw [ho]; rfl
         have q2 : (d.opt == 2) = false := by rw [ho]; rfl
         have HOS : Hid (leafT bOptional ⟨#[116, 114, 117, 101]⟩ = optT d.opt) := by
          show _ = _
          rw [← opt_leaf]
          unfold optS
          rw [if_pos ho]; rfl
         have HL8 : Hid (∀ ts ∈ [leafT bGroup d.group, leafT bArtifact d.artifact, leafT bVersion d.version, leafT bType d.type, leafT bClassifier d.classifier, leafT bScope (bs (wordB d.scope)), leafT bOptional ⟨#[116, 114, 117, 101]⟩, branchT bExclusions TS], ts.length ≤ 100000) := by
          intro ts h
          simp only [List.mem_cons, List.not_mem_nil, or_false] at h
          rcases h with rfl | rfl | rfl | rfl | rfl | rfl | rfl | rfl
          all_goals first | exact Nat.le_trans (leafT_len _ _) (by decide) | exact Nat.le_trans (branchT_len _ _) (by decide)
         clear ho
         go_upto_region 16 with fail
         clear q1 q2 d6
         refine wp_region_flags0 (e16J wo.heap.size d ⟨#[116, 114, 117, 101]⟩ qo XL.length qc TS wr _ _ _ _ _ _ _ _ _ _ _ _ _ _ _ _ _ _ _ _ _ _ _ _ _ _ _ _ _ _ _ _ _ _ _ _ _ _ _ _ _ _ _ _ _ _ _ _ _ _ _ _ _ _ _ _ _ _ _ _ _ _ _ _ _ _ _ _ _ _ _ _ _ _ _ _) (by kernel_rfl) 26 rfl (by kernel_rfl) (e16J.at false false false false false false false false false false false false false false false false false false false false false false false false false false (none) (0) (0) (none) (0) (0) (none) (0) (0) (none) (0) (0) (none) (0) (0) (none) (0) (0) (none) (0) (0) (none) (0) (0) (0) (none) (0) (0) rfl (by unfold e16Upd; rfl) ?i0 ?i1 ?i2 ?i3 ?i4 ?i5 ?i6 ?i7 ?i8 ?i9 ?i10 ?i11 ?i12 ?i13 ?i14 ?i15 ?i16 ?i17 ?i18 ?i19 ?i20 ?i21 ?i22 ?i23 ?i24 ?i25 ?i26 ?i27 ?i28) ?fin ?step
         case i0 => exact Lib.hid (by simp)
         case i1 => exact Lib.hid (by simp)
         case i2 => exact Lib.hid (by simp)
         case i3 => exact Lib.hid (by simp)
         case i4 => exact Lib.hid (by simp)
         case i5 => exact Lib.hid (by simp)
         case i6 => exact Lib.hid (by simp)
         case i7 => exact Lib.hid (by simp)
         case i8 => exact Lib.hid (by simp)
         case i9 => exact Lib.hid (by simp)
         case i10 => exact Lib.hid (by simp)
         case i11 => exact Lib.hid (by simp)
         case i12 => exact Lib.hid (by simp)
         case i13 => exact Lib.hid (by simp)
         case i14 => exact Lib.hid (by simp)
         case i15 => exact Lib.hid (by simp)
         case i16 => exact Lib.hid (by simp)
         case i17 => exact Lib.hid (by simp)
         case i18 => exact belowN (Below.refl _ _) 1
         case i19 => exact by simp
         case i20 => exact by simp
         case i21 => exact by simp
         case i22 => exact by simp
         case i23 => exact by simp
         case i24 => exact by simp
         case i25 => exact by simp
         case i26 => exact by simp
         case i27 => exact by simp
         case i28 => exact by simp
         case fin =>
          intro a' w' hJ
          generalize hl : Array.replicate 26 true = Lz at hJ
          cases hJ with
          | mk f0 f1 f2 f3 f4 f5 f6 f7 f8 f9 f10 f11 f12 f13 f14 f15 f16 f17 f18 f19 f20 f21 f22 f23 f24 f25 o45 n45 c45 o48 n48 c48 o51 n51 c51 o54 n54 c54 o57 n57 c57 o61 n61 c61 o63 n63 c63 o65 n65 c65 H66 o67 n67 c67 _ ch1 ch2 ch4 ch5 ch7 ch8 ch10 ch11 ch13 ch14 ch16 ch17 ch18 ch20 ch22 ch23 ch24 ch25 hB r45 r48 r51 r54 r57 r61 r63 r65 r66 r67 =>
           have hl' : [true, true, true, true, true, true, true, true, true, true, true, true, true, true, true, true, true, true, true, true, true, true, true, true, true, true] = [f0, f1, f2, f3, f4, f5, f6, f7, f8, f9, f10, f11, f12, f13, f14, f15, f16, f17, f18, f19, f20, f21, f22, f23, f24, f25] := congrArg Array.toList hl
           simp only [List.cons.injEq, and_true] at hl'
           obtain ⟨rfl, rfl, rfl, rfl, rfl, rfl, rfl, rfl, rfl, rfl, rfl, rfl, rfl, rfl, rfl, rfl, rfl, rfl, rfl, rfl, rfl, rfl, rfl, rfl, rfl, rfl⟩ := hl'
           clear hl
           unfold e16Upd
           simp only [cond_true]
           have HR7 := Lib.hid (r67 rfl)
           have HB7 := Lib.hid hB
           clear ch1 ch2 ch4 ch5 ch7 ch8 ch10 ch11 ch13 ch14 ch16 ch17 ch18 ch20 ch22 ch23 ch24 ch25 hB r45 r48 r51 r54 r57 r61 r63 r65 r66 r67
           have HDT : Hid (([leafT bGroup d.group, leafT bArtifact d.artifact, leafT bVersion d.version, leafT bType d.type, leafT bClassifier d.classifier, leafT bScope (bs (wordB d.scope)), leafT bOptional ⟨#[116, 114, 117, 101]⟩, branchT bExclusions TS].flatten : List Tr) = (depT d).kids) := by
            show _ = _
            rw [HOS.out, HTX.out]
            simp [depT, Tr.kids, List.append_assoc]
           obtain ⟨KK, hKK⟩ : ∃ KK : List Tr, KK = [leafT bGroup d.group, leafT bArtifact d.artifact, leafT bVersion d.version, leafT bType d.type, leafT bClassifier d.classifier, leafT bScope (bs (wordB d.scope)), leafT bOptional ⟨#[116, 114, 117, 101]⟩, branchT bExclusions TS].flatten := ⟨_, rfl⟩
           rw [← hKK] at HR7 HDT
           clear hKK HOS HL8 HXR HTX HD16 dl
           have HAL : Hid (AL.length ≤ 2000) := by
            show _ ≤ _
            have h1 := HRR.out.2.len
            rw [List.length_map, List.length_take] at h1
            have := HLN.out
            omega
           have HW7 := Lib.hid (HBX.out.trans (HB7.out.mono HBX.out.size))
           have HA7 := Lib.hid (HRR.out.2.below HW7.out)
           have HLT7 : Hid (SliceOf 4 trC (w'.alloc (.cells #[.string (bs bDependency), .slice none 0 0, .slice o67 n67 c67, .string ⟨#[]⟩] 25)) (.slice (some ⟨w'.heap.size, 0, none⟩) 1 1) [((.mk bDependency [] KK [], .slice none 0 0, .slice o67 n67 c67) : TrV)]) := tr_lit (.mk bDependency [] KK [], .slice none 0 0, .slice o67 n67 c67) w' w'.heap.size rfl
           have HND : Hid (NodeX (fun j => j < w.heap.size ∨ some j = (Value.slice oa AL.length oc).ownBlock) w' (.mk bDependency [] KK []) (.slice none 0 0) (.slice o67 n67 c67)) := (HR7.out.node bDependency).keep (KeptX.refl _ _) (fun k _ hj => hj.elim (fun h => Nat.lt_of_lt_of_le h HRR.out.1.size) (fun h => (HAO.out k h.symm).2))
           have HWW : Hid (w.heap.size ≤ w'.heap.size) := Nat.le_trans HRR.out.1.size HW7.out.size
           have HAA := Lib.hid (HA7.out.own.alloc (.cells #[.string (bs bDependency), .slice none 0 0, .slice o67 n67 c67, .string ⟨#[]⟩] 25))
           go_wp2_with (at_builtin; go_loud (refine wpList_append_slice _ rfl _ _ 23 rfl w.heap.size 25 Tryz.underlying23 info_node rfl (by decide) trC_len (.slice oa AL.length oc) AL rfl HAA.out _ [((.mk bDependency [] KK [], .slice none 0 0, .slice o67 n67 c67) : TrV)] rfl HLT7.out (fun y hy => by obtain rfl := List.mem_singleton.1 hy; exact tr_one _ _ _ _ _ _ _ _ _ _) (by have h1 := HAL.out; simp only [List.length_cons, List.length_nil]; omega) (by decide) (by have h1 := HWW.out; simp; omega) ?_; intro v9 w9 hown9 hgrow9 hloc9; have HO9 := Lib.hid hown9; have HG9 := Lib.hid hgrow9; have HL9 := Lib.hid hloc9; clear hown9 hgrow9 hloc9; obtain ⟨a9, c9, rfl⟩ := HO9.out.shape))
           go_roundw
           case rel =>
            have hal := (Below.refl w'.heap.size w').alloc (Nat.le_refl _) (.cells #[.string (bs bDependency), .slice none 0 0, .slice o67 n67 c67, .string ⟨#[]⟩] 25)
            have hw := HW7.out.trans (hal.mono HW7.out.size)
            have hgr := HRR.out.2.snoc hw HO9.out HG9.out HL9.out (HND.out.later hal)
            refine ⟨k + 1, a9, c9, AL ++ [((.mk bDependency [] KK [], .slice none 0 0, .slice o67 n67 c67) : TrV)], HLT.out, by go_num, by simp, HRR.out.1.trans ((hw.mono HRR.out.1.size).trans (below_own HG9.out (fun g hg => (HRR.out.2.lt g hg).1) (Nat.le_trans HRR.out.1.size hw.size))), ?_⟩
            rw [HTK.out, List.map_append, List.map_cons, List.map_nil, show depT d = .mk bDependency [] KK [] from by rw [HDT.out]; rfl]
            exact hgr
           case measure => simp [intOf]; have := HLT.out; omega
         case step =>
          intro listed a' w' hJ i hi
          cases hJ with
          | mk f0 f1 f2 f3 f4 f5 f6 f7 f8 f9 f10 f11 f12 f13 f14 f15 f16 f17 f18 f19 f20 f21 f22 f23 f24 f25 o45 n45 c45 o48 n48 c48 o51 n51 c51 o54 n54 c54 o57 n57 c57 o61 n61 c61 o63 n63 c63 o65 n65 c65 H66 o67 n67 c67 _ ch1 ch2 ch4 ch5 ch7 ch8 ch10 ch11 ch13 ch14 ch16 ch17 ch18 ch20 ch22 ch23 ch24 ch25 hB r45 r48 r51 r54 r57 r61 r63 r65 r66 r67 =>
           rw [mem_ready] at hi
           obtain ⟨hu, o, ho, ha⟩ := hi
           have hi8 : i < 26 := (Array.getElem?_eq_some_iff.1 ho).1
           rcases (by omega : i = 0 ∨ i = 1 ∨ i = 2 ∨ i = 3 ∨ i = 4 ∨ i = 5 ∨ i = 6 ∨ i = 7 ∨ i = 8 ∨ i = 9 ∨ i = 10 ∨ i = 11 ∨ i = 12 ∨ i = 13 ∨ i = 14 ∨ i = 15 ∨ i = 16 ∨ i = 17 ∨ i = 18 ∨ i = 19 ∨ i = 20 ∨ i = 21 ∨ i = 22 ∨ i = 23 ∨ i = 24 ∨ i = 25) with rfl | rfl | rfl | rfl | rfl | rfl | rfl | rfl | rfl | rfl | rfl | rfl | rfl | rfl | rfl | rfl | rfl | rfl | rfl | rfl | rfl | rfl | rfl | rfl | rfl | rfl
           · have ho' := ho
             simp at hu ho
             subst hu ho
             clear ha
             have e1 : f1 = false := Bool.eq_false_iff.2 fun h => Bool.false_ne_true ((ch1.out h))
             have e2 : f2 = false := Bool.eq_false_iff.2 fun h => Bool.false_ne_true ((ch1.out (ch2.out h)))
             have e23 : f23 = false := Bool.eq_false_iff.2 fun h => Bool.false_ne_true ((ch1.out (ch2.out (ch23.out h).1)))
             have e24 : f24 = false := Bool.eq_false_iff.2 fun h => Bool.false_ne_true ((ch1.out (ch2.out (ch23.out (ch24.out h)).1)))
             have e25 : f25 = false := Bool.eq_false_iff.2 fun h => Bool.false_ne_true ((ch1.out (ch2.out (ch23.out (ch24.out (ch25.out h))).1)))
             subst e1 e2 e23 e24 e25
             refine .inl ?_
             unfold e16Upd Oper.wp
             go_simp
             exact e16J.at true false false f3 f4 f5 f6 f7 f8 f9 f10 f11 f12 f13 f14 f15 f16 f17 f18 f19 f20 f21 f22 false false false (o45) (n45) (c45) (o48) (n48) (c48) (o51) (n51) (c51) (o54) (n54) (c54) (o57) (n57) (c57) (o61) (n61) (c61) (o63) (n63) (c63) (o65) (n65) (c65) (H66) (o67) (n67) (c67) rfl rfl (Lib.hid (by simp)) (Lib.hid (by simp)) (ch4) (ch5) (ch7) (ch8) (ch10) (ch11) (ch13) (ch14) (ch16) (ch17) (ch18) (ch20) (ch22) (Lib.hid (by simp)) (Lib.hid (by simp)) (Lib.hid (by simp)) (hB) (by simp) (r48) (r51) (r54) (r57) (r61) (r63) (r65) (by simp) (by simp)
           · have ho' := ho
             simp at hu ho
             subst hu ho
             simp [Region.binds] at ha
             obtain rfl : f0 = true := by simp only [ha]
             clear ha
             have e2 : f2 = false := Bool.eq_false_iff.2 fun h => Bool.false_ne_true ((ch2.out h))
             have e23 : f23 = false := Bool.eq_false_iff.2 fun h => Bool.false_ne_true ((ch2.out (ch23.out h).1))
             have e24 : f24 = false := Bool.eq_false_iff.2 fun h => Bool.false_ne_true ((ch2.out (ch23.out (ch24.out h)).1))
             have e25 : f25 = false := Bool.eq_false_iff.2 fun h => Bool.false_ne_true ((ch2.out (ch23.out (ch24.out (ch25.out h))).1))
             subst e2 e23 e24 e25
             have k0 := (hB.cell (p := ⟨wo.heap.size, 0, none⟩) (by exact HD16.out.lt)).trans (HD16.out.cell 0 _ rfl)
             have kl := Nat.lt_of_lt_of_le HD16.out.lt hB.size
             refine .inl ?_
             unfold e16Upd Oper.wp
             go_simp
             exact e16J.at true true false f3 f4 f5 f6 f7 f8 f9 f10 f11 f12 f13 f14 f15 f16 f17 f18 f19 f20 f21 f22 false false false (o45) (n45) (c45) (o48) (n48) (c48) (o51) (n51) (c51) (o54) (n54) (c54) (o57) (n57) (c57) (o61) (n61) (c61) (o63) (n63) (c63) (o65) (n65) (c65) (H66) (o67) (n67) (c67) rfl rfl (Lib.hid (by simp)) (Lib.hid (by simp)) (ch4) (ch5) (ch7) (ch8) (ch10) (ch11) (ch13) (ch14) (ch16) (ch17) (ch18) (ch20) (ch22) (Lib.hid (by simp)) (Lib.hid (by simp)) (Lib.hid (by simp)) (hB) (by simp) (r48) (r51) (r54) (r57) (r61) (r63) (r65) (by simp) (by simp)
           · have ho' := ho
             simp at hu ho
             subst hu ho
             simp [Region.binds] at ha
             obtain rfl : f1 = true := by simp only [ha]
             clear ha
             obtain rfl : f0 = true := (ch1.out rfl)
             have e23 : f23 = false := Bool.eq_false_iff.2 fun h => Bool.false_ne_true ((ch23.out h).1)
             have e24 : f24 = false := Bool.eq_false_iff.2 fun h => Bool.false_ne_true ((ch23.out (ch24.out h)).1)
             have e25 : f25 = false := Bool.eq_false_iff.2 fun h => Bool.false_ne_true ((ch23.out (ch24.out (ch25.out h))).1)
             subst e23 e24 e25
             have hS := hB.size
             refine .inl ?_
             unfold e16Upd Oper.wp
             go_simp
             refine (leafR_any (fun j => j < wo.heap.size) bGroup d.group w' (fun j h => Nat.lt_of_lt_of_le (Nat.lt_of_lt_of_le h HWS.out) hS)).mono ?_
             intro e w1 hO
             obtain ⟨o1, n1, c1, rfl, hr, hb⟩ := hO
             exact e16J.at true true true f3 f4 f5 f6 f7 f8 f9 f10 f11 f12 f13 f14 f15 f16 f17 f18 f19 f20 f21 f22 false false false (o1) (n1) (c1) (o48) (n48) (c48) (o51) (n51) (c51) (o54) (n54) (c54) (o57) (n57) (c57) (o61) (n61) (c61) (o63) (n63) (c63) (o65) (n65) (c65) (H66) (o67) (n67) (c67) rfl rfl (Lib.hid (by simp)) (Lib.hid (by simp)) (ch4) (ch5) (ch7) (ch8) (ch10) (ch11) (ch13) (ch14) (ch16) (ch17) (ch18) (ch20) (ch22) (Lib.hid (by simp)) (Lib.hid (by simp)) (Lib.hid (by simp)) (hB.trans (hb.mono hS)) (fun h0 => hr) (fun h0 => (r48 h0).later hb) (fun h0 => (r51 h0).later hb) (fun h0 => (r54 h0).later hb) (fun h0 => (r57 h0).later hb) (fun h0 => (r61 h0).later hb) (fun h0 => (r63 h0).later hb) (fun h0 => (r65 h0).later hb) (by simp) (by simp)
           · have ho' := ho
             simp at hu ho
             subst hu ho
             clear ha
             have e4 : f4 = false := Bool.eq_false_iff.2 fun h => Bool.false_ne_true ((ch4.out h))
             have e5 : f5 = false := Bool.eq_false_iff.2 fun h => Bool.false_ne_true ((ch4.out (ch5.out h)))
             have e23 : f23 = false := Bool.eq_false_iff.2 fun h => Bool.false_ne_true ((ch4.out (ch5.out (ch23.out h).2.1)))
             have e24 : f24 = false := Bool.eq_false_iff.2 fun h => Bool.false_ne_true ((ch4.out (ch5.out (ch23.out (ch24.out h)).2.1)))
             have e25 : f25 = false := Bool.eq_false_iff.2 fun h => Bool.false_ne_true ((ch4.out (ch5.out (ch23.out (ch24.out (ch25.out h))).2.1)))
             subst e4 e5 e23 e24 e25
             refine .inl ?_
             unfold e16Upd Oper.wp
             go_simp
             exact e16J.at f0 f1 f2 true false false f6 f7 f8 f9 f10 f11 f12 f13 f14 f15 f16 f17 f18 f19 f20 f21 f22 false false false (o45) (n45) (c45) (o48) (n48) (c48) (o51) (n51) (c51) (o54) (n54) (c54) (o57) (n57) (c57) (o61) (n61) (c61) (o63) (n63) (c63) (o65) (n65) (c65) (H66) (o67) (n67) (c67) rfl rfl (ch1) (ch2) (Lib.hid (by simp)) (Lib.hid (by simp)) (ch7) (ch8) (ch10) (ch11) (ch13) (ch14) (ch16) (ch17) (ch18) (ch20) (ch22) (Lib.hid (by simp)) (Lib.hid (by simp)) (Lib.hid (by simp)) (hB) (r45) (by simp) (r51) (r54) (r57) (r61) (r63) (r65) (by simp) (by simp)
           · have ho' := ho
             simp at hu ho
             subst hu ho
             simp [Region.binds] at ha
             obtain rfl : f3 = true := by simp only [ha]
             clear ha
             have e5 : f5 = false := Bool.eq_false_iff.2 fun h => Bool.false_ne_true ((ch5.out h))
             have e23 : f23 = false := Bool.eq_false_iff.2 fun h => Bool.false_ne_true ((ch5.out (ch23.out h).2.1))
             have e24 : f24 = false := Bool.eq_false_iff.2 fun h => Bool.false_ne_true ((ch5.out (ch23.out (ch24.out h)).2.1))
             have e25 : f25 = false := Bool.eq_false_iff.2 fun h => Bool.false_ne_true ((ch5.out (ch23.out (ch24.out (ch25.out h))).2.1))
             subst e5 e23 e24 e25
             have k0 := (hB.cell (p := ⟨wo.heap.size, 1, none⟩) (by exact HD16.out.lt)).trans (HD16.out.cell 1 _ rfl)
             have kl := Nat.lt_of_lt_of_le HD16.out.lt hB.size
             refine .inl ?_
             unfold e16Upd Oper.wp
             go_simp
             exact e16J.at f0 f1 f2 true true false f6 f7 f8 f9 f10 f11 f12 f13 f14 f15 f16 f17 f18 f19 f20 f21 f22 false false false (o45) (n45) (c45) (o48) (n48) (c48) (o51) (n51) (c51) (o54) (n54) (c54) (o57) (n57) (c57) (o61) (n61) (c61) (o63) (n63) (c63) (o65) (n65) (c65) (H66) (o67) (n67) (c67) rfl rfl (ch1) (ch2) (Lib.hid (by simp)) (Lib.hid (by simp)) (ch7) (ch8) (ch10) (ch11) (ch13) (ch14) (ch16) (ch17) (ch18) (ch20) (ch22) (Lib.hid (by simp)) (Lib.hid (by simp)) (Lib.hid (by simp)) (hB) (r45) (by simp) (r51) (r54) (r57) (r61) (r63) (r65) (by simp) (by simp)
           · have ho' := ho
             simp at hu ho
             subst hu ho
             simp [Region.binds] at ha
             obtain rfl : f4 = true := by simp only [ha]
             clear ha
             obtain rfl : f3 = true := (ch4.out rfl)
             have e23 : f23 = false := Bool.eq_false_iff.2 fun h => Bool.false_ne_true ((ch23.out h).2.1)
             have e24 : f24 = false := Bool.eq_false_iff.2 fun h => Bool.false_ne_true ((ch23.out (ch24.out h)).2.1)
             have e25 : f25 = false := Bool.eq_false_iff.2 fun h => Bool.false_ne_true ((ch23.out (ch24.out (ch25.out h))).2.1)
             subst e23 e24 e25
             have hS := hB.size
             refine .inl ?_
             unfold e16Upd Oper.wp
             go_simp
             refine (leafR_any (fun j => j < wo.heap.size) bArtifact d.artifact w' (fun j h => Nat.lt_of_lt_of_le (Nat.lt_of_lt_of_le h HWS.out) hS)).mono ?_
             intro e w1 hO
             obtain ⟨o1, n1, c1, rfl, hr, hb⟩ := hO
             exact e16J.at f0 f1 f2 true true true f6 f7 f8 f9 f10 f11 f12 f13 f14 f15 f16 f17 f18 f19 f20 f21 f22 false false false (o45) (n45) (c45) (o1) (n1) (c1) (o51) (n51) (c51) (o54) (n54) (c54) (o57) (n57) (c57) (o61) (n61) (c61) (o63) (n63) (c63) (o65) (n65) (c65) (H66) (o67) (n67) (c67) rfl rfl (ch1) (ch2) (Lib.hid (by simp)) (Lib.hid (by simp)) (ch7) (ch8) (ch10) (ch11) (ch13) (ch14) (ch16) (ch17) (ch18) (ch20) (ch22) (Lib.hid (by simp)) (Lib.hid (by simp)) (Lib.hid (by simp)) (hB.trans (hb.mono hS)) (fun h0 => (r45 h0).later hb) (fun h0 => hr) (fun h0 => (r51 h0).later hb) (fun h0 => (r54 h0).later hb) (fun h0 => (r57 h0).later hb) (fun h0 => (r61 h0).later hb) (fun h0 => (r63 h0).later hb) (fun h0 => (r65 h0).later hb) (by simp) (by simp)
           · have ho' := ho
             simp at hu ho
             subst hu ho
             clear ha
             have e7 : f7 = false := Bool.eq_false_iff.2 fun h => Bool.false_ne_true ((ch7.out h))
             have e8 : f8 = false := Bool.eq_false_iff.2 fun h => Bool.false_ne_true ((ch7.out (ch8.out h)))
             have e23 : f23 = false := Bool.eq_false_iff.2 fun h => Bool.false_ne_true ((ch7.out (ch8.out (ch23.out h).2.2.1)))
             have e24 : f24 = false := Bool.eq_false_iff.2 fun h => Bool.false_ne_true ((ch7.out (ch8.out (ch23.out (ch24.out h)).2.2.1)))
             have e25 : f25 = false := Bool.eq_false_iff.2 fun h => Bool.false_ne_true ((ch7.out (ch8.out (ch23.out (ch24.out (ch25.out h))).2.2.1)))
             subst e7 e8 e23 e24 e25
             refine .inl ?_
             unfold e16Upd Oper.wp
             go_simp
             exact e16J.at f0 f1 f2 f3 f4 f5 true false false f9 f10 f11 f12 f13 f14 f15 f16 f17 f18 f19 f20 f21 f22 false false false (o45) (n45) (c45) (o48) (n48) (c48) (o51) (n51) (c51) (o54) (n54) (c54) (o57) (n57) (c57) (o61) (n61) (c61) (o63) (n63) (c63) (o65) (n65) (c65) (H66) (o67) (n67) (c67) rfl rfl (ch1) (ch2) (ch4) (ch5) (Lib.hid (by simp)) (Lib.hid (by simp)) (ch10) (ch11) (ch13) (ch14) (ch16) (ch17) (ch18) (ch20) (ch22) (Lib.hid (by simp)) (Lib.hid (by simp)) (Lib.hid (by simp)) (hB) (r45) (r48) (by simp) (r54) (r57) (r61) (r63) (r65) (by simp) (by simp)
           · have ho' := ho
             simp at hu ho
             subst hu ho
             simp [Region.binds] at ha
             obtain rfl : f6 = true := by simp only [ha]
             clear ha
             have e8 : f8 = false := Bool.eq_false_iff.2 fun h => Bool.false_ne_true ((ch8.out h))
             have e23 : f23 = false := Bool.eq_false_iff.2 fun h => Bool.false_ne_true ((ch8.out (ch23.out h).2.2.1))
             have e24 : f24 = false := Bool.eq_false_iff.2 fun h => Bool.false_ne_true ((ch8.out (ch23.out (ch24.out h)).2.2.1))
             have e25 : f25 = false := Bool.eq_false_iff.2 fun h => Bool.false_ne_true ((ch8.out (ch23.out (ch24.out (ch25.out h))).2.2.1))
             subst e8 e23 e24 e25
             have k0 := (hB.cell (p := ⟨wo.heap.size, 2, none⟩) (by exact HD16.out.lt)).trans (HD16.out.cell 2 _ rfl)
             have kl := Nat.lt_of_lt_of_le HD16.out.lt hB.size
             refine .inl ?_
             unfold e16Upd Oper.wp
             go_simp
             exact e16J.at f0 f1 f2 f3 f4 f5 true true false f9 f10 f11 f12 f13 f14 f15 f16 f17 f18 f19 f20 f21 f22 false false false (o45) (n45) (c45) (o48) (n48) (c48) (o51) (n51) (c51) (o54) (n54) (c54) (o57) (n57) (c57) (o61) (n61) (c61) (o63) (n63) (c63) (o65) (n65) (c65) (H66) (o67) (n67) (c67) rfl rfl (ch1) (ch2) (ch4) (ch5) (Lib.hid (by simp)) (Lib.hid (by simp)) (ch10) (ch11) (ch13) (ch14) (ch16) (ch17) (ch18) (ch20) (ch22) (Lib.hid (by simp)) (Lib.hid (by simp)) (Lib.hid (by simp)) (hB) (r45) (r48) (by simp) (r54) (r57) (r61) (r63) (r65) (by simp) (by simp)
           · have ho' := ho
             simp at hu ho
             subst hu ho
             simp [Region.binds] at ha
             obtain rfl : f7 = true := by simp only [ha]
             clear ha
             obtain rfl : f6 = true := (ch7.out rfl)
             have e23 : f23 = false := Bool.eq_false_iff.2 fun h => Bool.false_ne_true ((ch23.out h).2.2.1)
             have e24 : f24 = false := Bool.eq_false_iff.2 fun h => Bool.false_ne_true ((ch23.out (ch24.out h)).2.2.1)
             have e25 : f25 = false := Bool.eq_false_iff.2 fun h => Bool.false_ne_true ((ch23.out (ch24.out (ch25.out h))).2.2.1)
             subst e23 e24 e25
             have hS := hB.size
             refine .inl ?_
             unfold e16Upd Oper.wp
             go_simp
             refine (leafR_any (fun j => j < wo.heap.size) bVersion d.version w' (fun j h => Nat.lt_of_lt_of_le (Nat.lt_of_lt_of_le h HWS.out) hS)).mono ?_
             intro e w1 hO
             obtain ⟨o1, n1, c1, rfl, hr, hb⟩ := hO
             exact e16J.at f0 f1 f2 f3 f4 f5 true true true f9 f10 f11 f12 f13 f14 f15 f16 f17 f18 f19 f20 f21 f22 false false false (o45) (n45) (c45) (o48) (n48) (c48) (o1) (n1) (c1) (o54) (n54) (c54) (o57) (n57) (c57) (o61) (n61) (c61) (o63) (n63) (c63) (o65) (n65) (c65) (H66) (o67) (n67) (c67) rfl rfl (ch1) (ch2) (ch4) (ch5) (Lib.hid (by simp)) (Lib.hid (by simp)) (ch10) (ch11) (ch13) (ch14) (ch16) (ch17) (ch18) (ch20) (ch22) (Lib.hid (by simp)) (Lib.hid (by simp)) (Lib.hid (by simp)) (hB.trans (hb.mono hS)) (fun h0 => (r45 h0).later hb) (fun h0 => (r48 h0).later hb) (fun h0 => hr) (fun h0 => (r54 h0).later hb) (fun h0 => (r57 h0).later hb) (fun h0 => (r61 h0).later hb) (fun h0 => (r63 h0).later hb) (fun h0 => (r65 h0).later hb) (by simp) (by simp)
           · have ho' := ho
             simp at hu ho
             subst hu ho
             clear ha
             have e10 : f10 = false := Bool.eq_false_iff.2 fun h => Bool.false_ne_true ((ch10.out h))
             have e11 : f11 = false := Bool.eq_false_iff.2 fun h => Bool.false_ne_true ((ch10.out (ch11.out h)))
             have e23 : f23 = false := Bool.eq_false_iff.2 fun h => Bool.false_ne_true ((ch10.out (ch11.out (ch23.out h).2.2.2.1)))
             have e24 : f24 = false := Bool.eq_false_iff.2 fun h => Bool.false_ne_true ((ch10.out (ch11.out (ch23.out (ch24.out h)).2.2.2.1)))
             have e25 : f25 = false := Bool.eq_false_iff.2 fun h => Bool.false_ne_true ((ch10.out (ch11.out (ch23.out (ch24.out (ch25.out h))).2.2.2.1)))
             subst e10 e11 e23 e24 e25
             refine .inl ?_
             unfold e16Upd Oper.wp
             go_simp
             exact e16J.at f0 f1 f2 f3 f4 f5 f6 f7 f8 true false false f12 f13 f14 f15 f16 f17 f18 f19 f20 f21 f22 false false false (o45) (n45) (c45) (o48) (n48) (c48) (o51) (n51) (c51) (o54) (n54) (c54) (o57) (n57) (c57) (o61) (n61) (c61) (o63) (n63) (c63) (o65) (n65) (c65) (H66) (o67) (n67) (c67) rfl rfl (ch1) (ch2) (ch4) (ch5) (ch7) (ch8) (Lib.hid (by simp)) (Lib.hid (by simp)) (ch13) (ch14) (ch16) (ch17) (ch18) (ch20) (ch22) (Lib.hid (by simp)) (Lib.hid (by simp)) (Lib.hid (by simp)) (hB) (r45) (r48) (r51) (by simp) (r57) (r61) (r63) (r65) (by simp) (by simp)
           · have ho' := ho
             simp at hu ho
             subst hu ho
             simp [Region.binds] at ha
             obtain rfl : f9 = true := by simp only [ha]
             clear ha
             have e11 : f11 = false := Bool.eq_false_iff.2 fun h => Bool.false_ne_true ((ch11.out h))
             have e23 : f23 = false := Bool.eq_false_iff.2 fun h => Bool.false_ne_true ((ch11.out (ch23.out h).2.2.2.1))
             have e24 : f24 = false := Bool.eq_false_iff.2 fun h => Bool.false_ne_true ((ch11.out (ch23.out (ch24.out h)).2.2.2.1))
             have e25 : f25 = false := Bool.eq_false_iff.2 fun h => Bool.false_ne_true ((ch11.out (ch23.out (ch24.out (ch25.out h))).2.2.2.1))
             subst e11 e23 e24 e25
             have k0 := (hB.cell (p := ⟨wo.heap.size, 3, none⟩) (by exact HD16.out.lt)).trans (HD16.out.cell 3 _ rfl)
             have kl := Nat.lt_of_lt_of_le HD16.out.lt hB.size
             refine .inl ?_
             unfold e16Upd Oper.wp
             go_simp
             exact e16J.at f0 f1 f2 f3 f4 f5 f6 f7 f8 true true false f12 f13 f14 f15 f16 f17 f18 f19 f20 f21 f22 false false false (o45) (n45) (c45) (o48) (n48) (c48) (o51) (n51) (c51) (o54) (n54) (c54) (o57) (n57) (c57) (o61) (n61) (c61) (o63) (n63) (c63) (o65) (n65) (c65) (H66) (o67) (n67) (c67) rfl rfl (ch1) (ch2) (ch4) (ch5) (ch7) (ch8) (Lib.hid (by simp)) (Lib.hid (by simp)) (ch13) (ch14) (ch16) (ch17) (ch18) (ch20) (ch22) (Lib.hid (by simp)) (Lib.hid (by simp)) (Lib.hid (by simp)) (hB) (r45) (r48) (r51) (by simp) (r57) (r61) (r63) (r65) (by simp) (by simp)
           · have ho' := ho
             simp at hu ho
             subst hu ho
             simp [Region.binds] at ha
             obtain rfl : f10 = true := by simp only [ha]
             clear ha
             obtain rfl : f9 = true := (ch10.out rfl)
             have e23 : f23 = false := Bool.eq_false_iff.2 fun h => Bool.false_ne_true ((ch23.out h).2.2.2.1)
             have e24 : f24 = false := Bool.eq_false_iff.2 fun h => Bool.false_ne_true ((ch23.out (ch24.out h)).2.2.2.1)
             have e25 : f25 = false := Bool.eq_false_iff.2 fun h => Bool.false_ne_true ((ch23.out (ch24.out (ch25.out h))).2.2.2.1)
             subst e23 e24 e25
             have hS := hB.size
             refine .inl ?_
             unfold e16Upd Oper.wp
             go_simp
             refine (leafR_any (fun j => j < wo.heap.size) bType d.type w' (fun j h => Nat.lt_of_lt_of_le (Nat.lt_of_lt_of_le h HWS.out) hS)).mono ?_
             intro e w1 hO
             obtain ⟨o1, n1, c1, rfl, hr, hb⟩ := hO
             exact e16J.at f0 f1 f2 f3 f4 f5 f6 f7 f8 true true true f12 f13 f14 f15 f16 f17 f18 f19 f20 f21 f22 false false false (o45) (n45) (c45) (o48) (n48) (c48) (o51) (n51) (c51) (o1) (n1) (c1) (o57) (n57) (c57) (o61) (n61) (c61) (o63) (n63) (c63) (o65) (n65) (c65) (H66) (o67) (n67) (c67) rfl rfl (ch1) (ch2) (ch4) (ch5) (ch7) (ch8) (Lib.hid (by simp)) (Lib.hid (by simp)) (ch13) (ch14) (ch16) (ch17) (ch18) (ch20) (ch22) (Lib.hid (by simp)) (Lib.hid (by simp)) (Lib.hid (by simp)) (hB.trans (hb.mono hS)) (fun h0 => (r45 h0).later hb) (fun h0 => (r48 h0).later hb) (fun h0 => (r51 h0).later hb) (fun h0 => hr) (fun h0 => (r57 h0).later hb) (fun h0 => (r61 h0).later hb) (fun h0 => (r63 h0).later hb) (fun h0 => (r65 h0).later hb) (by simp) (by simp)
           · have ho' := ho
             simp at hu ho
             subst hu ho
             clear ha
             have e13 : f13 = false := Bool.eq_false_iff.2 fun h => Bool.false_ne_true ((ch13.out h))
             have e14 : f14 = false := Bool.eq_false_iff.2 fun h => Bool.false_ne_true ((ch13.out (ch14.out h)))
             have e23 : f23 = false := Bool.eq_false_iff.2 fun h => Bool.false_ne_true ((ch13.out (ch14.out (ch23.out h).2.2.2.2.1)))
             have e24 : f24 = false := Bool.eq_false_iff.2 fun h => Bool.false_ne_true ((ch13.out (ch14.out (ch23.out (ch24.out h)).2.2.2.2.1)))
             have e25 : f25 = false := Bool.eq_false_iff.2 fun h => Bool.false_ne_true ((ch13.out (ch14.out (ch23.out (ch24.out (ch25.out h))).2.2.2.2.1)))
             subst e13 e14 e23 e24 e25
             refine .inl ?_
             unfold e16Upd Oper.wp
             go_simp
             exact e16J.at f0 f1 f2 f3 f4 f5 f6 f7 f8 f9 f10 f11 true false false f15 f16 f17 f18 f19 f20 f21 f22 false false false (o45) (n45) (c45) (o48) (n48) (c48) (o51) (n51) (c51) (o54) (n54) (c54) (o57) (n57) (c57) (o61) (n61) (c61) (o63) (n63) (c63) (o65) (n65) (c65) (H66) (o67) (n67) (c67) rfl rfl (ch1) (ch2) (ch4) (ch5) (ch7) (ch8) (ch10) (ch11) (Lib.hid (by simp)) (Lib.hid (by simp)) (ch16) (ch17) (ch18) (ch20) (ch22) (Lib.hid (by simp)) (Lib.hid (by simp)) (Lib.hid (by simp)) (hB) (r45) (r48) (r51) (r54) (by simp) (r61) (r63) (r65) (by simp) (by simp)
           · have ho' := ho
             simp at hu ho
             subst hu ho
             simp [Region.binds] at ha
             obtain rfl : f12 = true := by simp only [ha]
             clear ha
             have e14 : f14 = false := Bool.eq_false_iff.2 fun h => Bool.false_ne_true ((ch14.out h))
             have e23 : f23 = false := Bool.eq_false_iff.2 fun h => Bool.false_ne_true ((ch14.out (ch23.out h).2.2.2.2.1))
             have e24 : f24 = false := Bool.eq_false_iff.2 fun h => Bool.false_ne_true ((ch14.out (ch23.out (ch24.out h)).2.2.2.2.1))
             have e25 : f25 = false := Bool.eq_false_iff.2 fun h => Bool.false_ne_true ((ch14.out (ch23.out (ch24.out (ch25.out h))).2.2.2.2.1))
             subst e14 e23 e24 e25
             have k0 := (hB.cell (p := ⟨wo.heap.size, 4, none⟩) (by exact HD16.out.lt)).trans (HD16.out.cell 4 _ rfl)
             have kl := Nat.lt_of_lt_of_le HD16.out.lt hB.size
             refine .inl ?_
             unfold e16Upd Oper.wp
             go_simp
             exact e16J.at f0 f1 f2 f3 f4 f5 f6 f7 f8 f9 f10 f11 true true false f15 f16 f17 f18 f19 f20 f21 f22 false false false (o45) (n45) (c45) (o48) (n48) (c48) (o51) (n51) (c51) (o54) (n54) (c54) (o57) (n57) (c57) (o61) (n61) (c61) (o63) (n63) (c63) (o65) (n65) (c65) (H66) (o67) (n67) (c67) rfl rfl (ch1) (ch2) (ch4) (ch5) (ch7) (ch8) (ch10) (ch11) (Lib.hid (by simp)) (Lib.hid (by simp)) (ch16) (ch17) (ch18) (ch20) (ch22) (Lib.hid (by simp)) (Lib.hid (by simp)) (Lib.hid (by simp)) (hB) (r45) (r48) (r51) (r54) (by simp) (r61) (r63) (r65) (by simp) (by simp)
           · have ho' := ho
             simp at hu ho
             subst hu ho
             simp [Region.binds] at ha
             obtain rfl : f13 = true := by simp only [ha]
             clear ha
             obtain rfl : f12 = true := (ch13.out rfl)
             have e23 : f23 = false := Bool.eq_false_iff.2 fun h => Bool.false_ne_true ((ch23.out h).2.2.2.2.1)
             have e24 : f24 = false := Bool.eq_false_iff.2 fun h => Bool.false_ne_true ((ch23.out (ch24.out h)).2.2.2.2.1)
             have e25 : f25 = false := Bool.eq_false_iff.2 fun h => Bool.false_ne_true ((ch23.out (ch24.out (ch25.out h))).2.2.2.2.1)
             subst e23 e24 e25
             have hS := hB.size
             refine .inl ?_
             unfold e16Upd Oper.wp
             go_simp
             refine (leafR_any (fun j => j < wo.heap.size) bClassifier d.classifier w' (fun j h => Nat.lt_of_lt_of_le (Nat.lt_of_lt_of_le h HWS.out) hS)).mono ?_
             intro e w1 hO
             obtain ⟨o1, n1, c1, rfl, hr, hb⟩ := hO
             exact e16J.at f0 f1 f2 f3 f4 f5 f6 f7 f8 f9 f10 f11 true true true f15 f16 f17 f18 f19 f20 f21 f22 false false false (o45) (n45) (c45) (o48) (n48) (c48) (o51) (n51) (c51) (o54) (n54) (c54) (o1) (n1) (c1) (o61) (n61) (c61) (o63) (n63) (c63) (o65) (n65) (c65) (H66) (o67) (n67) (c67) rfl rfl (ch1) (ch2) (ch4) (ch5) (ch7) (ch8) (ch10) (ch11) (Lib.hid (by simp)) (Lib.hid (by simp)) (ch16) (ch17) (ch18) (ch20) (ch22) (Lib.hid (by simp)) (Lib.hid (by simp)) (Lib.hid (by simp)) (hB.trans (hb.mono hS)) (fun h0 => (r45 h0).later hb) (fun h0 => (r48 h0).later hb) (fun h0 => (r51 h0).later hb) (fun h0 => (r54 h0).later hb) (fun h0 => hr) (fun h0 => (r61 h0).later hb) (fun h0 => (r63 h0).later hb) (fun h0 => (r65 h0).later hb) (by simp) (by simp)
           · have ho' := ho
             simp at hu ho
             subst hu ho
             clear ha
             have e16 : f16 = false := Bool.eq_false_iff.2 fun h => Bool.false_ne_true ((ch16.out h))
             have e17 : f17 = false := Bool.eq_false_iff.2 fun h => Bool.false_ne_true ((ch16.out (ch17.out h)))
             have e18 : f18 = false := Bool.eq_false_iff.2 fun h => Bool.false_ne_true ((ch16.out (ch17.out (ch18.out h))))
             have e23 : f23 = false := Bool.eq_false_iff.2 fun h => Bool.false_ne_true ((ch16.out (ch17.out (ch18.out (ch23.out h).2.2.2.2.2.1))))
             have e24 : f24 = false := Bool.eq_false_iff.2 fun h => Bool.false_ne_true ((ch16.out (ch17.out (ch18.out (ch23.out (ch24.out h)).2.2.2.2.2.1))))
             have e25 : f25 = false := Bool.eq_false_iff.2 fun h => Bool.false_ne_true ((ch16.out (ch17.out (ch18.out (ch23.out (ch24.out (ch25.out h))).2.2.2.2.2.1))))
             subst e16 e17 e18 e23 e24 e25
             refine .inl ?_
             unfold e16Upd Oper.wp
             go_simp
             exact e16J.at f0 f1 f2 f3 f4 f5 f6 f7 f8 f9 f10 f11 f12 f13 f14 true false false false f19 f20 f21 f22 false false false (o45) (n45) (c45) (o48) (n48) (c48) (o51) (n51) (c51) (o54) (n54) (c54) (o57) (n57) (c57) (o61) (n61) (c61) (o63) (n63) (c63) (o65) (n65) (c65) (H66) (o67) (n67) (c67) rfl rfl (ch1) (ch2) (ch4) (ch5) (ch7) (ch8) (ch10) (ch11) (ch13) (ch14) (Lib.hid (by simp)) (Lib.hid (by simp)) (Lib.hid (by simp)) (ch20) (ch22) (Lib.hid (by simp)) (Lib.hid (by simp)) (Lib.hid (by simp)) (hB) (r45) (r48) (r51) (r54) (r57) (by simp) (r63) (r65) (by simp) (by simp)
           · have ho' := ho
             simp at hu ho
             subst hu ho
             simp [Region.binds] at ha
             obtain rfl : f15 = true := by simp only [ha]
             clear ha
             have e17 : f17 = false := Bool.eq_false_iff.2 fun h => Bool.false_ne_true ((ch17.out h))
             have e18 : f18 = false := Bool.eq_false_iff.2 fun h => Bool.false_ne_true ((ch17.out (ch18.out h)))
             have e23 : f23 = false := Bool.eq_false_iff.2 fun h => Bool.false_ne_true ((ch17.out (ch18.out (ch23.out h).2.2.2.2.2.1)))
             have e24 : f24 = false := Bool.eq_false_iff.2 fun h => Bool.false_ne_true ((ch17.out (ch18.out (ch23.out (ch24.out h)).2.2.2.2.2.1)))
             have e25 : f25 = false := Bool.eq_false_iff.2 fun h => Bool.false_ne_true ((ch17.out (ch18.out (ch23.out (ch24.out (ch25.out h))).2.2.2.2.2.1)))
             subst e17 e18 e23 e24 e25
             have k0 := (hB.cell (p := ⟨wo.heap.size, 5, none⟩) (by exact HD16.out.lt)).trans (HD16.out.cell 5 _ rfl)
             have kl := Nat.lt_of_lt_of_le HD16.out.lt hB.size
             refine .inl ?_
             unfold e16Upd Oper.wp
             go_simp
             exact e16J.at f0 f1 f2 f3 f4 f5 f6 f7 f8 f9 f10 f11 f12 f13 f14 true true false false f19 f20 f21 f22 false false false (o45) (n45) (c45) (o48) (n48) (c48) (o51) (n51) (c51) (o54) (n54) (c54) (o57) (n57) (c57) (o61) (n61) (c61) (o63) (n63) (c63) (o65) (n65) (c65) (H66) (o67) (n67) (c67) rfl rfl (ch1) (ch2) (ch4) (ch5) (ch7) (ch8) (ch10) (ch11) (ch13) (ch14) (Lib.hid (by simp)) (Lib.hid (by simp)) (Lib.hid (by simp)) (ch20) (ch22) (Lib.hid (by simp)) (Lib.hid (by simp)) (Lib.hid (by simp)) (hB) (r45) (r48) (r51) (r54) (r57) (by simp) (r63) (r65) (by simp) (by simp)
           · have ho' := ho
             simp at hu ho
             subst hu ho
             simp [Region.binds] at ha
             obtain rfl : f16 = true := by simp only [ha]
             clear ha
             obtain rfl : f15 = true := (ch16.out rfl)
             have e18 : f18 = false := Bool.eq_false_iff.2 fun h => Bool.false_ne_true ((ch18.out h))
             have e23 : f23 = false := Bool.eq_false_iff.2 fun h => Bool.false_ne_true ((ch18.out (ch23.out h).2.2.2.2.2.1))
             have e24 : f24 = false := Bool.eq_false_iff.2 fun h => Bool.false_ne_true ((ch18.out (ch23.out (ch24.out h)).2.2.2.2.2.1))
             have e25 : f25 = false := Bool.eq_false_iff.2 fun h => Bool.false_ne_true ((ch18.out (ch23.out (ch24.out (ch25.out h))).2.2.2.2.2.1))
             subst e18 e23 e24 e25
             have hS := hB.size
             refine .inl ?_
             unfold e16Upd Oper.wp
             go_simp
             refine (refWord_any d.scope w').mono ?_
             intro e w1 hO
             obtain ⟨rfl, hb⟩ := hO
             exact e16J.at f0 f1 f2 f3 f4 f5 f6 f7 f8 f9 f10 f11 f12 f13 f14 true true true false f19 f20 f21 f22 false false false (o45) (n45) (c45) (o48) (n48) (c48) (o51) (n51) (c51) (o54) (n54) (c54) (o57) (n57) (c57) (o61) (n61) (c61) (o63) (n63) (c63) (o65) (n65) (c65) (H66) (o67) (n67) (c67) rfl rfl (ch1) (ch2) (ch4) (ch5) (ch7) (ch8) (ch10) (ch11) (ch13) (ch14) (Lib.hid (by simp)) (Lib.hid (by simp)) (Lib.hid (by simp)) (ch20) (ch22) (Lib.hid (by simp)) (Lib.hid (by simp)) (Lib.hid (by simp)) (hB.trans (hb.mono hS)) (fun h0 => (r45 h0).later hb) (fun h0 => (r48 h0).later hb) (fun h0 => (r51 h0).later hb) (fun h0 => (r54 h0).later hb) (fun h0 => (r57 h0).later hb) (by simp) (fun h0 => (r63 h0).later hb) (fun h0 => (r65 h0).later hb) (by simp) (by simp)
           · have ho' := ho
             simp at hu ho
             subst hu ho
             simp [Region.binds] at ha
             obtain rfl : f17 = true := by simp only [ha]
             clear ha
             obtain rfl : f16 = true := (ch17.out rfl)
             obtain rfl : f15 = true := (ch16.out (ch17.out rfl))
             have e23 : f23 = false := Bool.eq_false_iff.2 fun h => Bool.false_ne_true ((ch23.out h).2.2.2.2.2.1)
             have e24 : f24 = false := Bool.eq_false_iff.2 fun h => Bool.false_ne_true ((ch23.out (ch24.out h)).2.2.2.2.2.1)
             have e25 : f25 = false := Bool.eq_false_iff.2 fun h => Bool.false_ne_true ((ch23.out (ch24.out (ch25.out h))).2.2.2.2.2.1)
             subst e23 e24 e25
             have hS := hB.size
             refine .inl ?_
             unfold e16Upd Oper.wp
             go_simp
             refine (leafR_any (fun j => j < wo.heap.size) bScope (bs (wordB d.scope)) w' (fun j h => Nat.lt_of_lt_of_le (Nat.lt_of_lt_of_le h HWS.out) hS)).mono ?_
             intro e w1 hO
             obtain ⟨o1, n1, c1, rfl, hr, hb⟩ := hO
             exact e16J.at f0 f1 f2 f3 f4 f5 f6 f7 f8 f9 f10 f11 f12 f13 f14 true true true true f19 f20 f21 f22 false false false (o45) (n45) (c45) (o48) (n48) (c48) (o51) (n51) (c51) (o54) (n54) (c54) (o57) (n57) (c57) (o1) (n1) (c1) (o63) (n63) (c63) (o65) (n65) (c65) (H66) (o67) (n67) (c67) rfl rfl (ch1) (ch2) (ch4) (ch5) (ch7) (ch8) (ch10) (ch11) (ch13) (ch14) (Lib.hid (by simp)) (Lib.hid (by simp)) (Lib.hid (by simp)) (ch20) (ch22) (Lib.hid (by simp)) (Lib.hid (by simp)) (Lib.hid (by simp)) (hB.trans (hb.mono hS)) (fun h0 => (r45 h0).later hb) (fun h0 => (r48 h0).later hb) (fun h0 => (r51 h0).later hb) (fun h0 => (r54 h0).later hb) (fun h0 => (r57 h0).later hb) (fun h0 => hr) (fun h0 => (r63 h0).later hb) (fun h0 => (r65 h0).later hb) (by simp) (by simp)
           · have ho' := ho
             simp at hu ho
             subst hu ho
             clear ha
             have e20 : f20 = false := Bool.eq_false_iff.2 fun h => Bool.false_ne_true ((ch20.out h))
             have e23 : f23 = false := Bool.eq_false_iff.2 fun h => Bool.false_ne_true ((ch20.out (ch23.out h).2.2.2.2.2.2.1))
             have e24 : f24 = false := Bool.eq_false_iff.2 fun h => Bool.false_ne_true ((ch20.out (ch23.out (ch24.out h)).2.2.2.2.2.2.1))
             have e25 : f25 = false := Bool.eq_false_iff.2 fun h => Bool.false_ne_true ((ch20.out (ch23.out (ch24.out (ch25.out h))).2.2.2.2.2.2.1))
             subst e20 e23 e24 e25
             refine .inl ?_
             unfold e16Upd Oper.wp
             go_simp
             exact e16J.at f0 f1 f2 f3 f4 f5 f6 f7 f8 f9 f10 f11 f12 f13 f14 f15 f16 f17 f18 true false f21 f22 false false false (o45) (n45) (c45) (o48) (n48) (c48) (o51) (n51) (c51) (o54) (n54) (c54) (o57) (n57) (c57) (o61) (n61) (c61) (o63) (n63) (c63) (o65) (n65) (c65) (H66) (o67) (n67) (c67) rfl rfl (ch1) (ch2) (ch4) (ch5) (ch7) (ch8) (ch10) (ch11) (ch13) (ch14) (ch16) (ch17) (ch18) (Lib.hid (by simp)) (ch22) (Lib.hid (by simp)) (Lib.hid (by simp)) (Lib.hid (by simp)) (hB) (r45) (r48) (r51) (r54) (r57) (r61) (by simp) (r65) (by simp) (by simp)
           · have ho' := ho
             simp at hu ho
             subst hu ho
             simp [Region.binds] at ha
             obtain rfl : f19 = true := by simp only [ha]
             clear ha
             have e23 : f23 = false := Bool.eq_false_iff.2 fun h => Bool.false_ne_true ((ch23.out h).2.2.2.2.2.2.1)
             have e24 : f24 = false := Bool.eq_false_iff.2 fun h => Bool.false_ne_true ((ch23.out (ch24.out h)).2.2.2.2.2.2.1)
             have e25 : f25 = false := Bool.eq_false_iff.2 fun h => Bool.false_ne_true ((ch23.out (ch24.out (ch25.out h))).2.2.2.2.2.2.1)
             subst e23 e24 e25
             have hS := hB.size
             refine .inl ?_
             unfold e16Upd Oper.wp
             go_simp
             refine (leafR_any (fun j => j < wo.heap.size) bOptional ⟨#[116, 114, 117, 101]⟩ w' (fun j h => Nat.lt_of_lt_of_le (Nat.lt_of_lt_of_le h HWS.out) hS)).mono ?_
             intro e w1 hO
             obtain ⟨o1, n1, c1, rfl, hr, hb⟩ := hO
             exact e16J.at f0 f1 f2 f3 f4 f5 f6 f7 f8 f9 f10 f11 f12 f13 f14 f15 f16 f17 f18 true true f21 f22 false false false (o45) (n45) (c45) (o48) (n48) (c48) (o51) (n51) (c51) (o54) (n54) (c54) (o57) (n57) (c57) (o61) (n61) (c61) (o1) (n1) (c1) (o65) (n65) (c65) (H66) (o67) (n67) (c67) rfl rfl (ch1) (ch2) (ch4) (ch5) (ch7) (ch8) (ch10) (ch11) (ch13) (ch14) (ch16) (ch17) (ch18) (Lib.hid (by simp)) (ch22) (Lib.hid (by simp)) (Lib.hid (by simp)) (Lib.hid (by simp)) (hB.trans (hb.mono hS)) (fun h0 => (r45 h0).later hb) (fun h0 => (r48 h0).later hb) (fun h0 => (r51 h0).later hb) (fun h0 => (r54 h0).later hb) (fun h0 => (r57 h0).later hb) (fun h0 => (r61 h0).later hb) (fun h0 => hr) (fun h0 => (r65 h0).later hb) (by simp) (by simp)
           · have ho' := ho
             simp at hu ho
             subst hu ho
             clear ha
             have e22 : f22 = false := Bool.eq_false_iff.2 fun h => Bool.false_ne_true ((ch22.out h))
             have e23 : f23 = false := Bool.eq_false_iff.2 fun h => Bool.false_ne_true ((ch22.out (ch23.out h).2.2.2.2.2.2.2))
             have e24 : f24 = false := Bool.eq_false_iff.2 fun h => Bool.false_ne_true ((ch22.out (ch23.out (ch24.out h)).2.2.2.2.2.2.2))
             have e25 : f25 = false := Bool.eq_false_iff.2 fun h => Bool.false_ne_true ((ch22.out (ch23.out (ch24.out (ch25.out h))).2.2.2.2.2.2.2))
             subst e22 e23 e24 e25
             refine .inl ?_
             unfold e16Upd Oper.wp
             go_simp
             exact e16J.at f0 f1 f2 f3 f4 f5 f6 f7 f8 f9 f10 f11 f12 f13 f14 f15 f16 f17 f18 f19 f20 true false false false false (o45) (n45) (c45) (o48) (n48) (c48) (o51) (n51) (c51) (o54) (n54) (c54) (o57) (n57) (c57) (o61) (n61) (c61) (o63) (n63) (c63) (o65) (n65) (c65) (H66) (o67) (n67) (c67) rfl rfl (ch1) (ch2) (ch4) (ch5) (ch7) (ch8) (ch10) (ch11) (ch13) (ch14) (ch16) (ch17) (ch18) (ch20) (Lib.hid (by simp)) (Lib.hid (by simp)) (Lib.hid (by simp)) (Lib.hid (by simp)) (hB) (r45) (r48) (r51) (r54) (r57) (r61) (r63) (by simp) (by simp) (by simp)
           · have ho' := ho
             simp at hu ho
             subst hu ho
             simp [Region.binds] at ha
             obtain rfl : f21 = true := by simp only [ha]
             clear ha
             have e23 : f23 = false := Bool.eq_false_iff.2 fun h => Bool.false_ne_true ((ch23.out h).2.2.2.2.2.2.2)
             have e24 : f24 = false := Bool.eq_false_iff.2 fun h => Bool.false_ne_true ((ch23.out (ch24.out h)).2.2.2.2.2.2.2)
             have e25 : f25 = false := Bool.eq_false_iff.2 fun h => Bool.false_ne_true ((ch23.out (ch24.out (ch25.out h))).2.2.2.2.2.2.2)
             subst e23 e24 e25
             have hS := hB.size
             refine .inl ?_
             unfold e16Upd Oper.wp
             go_simp
             refine (branchR_any (fun j => j < wo.heap.size) bExclusions _ _ w' (HXR.out.later hB) (fun j h => Nat.lt_of_lt_of_le (Nat.lt_of_lt_of_le h HWS.out) hS)).mono ?_
             intro e w1 hO
             obtain ⟨o1, n1, c1, rfl, hr, hb⟩ := hO
             exact e16J.at f0 f1 f2 f3 f4 f5 f6 f7 f8 f9 f10 f11 f12 f13 f14 f15 f16 f17 f18 f19 f20 true true false false false (o45) (n45) (c45) (o48) (n48) (c48) (o51) (n51) (c51) (o54) (n54) (c54) (o57) (n57) (c57) (o61) (n61) (c61) (o63) (n63) (c63) (o1) (n1) (c1) (H66) (o67) (n67) (c67) rfl rfl (ch1) (ch2) (ch4) (ch5) (ch7) (ch8) (ch10) (ch11) (ch13) (ch14) (ch16) (ch17) (ch18) (ch20) (Lib.hid (by simp)) (Lib.hid (by simp)) (Lib.hid (by simp)) (Lib.hid (by simp)) (hB.trans (hb.mono hS)) (fun h0 => (r45 h0).later hb) (fun h0 => (r48 h0).later hb) (fun h0 => (r51 h0).later hb) (fun h0 => (r54 h0).later hb) (fun h0 => (r57 h0).later hb) (fun h0 => (r61 h0).later hb) (fun h0 => (r63 h0).later hb) (fun h0 => hr) (by simp) (by simp)
           · have ho' := ho
             simp at hu ho
             subst hu ho
             simp [Region.binds] at ha
             obtain rfl : f2 = true := by simp only [ha]
             obtain rfl : f5 = true := by simp only [ha]
             obtain rfl : f8 = true := by simp only [ha]
             obtain rfl : f11 = true := by simp only [ha]
             obtain rfl : f14 = true := by simp only [ha]
             obtain rfl : f18 = true := by simp only [ha]
             obtain rfl : f20 = true := by simp only [ha]
             obtain rfl : f22 = true := by simp only [ha]
             clear ha
             obtain rfl : f21 = true := (ch22.out rfl)
             obtain rfl : f19 = true := (ch20.out rfl)
             obtain rfl : f17 = true := (ch18.out rfl)
             obtain rfl : f16 = true := (ch17.out (ch18.out rfl))
             obtain rfl : f15 = true := (ch16.out (ch17.out (ch18.out rfl)))
             obtain rfl : f13 = true := (ch14.out rfl)
             obtain rfl : f12 = true := (ch13.out (ch14.out rfl))
             obtain rfl : f10 = true := (ch11.out rfl)
             obtain rfl : f9 = true := (ch10.out (ch11.out rfl))
             obtain rfl : f7 = true := (ch8.out rfl)
             obtain rfl : f6 = true := (ch7.out (ch8.out rfl))
             obtain rfl : f4 = true := (ch5.out rfl)
             obtain rfl : f3 = true := (ch4.out (ch5.out rfl))
             obtain rfl : f1 = true := (ch2.out rfl)
             obtain rfl : f0 = true := (ch1.out (ch2.out rfl))
             have e24 : f24 = false := Bool.eq_false_iff.2 fun h => Bool.false_ne_true ((ch24.out h))
             have e25 : f25 = false := Bool.eq_false_iff.2 fun h => Bool.false_ne_true ((ch24.out (ch25.out h)))
             subst e24 e25
             have hS := hB.size
             have hal := fun o => (Below.refl w'.heap.size w').alloc (Nat.le_refl w'.heap.size) o
             refine .inl ?_
             unfold e16Upd Oper.wp
             go_simp
             exact e16J.at true true true true true true true true true true true true true true true true true true true true true true true true false false (o45) (n45) (c45) (o48) (n48) (c48) (o51) (n51) (c51) (o54) (n54) (c54) (o57) (n57) (c57) (o61) (n61) (c61) (o63) (n63) (c63) (o65) (n65) (c65) (w'.heap.size) (o67) (n67) (c67) rfl rfl (Lib.hid (by simp)) (Lib.hid (by simp)) (Lib.hid (by simp)) (Lib.hid (by simp)) (Lib.hid (by simp)) (Lib.hid (by simp)) (Lib.hid (by simp)) (Lib.hid (by simp)) (Lib.hid (by simp)) (Lib.hid (by simp)) (Lib.hid (by simp)) (Lib.hid (by simp)) (Lib.hid (by simp)) (Lib.hid (by simp)) (Lib.hid (by simp)) (Lib.hid (by simp)) (Lib.hid (by simp)) (Lib.hid (by simp)) (hB.trans ((hal _).mono hS)) (fun h0 => (r45 h0).later (hal _)) (fun h0 => (r48 h0).later (hal _)) (fun h0 => (r51 h0).later (hal _)) (fun h0 => (r54 h0).later (hal _)) (fun h0 => (r57 h0).later (hal _)) (fun h0 => (r61 h0).later (hal _)) (fun h0 => (r63 h0).later (hal _)) (fun h0 => (r65 h0).later (hal _)) (fun h0 => rows_lit [.slice o45 n45 c45, .slice o48 n48 c48, .slice o51 n51 c51, .slice o54 n54 c54, .slice o57 n57 c57, .slice o61 n61 c61, .slice o63 n63 c63, .slice o65 n65 c65] [leafT bGroup d.group, leafT bArtifact d.artifact, leafT bVersion d.version, leafT bType d.type, leafT bClassifier d.classifier, leafT bScope (bs (wordB d.scope)), leafT bOptional ⟨#[116, 114, 117, 101]⟩, branchT bExclusions TS] w' _ _ rfl rfl (by simp [maxLen]) (rows8 (r45 rfl) (r48 rfl) (r51 rfl) (r54 rfl) (r57 rfl) (r61 rfl) (r63 rfl) (r65 rfl))) (by simp)
           · have ho' := ho
             simp at hu ho
             subst hu ho
             simp [Region.binds] at ha
             obtain rfl : f23 = true := by simp only [ha]
             clear ha
             obtain rfl : f22 = true := (ch23.out rfl).2.2.2.2.2.2.2
             obtain rfl : f21 = true := (ch22.out (ch23.out rfl).2.2.2.2.2.2.2)
             obtain rfl : f20 = true := (ch23.out rfl).2.2.2.2.2.2.1
             obtain rfl : f19 = true := (ch20.out (ch23.out rfl).2.2.2.2.2.2.1)
             obtain rfl : f18 = true := (ch23.out rfl).2.2.2.2.2.1
             obtain rfl : f17 = true := (ch18.out (ch23.out rfl).2.2.2.2.2.1)
             obtain rfl : f16 = true := (ch17.out (ch18.out (ch23.out rfl).2.2.2.2.2.1))
             obtain rfl : f15 = true := (ch16.out (ch17.out (ch18.out (ch23.out rfl).2.2.2.2.2.1)))
             obtain rfl : f14 = true := (ch23.out rfl).2.2.2.2.1
             obtain rfl : f13 = true := (ch14.out (ch23.out rfl).2.2.2.2.1)
             obtain rfl : f12 = true := (ch13.out (ch14.out (ch23.out rfl).2.2.2.2.1))
             obtain rfl : f11 = true := (ch23.out rfl).2.2.2.1
             obtain rfl : f10 = true := (ch11.out (ch23.out rfl).2.2.2.1)
             obtain rfl : f9 = true := (ch10.out (ch11.out (ch23.out rfl).2.2.2.1))
             obtain rfl : f8 = true := (ch23.out rfl).2.2.1
             obtain rfl : f7 = true := (ch8.out (ch23.out rfl).2.2.1)
             obtain rfl : f6 = true := (ch7.out (ch8.out (ch23.out rfl).2.2.1))
             obtain rfl : f5 = true := (ch23.out rfl).2.1
             obtain rfl : f4 = true := (ch5.out (ch23.out rfl).2.1)
             obtain rfl : f3 = true := (ch4.out (ch5.out (ch23.out rfl).2.1))
             obtain rfl : f2 = true := (ch23.out rfl).1
             obtain rfl : f1 = true := (ch2.out (ch23.out rfl).1)
             obtain rfl : f0 = true := (ch1.out (ch2.out (ch23.out rfl).1))
             have e25 : f25 = false := Bool.eq_false_iff.2 fun h => Bool.false_ne_true ((ch25.out h))
             subst e25
             have hS := hB.size
             refine .inl ?_
             unfold e16Upd Oper.wp
             go_simp
             refine (allR_any (fun j => j < wo.heap.size) _ _ w' (r66 rfl) (fun j h => Nat.lt_of_lt_of_le (Nat.lt_of_lt_of_le h HWS.out) hS) (by simp) HL8.out).mono ?_
             intro e w1 hO
             obtain ⟨o1, n1, c1, rfl, hr, hb⟩ := hO
             exact e16J.at true true true true true true true true true true true true true true true true true true true true true true true true true false (o45) (n45) (c45) (o48) (n48) (c48) (o51) (n51) (c51) (o54) (n54) (c54) (o57) (n57) (c57) (o61) (n61) (c61) (o63) (n63) (c63) (o65) (n65) (c65) (H66) (o1) (n1) (c1) rfl rfl (Lib.hid (by simp)) (Lib.hid (by simp)) (Lib.hid (by simp)) (Lib.hid (by simp)) (Lib.hid (by simp)) (Lib.hid (by simp)) (Lib.hid (by simp)) (Lib.hid (by simp)) (Lib.hid (by simp)) (Lib.hid (by simp)) (Lib.hid (by simp)) (Lib.hid (by simp)) (Lib.hid (by simp)) (Lib.hid (by simp)) (Lib.hid (by simp)) (Lib.hid (by simp)) (Lib.hid (by simp)) (Lib.hid (by simp)) (hB.trans (hb.mono hS)) (fun h0 => (r45 h0).later hb) (fun h0 => (r48 h0).later hb) (fun h0 => (r51 h0).later hb) (fun h0 => (r54 h0).later hb) (fun h0 => (r57 h0).later hb) (fun h0 => (r61 h0).later hb) (fun h0 => (r63 h0).later hb) (fun h0 => (r65 h0).later hb) (fun h0 => (r66 h0).later hb) (fun h0 => hr)
           · have ho' := ho
             simp at hu ho
             subst hu ho
             simp [Region.binds] at ha
             obtain rfl : f24 = true := by simp only [ha]
             clear ha
             obtain rfl : f23 = true := (ch24.out rfl)
             obtain rfl : f22 = true := (ch23.out (ch24.out rfl)).2.2.2.2.2.2.2
             obtain rfl : f21 = true := (ch22.out (ch23.out (ch24.out rfl)).2.2.2.2.2.2.2)
             obtain rfl : f20 = true := (ch23.out (ch24.out rfl)).2.2.2.2.2.2.1
             obtain rfl : f19 = true := (ch20.out (ch23.out (ch24.out rfl)).2.2.2.2.2.2.1)
             obtain rfl : f18 = true := (ch23.out (ch24.out rfl)).2.2.2.2.2.1
             obtain rfl : f17 = true := (ch18.out (ch23.out (ch24.out rfl)).2.2.2.2.2.1)
             obtain rfl : f16 = true := (ch17.out (ch18.out (ch23.out (ch24.out rfl)).2.2.2.2.2.1))
             obtain rfl : f15 = true := (ch16.out (ch17.out (ch18.out (ch23.out (ch24.out rfl)).2.2.2.2.2.1)))
             obtain rfl : f14 = true := (ch23.out (ch24.out rfl)).2.2.2.2.1
             obtain rfl : f13 = true := (ch14.out (ch23.out (ch24.out rfl)).2.2.2.2.1)
             obtain rfl : f12 = true := (ch13.out (ch14.out (ch23.out (ch24.out rfl)).2.2.2.2.1))
             obtain rfl : f11 = true := (ch23.out (ch24.out rfl)).2.2.2.1
             obtain rfl : f10 = true := (ch11.out (ch23.out (ch24.out rfl)).2.2.2.1)
             obtain rfl : f9 = true := (ch10.out (ch11.out (ch23.out (ch24.out rfl)).2.2.2.1))
             obtain rfl : f8 = true := (ch23.out (ch24.out rfl)).2.2.1
             obtain rfl : f7 = true := (ch8.out (ch23.out (ch24.out rfl)).2.2.1)
             obtain rfl : f6 = true := (ch7.out (ch8.out (ch23.out (ch24.out rfl)).2.2.1))
             obtain rfl : f5 = true := (ch23.out (ch24.out rfl)).2.1
             obtain rfl : f4 = true := (ch5.out (ch23.out (ch24.out rfl)).2.1)
             obtain rfl : f3 = true := (ch4.out (ch5.out (ch23.out (ch24.out rfl)).2.1))
             obtain rfl : f2 = true := (ch23.out (ch24.out rfl)).1
             obtain rfl : f1 = true := (ch2.out (ch23.out (ch24.out rfl)).1)
             obtain rfl : f0 = true := (ch1.out (ch2.out (ch23.out (ch24.out rfl)).1))
             refine .inl ?_
             unfold e16Upd Oper.wp
             go_simp
             exact e16J.at true true true true true true true true true true true true true true true true true true true true true true true true true true (o45) (n45) (c45) (o48) (n48) (c48) (o51) (n51) (c51) (o54) (n54) (c54) (o57) (n57) (c57) (o61) (n61) (c61) (o63) (n63) (c63) (o65) (n65) (c65) (H66) (o67) (n67) (c67) rfl rfl (Lib.hid (by simp)) (Lib.hid (by simp)) (Lib.hid (by simp)) (Lib.hid (by simp)) (Lib.hid (by simp)) (Lib.hid (by simp)) (Lib.hid (by simp)) (Lib.hid (by simp)) (Lib.hid (by simp)) (Lib.hid (by simp)) (Lib.hid (by simp)) (Lib.hid (by simp)) (Lib.hid (by simp)) (Lib.hid (by simp)) (Lib.hid (by simp)) (Lib.hid (by simp)) (Lib.hid (by simp)) (Lib.hid (by simp)) (hB) (r45) (r48) (r51) (r54) (r57) (r61) (r63) (r65) (r66) (r67)
       · have q1 : (d.opt == 1) = false := by rw [ho]; rfl
         have q2 : (d.opt == 2) = true := by rw [ho]; rfl
         have HOS : Hid (leafT bOptional ⟨#[102, 97, 108, 115, 101]⟩ = optT d.opt) := by
          show _ = _
          rw [← opt_leaf]
          unfold optS
          rw [if_neg (by omega), if_pos ho]; rfl
         have HL8 : Hid (∀ ts ∈ [leafT bGroup d.group, leafT bArtifact d.artifact, leafT bVersion d.version, leafT bType d.type, leafT bClassifier d.classifier, leafT bScope (bs (wordB d.scope)), leafT bOptional ⟨#[102, 97, 108, 115, 101]⟩, branchT bExclusions TS], ts.length ≤ 100000) := by
          intro ts h
          simp only [List.mem_cons, List.not_mem_nil, or_false] at h
          rcases h with rfl | rfl | rfl | rfl | rfl | rfl | rfl | rfl
          all_goals first | exact Nat.le_trans (leafT_len _ _) (by decide) | exact Nat.le_trans (branchT_len _ _) (by decide)
         clear ho
         go_upto_region 16 with fail
         clear q1 q2 d6
         refine wp_region_flags0 (e16J wo.heap.size d ⟨#[102, 97, 108, 115, 101]⟩ qo XL.length qc TS wr _ _ _ _ _ _ _ _ _ _ _ _ _ _ _ _ _ _ _ _ _ _ _ _ _ _ _ _ _ _ _ _ _ _ _ _ _ _ _ _ _ _ _ _ _ _ _ _ _ _ _ _ _ _ _ _ _ _ _ _ _ _ _ _ _ _ _ _ _ _ _ _ _ _ _ _) (by kernel_rfl) 26 rfl (by kernel_rfl) (e16J.at false false false false false false false false false false false false false false false false false false false false false false false false false false (none) (0) (0) (none) (0) (0) (none) (0) (0) (none) (0) (0) (none) (0) (0) (none) (0) (0) (none) (0) (0) (none) (0) (0) (0) (none) (0) (0) rfl (by unfold e16Upd; rfl) ?i0 ?i1 ?i2 ?i3 ?i4 ?i5 ?i6 ?i7 ?i8 ?i9 ?i10 ?i11 ?i12 ?i13 ?i14 ?i15 ?i16 ?i17 ?i18 ?i19 ?i20 ?i21 ?i22 ?i23 ?i24 ?i25 ?i26 ?i27 ?i28) ?fin ?step
         case i0 => exact Lib.hid (by simp)
         case i1 => exact Lib.hid (by simp)
         case i2 => exact Lib.hid (by simp)
         case i3 => exact Lib.hid (by simp)
         case i4 => exact Lib.hid (by simp)
         case i5 => exact Lib.hid (by simp)
         case i6 => exact Lib.hid (by simp)
         case i7 => exact Lib.hid (by simp)
         case i8 => exact Lib.hid (by simp)
         case i9 => exact Lib.hid (by simp)
         case i10 => exact Lib.hid (by simp)
         case i11 => exact Lib.hid (by simp)
         case i12 => exact Lib.hid (by simp)
         case i13 => exact Lib.hid (by simp)
         case i14 => exact Lib.hid (by simp)
         case i15 => exact Lib.hid (by simp)
         case i16 => exact Lib.hid (by simp)
         case i17 => exact Lib.hid (by simp)
         case i18 => exact belowN (Below.refl _ _) 1
         case i19 => exact by simp
         case i20 => exact by simp
         case i21 => exact by simp
         case i22 => exact by simp
         case i23 => exact by simp
         case i24 => exact by simp
         case i25 => exact by simp
         case i26 => exact by simp
         case i27 => exact by simp
         case i28 => exact by simp
         case fin =>
          intro a' w' hJ
          generalize hl : Array.replicate 26 true = Lz at hJ
          cases hJ with
          | mk f0 f1 f2 f3 f4 f5 f6 f7 f8 f9 f10 f11 f12 f13 f14 f15 f16 f17 f18 f19 f20 f21 f22 f23 f24 f25 o45 n45 c45 o48 n48 c48 o51 n51 c51 o54 n54 c54 o57 n57 c57 o61 n61 c61 o63 n63 c63 o65 n65 c65 H66 o67 n67 c67 _ ch1 ch2 ch4 ch5 ch7 ch8 ch10 ch11 ch13 ch14 ch16 ch17 ch18 ch20 ch22 ch23 ch24 ch25 hB r45 r48 r51 r54 r57 r61 r63 r65 r66 r67 =>
           have hl' : [true, true, true, true, true, true, true, true, true, true, true, true, true, true, true, true, true, true, true, true, true, true, true, true, true, true] = [f0, f1, f2, f3, f4, f5, f6, f7, f8, f9, f10, f11, f12, f13, f14, f15, f16, f17, f18, f19, f20, f21, f22, f23, f24, f25] := congrArg Array.toList hl
           simp only [List.cons.injEq, and_true] at hl'
           obtain ⟨rfl, rfl, rfl, rfl, rfl, rfl, rfl, rfl, rfl, rfl, rfl, rfl, rfl, rfl, rfl, rfl, rfl, rfl, rfl, rfl, rfl, rfl, rfl, rfl, rfl, rfl⟩ := hl'
           clear hl
           unfold e16Upd
           simp only [cond_true]
           have HR7 := Lib.hid (r67 rfl)
           have HB7 := Lib.hid hB
           clear ch1 ch2 ch4 ch5 ch7 ch8 ch10 ch11 ch13 ch14 ch16 ch17 ch18 ch20 ch22 ch23 ch24 ch25 hB r45 r48 r51 r54 r57 r61 r63 r65 r66 r67
           have HDT : Hid (([leafT bGroup d.group, leafT bArtifact d.artifact, leafT bVersion d.version, leafT bType d.type, leafT bClassifier d.classifier, leafT bScope (bs (wordB d.scope)), leafT bOptional ⟨#[102, 97, 108, 115, 101]⟩, branchT bExclusions TS].flatten : List Tr) = (depT d).kids) := by
            show _ = _
            rw [HOS.out, HTX.out]
            simp [depT, Tr.kids, List.append_assoc]
           obtain ⟨KK, hKK⟩ : ∃ KK : List Tr, KK = [leafT bGroup d.group, leafT bArtifact d.artifact, leafT bVersion d.version, leafT bType d.type, leafT bClassifier d.classifier, leafT bScope (bs (wordB d.scope)), leafT bOptional ⟨#[102, 97, 108, 115, 101]⟩, branchT bExclusions TS].flatten := ⟨_, rfl⟩
           rw [← hKK] at HR7 HDT
           clear hKK HOS HL8 HXR HTX HD16 dl
           have HAL : Hid (AL.length ≤ 2000) := by
            show _ ≤ _
            have h1 := HRR.out.2.len
            rw [List.length_map, List.length_take] at h1
            have := HLN.out
            omega
           have HW7 := Lib.hid (HBX.out.trans (HB7.out.mono HBX.out.size))
           have HA7 := Lib.hid (HRR.out.2.below HW7.out)
           have HLT7 : Hid (SliceOf 4 trC (w'.alloc (.cells #[.string (bs bDependency), .slice none 0 0, .slice o67 n67 c67, .string ⟨#[]⟩] 25)) (.slice (some ⟨w'.heap.size, 0, none⟩) 1 1) [((.mk bDependency [] KK [], .slice none 0 0, .slice o67 n67 c67) : TrV)]) := tr_lit (.mk bDependency [] KK [], .slice none 0 0, .slice o67 n67 c67) w' w'.heap.size rfl
           have HND : Hid (NodeX (fun j => j < w.heap.size ∨ some j = (Value.slice oa AL.length oc).ownBlock) w' (.mk bDependency [] KK []) (.slice none 0 0) (.slice o67 n67 c67)) := (HR7.out.node bDependency).keep (KeptX.refl _ _) (fun k _ hj => hj.elim (fun h => Nat.lt_of_lt_of_le h HRR.out.1.size) (fun h => (HAO.out k h.symm).2))
           have HWW : Hid (w.heap.size ≤ w'.heap.size) := Nat.le_trans HRR.out.1.size HW7.out.size
           have HAA := Lib.hid (HA7.out.own.alloc (.cells #[.string (bs bDependency), .slice none 0 0, .slice o67 n67 c67, .string ⟨#[]⟩] 25))
           go_wp2_with (at_builtin; go_loud (refine wpList_append_slice _ rfl _ _ 23 rfl w.heap.size 25 Tryz.underlying23 info_node rfl (by decide) trC_len (.slice oa AL.length oc) AL rfl HAA.out _ [((.mk bDependency [] KK [], .slice none 0 0, .slice o67 n67 c67) : TrV)] rfl HLT7.out (fun y hy => by obtain rfl := List.mem_singleton.1 hy; exact tr_one _ _ _ _ _ _ _ _ _ _) (by have h1 := HAL.out; simp only [List.length_cons, List.length_nil]; omega) (by decide) (by have h1 := HWW.out; simp; omega) ?_; intro v9 w9 hown9 hgrow9 hloc9; have HO9 := Lib.hid hown9; have HG9 := Lib.hid hgrow9; have HL9 := Lib.hid hloc9; clear hown9 hgrow9 hloc9; obtain ⟨a9, c9, rfl⟩ := HO9.out.shape))
           go_roundw
           case rel =>
            have hal := (Below.refl w'.heap.size w').alloc (Nat.le_refl _) (.cells #[.string (bs bDependency), .slice none 0 0, .slice o67 n67 c67, .string ⟨#[]⟩] 25)
            have hw := HW7.out.trans (hal.mono HW7.out.size)
            have hgr := HRR.out.2.snoc hw HO9.out HG9.out HL9.out (HND.out.later hal)
            refine ⟨k + 1, a9, c9, AL ++ [((.mk bDependency [] KK [], .slice none 0 0, .slice o67 n67 c67) : TrV)], HLT.out, by go_num, by simp, HRR.out.1.trans ((hw.mono HRR.out.1.size).trans (below_own HG9.out (fun g hg => (HRR.out.2.lt g hg).1) (Nat.le_trans HRR.out.1.size hw.size))), ?_⟩
            rw [HTK.out, List.map_append, List.map_cons, List.map_nil, show depT d = .mk bDependency [] KK [] from by rw [HDT.out]; rfl]
            exact hgr
           case measure => simp [intOf]; have := HLT.out; omega
         case step =>
          intro listed a' w' hJ i hi
          cases hJ with
          | mk f0 f1 f2 f3 f4 f5 f6 f7 f8 f9 f10 f11 f12 f13 f14 f15 f16 f17 f18 f19 f20 f21 f22 f23 f24 f25 o45 n45 c45 o48 n48 c48 o51 n51 c51 o54 n54 c54 o57 n57 c57 o61 n61 c61 o63 n63 c63 o65 n65 c65 H66 o67 n67 c67 _ ch1 ch2 ch4 ch5 ch7 ch8 ch10 ch11 ch13 ch14 ch16 ch17 ch18 ch20 ch22 ch23 ch24 ch25 hB r45 r48 r51 r54 r57 r61 r63 r65 r66 r67 =>
           rw [mem_ready] at hi
           obtain ⟨hu, o, ho, ha⟩ := hi
           have hi8 : i < 26 := (Array.getElem?_eq_some_iff.1 ho).1
           rcases (by omega : i = 0 ∨ i = 1 ∨ i = 2 ∨ i = 3 ∨ i = 4 ∨ i = 5 ∨ i = 6 ∨ i = 7 ∨ i = 8 ∨ i = 9 ∨ i = 10 ∨ i = 11 ∨ i = 12 ∨ i = 13 ∨ i = 14 ∨ i = 15 ∨ i = 16 ∨ i = 17 ∨ i = 18 ∨ i = 19 ∨ i = 20 ∨ i = 21 ∨ i = 22 ∨ i = 23 ∨ i = 24 ∨ i = 25) with rfl | rfl | rfl | rfl | rfl | rfl | rfl | rfl | rfl | rfl | rfl | rfl | rfl | rfl | rfl | rfl | rfl | rfl | rfl | rfl | rfl | rfl | rfl | rfl | rfl | rfl
           · have ho' := ho
             simp at hu ho
             subst hu ho
             clear ha
             have e1 : f1 = false := Bool.eq_false_iff.2 fun h => Bool.false_ne_true ((ch1.out h))
             have e2 : f2 = false := Bool.eq_false_iff.2 fun h => Bool.false_ne_true ((ch1.out (ch2.out h)))
             have e23 : f23 = false := Bool.eq_false_iff.2 fun h => Bool.false_ne_true ((ch1.out (ch2.out (ch23.out h).1)))
             have e24 : f24 = false := Bool.eq_false_iff.2 fun h => Bool.false_ne_true ((ch1.out (ch2.out (ch23.out (ch24.out h)).1)))
             have e25 : f25 = false := Bool.eq_false_iff.2 fun h => Bool.false_ne_true ((ch1.out (ch2.out (ch23.out (ch24.out (ch25.out h))).1)))
             subst e1 e2 e23 e24 e25
             refine .inl ?_
             unfold e16Upd Oper.wp
             go_simp
             exact e16J.at true false false f3 f4 f5 f6 f7 f8 f9 f10 f11 f12 f13 f14 f15 f16 f17 f18 f19 f20 f21 f22 false false false (o45) (n45) (c45) (o48) (n48) (c48) (o51) (n51) (c51) (o54) (n54) (c54) (o57) (n57) (c57) (o61) (n61) (c61) (o63) (n63) (c63) (o65) (n65) (c65) (H66) (o67) (n67) (c67) rfl rfl (Lib.hid (by simp)) (Lib.hid (by simp)) (ch4) (ch5) (ch7) (ch8) (ch10) (ch11) (ch13) (ch14) (ch16) (ch17) (ch18) (ch20) (ch22) (Lib.hid (by simp)) (Lib.hid (by simp)) (Lib.hid (by simp)) (hB) (by simp) (r48) (r51) (r54) (r57) (r61) (r63) (r65) (by simp) (by simp)
           · have ho' := ho
             simp at hu ho
             subst hu ho
             simp [Region.binds] at ha
             obtain rfl : f0 = true := by simp only [ha]
             clear ha
             have e2 : f2 = false := Bool.eq_false_iff.2 fun h => Bool.false_ne_true ((ch2.out h))
             have e23 : f23 = false := Bool.eq_false_iff.2 fun h => Bool.false_ne_true ((ch2.out (ch23.out h).1))
             have e24 : f24 = false := Bool.eq_false_iff.2 fun h => Bool.false_ne_true ((ch2.out (ch23.out (ch24.out h)).1))
             have e25 : f25 = false := Bool.eq_false_iff.2 fun h => Bool.false_ne_true ((ch2.out (ch23.out (ch24.out (ch25.out h))).1))
             subst e2 e23 e24 e25
             have k0 := (hB.cell (p := ⟨wo.heap.size, 0, none⟩) (by exact HD16.out.lt)).trans (HD16.out.cell 0 _ rfl)
             have kl := Nat.lt_of_lt_of_le HD16.out.lt hB.size
             refine .inl ?_
             unfold e16Upd Oper.wp
             go_simp
             exact e16J.at true true false f3 f4 f5 f6 f7 f8 f9 f10 f11 f12 f13 f14 f15 f16 f17 f18 f19 f20 f21 f22 false false false (o45) (n45) (c45) (o48) (n48) (c48) (o51) (n51) (c51) (o54) (n54) (c54) (o57) (n57) (c57) (o61) (n61) (c61) (o63) (n63) (c63) (o65) (n65) (c65) (H66) (o67) (n67) (c67) rfl rfl (Lib.hid (by simp)) (Lib.hid (by simp)) (ch4) (ch5) (ch7) (ch8) (ch10) (ch11) (ch13) (ch14) (ch16) (ch17) (ch18) (ch20) (ch22) (Lib.hid (by simp)) (Lib.hid (by simp)) (Lib.hid (by simp)) (hB) (by simp) (r48) (r51) (r54) (r57) (r61) (r63) (r65) (by simp) (by simp)
           · have ho' := ho
             simp at hu ho
             subst hu ho
             simp [Region.binds] at ha
             obtain rfl : f1 = true := by simp only [ha]
             clear ha
             obtain rfl : f0 = true := (ch1.out rfl)
             have e23 : f23 = false := Bool.eq_false_iff.2 fun h => Bool.false_ne_true ((ch23.out h).1)
             have e24 : f24 = false := Bool.eq_false_iff.2 fun h => Bool.false_ne_true ((ch23.out (ch24.out h)).1)
             have e25 : f25 = false := Bool.eq_false_iff.2 fun h => Bool.false_ne_true ((ch23.out (ch24.out (ch25.out h))).1)
             subst e23 e24 e25
             have hS := hB.size
             refine .inl ?_
             unfold e16Upd Oper.wp
             go_simp
             refine (leafR_any (fun j => j < wo.heap.size) bGroup d.group w' (fun j h => Nat.lt_of_lt_of_le (Nat.lt_of_lt_of_le h HWS.out) hS)).mono ?_
             intro e w1 hO
             obtain ⟨o1, n1, c1, rfl, hr, hb⟩ := hO
             exact e16J.at true true true f3 f4 f5 f6 f7 f8 f9 f10 f11 f12 f13 f14 f15 f16 f17 f18 f19 f20 f21 f22 false false false (o1) (n1) (c1) (o48) (n48) (c48) (o51) (n51) (c51) (o54) (n54) (c54) (o57) (n57) (c57) (o61) (n61) (c61) (o63) (n63) (c63) (o65) (n65) (c65) (H66) (o67) (n67) (c67) rfl rfl (Lib.hid (by simp)) (Lib.hid (by simp)) (ch4) (ch5) (ch7) (ch8) (ch10) (ch11) (ch13) (ch14) (ch16) (ch17) (ch18) (ch20) (ch22) (Lib.hid (by simp)) (Lib.hid (by simp)) (Lib.hid (by simp)) (hB.trans (hb.mono hS)) (fun h0 => hr) (fun h0 => (r48 h0).later hb) (fun h0 => (r51 h0).later hb) (fun h0 => (r54 h0).later hb) (fun h0 => (r57 h0).later hb) (fun h0 => (r61 h0).later hb) (fun h0 => (r63 h0).later hb) (fun h0 => (r65 h0).later hb) (by simp) (by simp)
           · have ho' := ho
             simp at hu ho
             subst hu ho
             clear ha
             have e4 : f4 = false := Bool.eq_false_iff.2 fun h => Bool.false_ne_true ((ch4.out h))
             have e5 : f5 = false := Bool.eq_false_iff.2 fun h => Bool.false_ne_true ((ch4.out (ch5.out h)))
             have e23 : f23 = false := Bool.eq_false_iff.2 fun h => Bool.false_ne_true ((ch4.out (ch5.out (ch23.out h).2.1)))
             have e24 : f24 = false := Bool.eq_false_iff.2 fun h => Bool.false_ne_true ((ch4.out (ch5.out (ch23.out (ch24.out h)).2.1)))
             have e25 : f25 = false := Bool.eq_false_iff.2 fun h => Bool.false_ne_true ((ch4.out (ch5.out (ch23.out (ch24.out (ch25.out h))).2.1)))
             subst e4 e5 e23 e24 e25
             refine .inl ?_
             unfold e16Upd Oper.wp
             go_simp
             exact e16J.at f0 f1 f2 true false false f6 f7 f8 f9 f10 f11 f12 f13 f14 f15 f16 f17 f18 f19 f20 f21 f22 false false false (o45) (n45) (c45) (o48) (n48) (c48) (o51) (n51) (c51) (o54) (n54) (c54) (o57) (n57) (c57) (o61) (n61) (c61) (o63) (n63) (c63) (o65) (n65) (c65) (H66) (o67) (n67) (c67) rfl rfl (ch1) (ch2) (Lib.hid (by simp)) (Lib.hid (by simp)) (ch7) (ch8) (ch10) (ch11) (ch13) (ch14) (ch16) (ch17) (ch18) (ch20) (ch22) (Lib.hid (by simp)) (Lib.hid (by simp)) (Lib.hid (by simp)) (hB) (r45) (by simp) (r51) (r54) (r57) (r61) (r63) (r65) (by simp) (by simp)
           · have ho' := ho
             simp at hu ho
             subst hu ho
             simp [Region.binds] at ha
             obtain rfl : f3 = true := by simp only [ha]
             clear ha
             have e5 : f5 = false := Bool.eq_false_iff.2 fun h => Bool.false_ne_true ((ch5.out h))
             have e23 : f23 = false := Bool.eq_false_iff.2 fun h => Bool.false_ne_true ((ch5.out (ch23.out h).2.1))
             have e24 : f24 = false := Bool.eq_false_iff.2 fun h => Bool.false_ne_true ((ch5.out (ch23.out (ch24.out h)).2.1))
             have e25 : f25 = false := Bool.eq_false_iff.2 fun h => Bool.false_ne_true ((ch5.out (ch23.out (ch24.out (ch25.out h))).2.1))
             subst e5 e23 e24 e25
             have k0 := (hB.cell (p := ⟨wo.heap.size, 1, none⟩) (by exact HD16.out.lt)).trans (HD16.out.cell 1 _ rfl)
             have kl := Nat.lt_of_lt_of_le HD16.out.lt hB.size
             refine .inl ?_
             unfold e16Upd Oper.wp
             go_simp
             exact e16J.at f0 f1 f2 true true false f6 f7 f8 f9 f10 f11 f12 f13 f14 f15 f16 f17 f18 f19 f20 f21 f22 false false false (o45) (n45) (c45) (o48) (n48) (c48) (o51) (n51) (c51) (o54) (n54) (c54) (o57) (n57) (c57) (o61) (n61) (c61) (o63) (n63) (c63) (o65) (n65) (c65) (H66) (o67) (n67) (c67) rfl rfl (ch1) (ch2) (Lib.hid (by simp)) (Lib.hid (by simp)) (ch7) (ch8) (ch10) (ch11) (ch13) (ch14) (ch16) (ch17) (ch18) (ch20) (ch22) (Lib.hid (by simp)) (Lib.hid (by simp)) (Lib.hid (by simp)) (hB) (r45) (by simp) (r51) (r54) (r57) (r61) (r63) (r65) (by simp) (by simp)
           · have ho' := ho
             simp at hu ho
             subst hu ho
             simp [Region.binds] at ha
             obtain rfl : f4 = true := by simp only [ha]
             clear ha
             obtain rfl : f3 = true := (ch4.out rfl)
             have e23 : f23 = false := Bool.eq_false_iff.2 fun h => Bool.false_ne_true ((ch23.out h).2.1)
             have e24 : f24 = false := Bool.eq_false_iff.2 fun h => Bool.false_ne_true ((ch23.out (ch24.out h)).2.1)
             have e25 : f25 = false := Bool.eq_false_iff.2 fun h => Bool.false_ne_true ((ch23.out (ch24.out (ch25.out h))).2.1)
             subst e23 e24 e25
             have hS := hB.size
             refine .inl ?_
             unfold e16Upd Oper.wp
             go_simp
             refine (leafR_any (fun j => j < wo.heap.size) bArtifact d.artifact w' (fun j h => Nat.lt_of_lt_of_le (Nat.lt_of_lt_of_le h HWS.out) hS)).mono ?_
             intro e w1 hO
             obtain ⟨o1, n1, c1, rfl, hr, hb⟩ := hO
             exact e16J.at f0 f1 f2 true true true f6 f7 f8 f9 f10 f11 f12 f13 f14 f15 f16 f17 f18 f19 f20 f21 f22 false false false (o45) (n45) (c45) (o1) (n1) (c1) (o51) (n51) (c51) (o54) (n54) (c54) (o57) (n57) (c57) (o61) (n61) (c61) (o63) (n63) (c63) (o65) (n65) (c65) (H66) (o67) (n67) (c67) rfl rfl (ch1) (ch2) (Lib.hid (by simp)) (Lib.hid (by simp)) (ch7) (ch8) (ch10) (ch11) (ch13) (ch14) (ch16) (ch17) (ch18) (ch20) (ch22) (Lib.hid (by simp)) (Lib.hid (by simp)) (Lib.hid (by simp)) (hB.trans (hb.mono hS)) (fun h0 => (r45 h0).later hb) (fun h0 => hr) (fun h0 => (r51 h0).later hb) (fun h0 => (r54 h0).later hb) (fun h0 => (r57 h0).later hb) (fun h0 => (r61 h0).later hb) (fun h0 => (r63 h0).later hb) (fun h0 => (r65 h0).later hb) (by simp) (by simp)
           · have ho' := ho
             simp at hu ho
             subst hu ho
             clear ha
             have e7 : f7 = false := Bool.eq_false_iff.2 fun h => Bool.false_ne_true ((ch7.out h))
             have e8 : f8 = false := Bool.eq_false_iff.2 fun h => Bool.false_ne_true ((ch7.out (ch8.out h)))
             have e23 : f23 = false := Bool.eq_false_iff.2 fun h => Bool.false_ne_true ((ch7.out (ch8.out (ch23.out h).2.2.1)))
             have e24 : f24 = false := Bool.eq_false_iff.2 fun h => Bool.false_ne_true ((ch7.out (ch8.out (ch23.out (ch24.out h)).2.2.1)))
             have e25 : f25 = false := Bool.eq_false_iff.2 fun h => Bool.false_ne_true ((ch7.out (ch8.out (ch23.out (ch24.out (ch25.out h))).2.2.1)))
             subst e7 e8 e23 e24 e25
             refine .inl ?_
             unfold e16Upd Oper.wp
             go_simp
             exact e16J.at f0 f1 f2 f3 f4 f5 true false false f9 f10 f11 f12 f13 f14 f15 f16 f17 f18 f19 f20 f21 f22 false false false (o45) (n45) (c45) (o48) (n48) (c48) (o51) (n51) (c51) (o54) (n54) (c54) (o57) (n57) (c57) (o61) (n61) (c61) (o63) (n63) (c63) (o65) (n65) (c65) (H66) (o67) (n67) (c67) rfl rfl (ch1) (ch2) (ch4) (ch5) (Lib.hid (by simp)) (Lib.hid (by simp)) (ch10) (ch11) (ch13) (ch14) (ch16) (ch17) (ch18) (ch20) (ch22) (Lib.hid (by simp)) (Lib.hid (by simp)) (Lib.hid (by simp)) (hB) (r45) (r48) (by simp) (r54) (r57) (r61) (r63) (r65) (by simp) (by simp)
           · have ho' := ho
             simp at hu ho
             subst hu ho
             simp [Region.binds] at ha
             obtain rfl : f6 = true := by simp only [ha]
             clear ha
             have e8 : f8 = false := Bool.eq_false_iff.2 fun h => Bool.false_ne_true ((ch8.out h))
             have e23 : f23 = false := Bool.eq_false_iff.2 fun h => Bool.false_ne_true ((ch8.out (ch23.out h).2.2.1))
             have e24 : f24 = false := Bool.eq_false_iff.2 fun h => Bool.false_ne_true ((ch8.out (ch23.out (ch24.out h)).2.2.1))
             have e25 : f25 = false := Bool.eq_false_iff.2 fun h => Bool.false_ne_true ((ch8.out (ch23.out (ch24.out (ch25.out h))).2.2.1))
             subst e8 e23 e24 e25
             have k0 := (hB.cell (p := ⟨wo.heap.size, 2, none⟩) (by exact HD16.out.lt)).trans (HD16.out.cell 2 _ rfl)
             have kl := Nat.lt_of_lt_of_le HD16.out.lt hB.size
             refine .inl ?_
             unfold e16Upd Oper.wp
             go_simp
             exact e16J.at f0 f1 f2 f3 f4 f5 true true false f9 f10 f11 f12 f13 f14 f15 f16 f17 f18 f19 f20 f21 f22 false false false (o45) (n45) (c45) (o48) (n48) (c48) (o51) (n51) (c51) (o54) (n54) (c54) (o57) (n57) (c57) (o61) (n61) (c61) (o63) (n63) (c63) (o65) (n65) (c65) (H66) (o67) (n67) (c67) rfl rfl (ch1) (ch2) (ch4) (ch5) (Lib.hid (by simp)) (Lib.hid (by simp)) (ch10) (ch11) (ch13) (ch14) (ch16) (ch17) (ch18) (ch20) (ch22) (Lib.hid (by simp)) (Lib.hid (by simp)) (Lib.hid (by simp)) (hB) (r45) (r48) (by simp) (r54) (r57) (r61) (r63) (r65) (by simp) (by simp)
           · have ho' := ho
             simp at hu ho
             subst hu ho
             simp [Region.binds] at ha
             obtain rfl : f7 = true := by simp only [ha]
             clear ha
             obtain rfl : f6 = true := (ch7.out rfl)
             have e23 : f23 = false := Bool.eq_false_iff.2 fun h => Bool.false_ne_true ((ch23.out h).2.2.1)
             have e24 : f24 = false := Bool.eq_false_iff.2 fun h => Bool.false_ne_true ((ch23.out (ch24.out h)).2.2.1)
             have e25 : f25 = false := Bool.eq_false_iff.2 fun h => Bool.false_ne_true ((ch23.out (ch24.out (ch25.out h))).2.2.1)
             subst e23 e24 e25
             have hS := hB.size
             refine .inl ?_
             unfold e16Upd Oper.wp
             go_simp
             refine (leafR_any (fun j => j < wo.heap.size) bVersion d.version w' (fun j h => Nat.lt_of_lt_of_le (Nat.lt_of_lt_of_le h HWS.out) hS)).mono ?_
             intro e w1 hO
             obtain ⟨o1, n1, c1, rfl, hr, hb⟩ := hO
             exact e16J.at f0 f1 f2 f3 f4 f5 true true true f9 f10 f11 f12 f13 f14 f15 f16 f17 f18 f19 f20 f21 f22 false false false (o45) (n45) (c45) (o48) (n48) (c48) (o1) (n1) (c1) (o54) (n54) (c54) (o57) (n57) (c57) (o61) (n61) (c61) (o63) (n63) (c63) (o65) (n65) (c65) (H66) (o67) (n67) (c67) rfl rfl (ch1) (ch2) (ch4) (ch5) (Lib.hid (by simp)) (Lib.hid (by simp)) (ch10) (ch11) (ch13) (ch14) (ch16) (ch17) (ch18) (ch20) (ch22) (Lib.hid (by simp)) (Lib.hid (by simp)) (Lib.hid (by simp)) (hB.trans (hb.mono hS)) (fun h0 => (r45 h0).later hb) (fun h0 => (r48 h0).later hb) (fun h0 => hr) (fun h0 => (r54 h0).later hb) (fun h0 => (r57 h0).later hb) (fun h0 => (r61 h0).later hb) (fun h0 => (r63 h0).later hb) (fun h0 => (r65 h0).later hb) (by simp) (by simp)
           · have ho' := ho
             simp at hu ho
             subst hu ho
             clear ha
             have e10 : f10 = false := Bool.eq_false_iff.2 fun h => Bool.false_ne_true ((ch10.out h))
             have e11 : f11 = false := Bool.eq_false_iff.2 fun h => Bool.false_ne_true ((ch10.out (ch11.out h)))
             have e23 : f23 = false := Bool.eq_false_iff.2 fun h => Bool.false_ne_true ((ch10.out (ch11.out (ch23.out h).2.2.2.1)))
             have e24 : f24 = false := Bool.eq_false_iff.2 fun h => Bool.false_ne_true ((ch10.out (ch11.out (ch23.out (ch24.out h)).2.2.2.1)))
             have e25 : f25 = false := Bool.eq_false_iff.2 fun h => Bool.false_ne_true ((ch10.out (ch11.out (ch23.out (ch24.out (ch25.out h))).2.2.2.1)))
             subst e10 e11 e23 e24 e25
             refine .inl ?_
             unfold e16Upd Oper.wp
             go_simp
             exact e16J.at f0 f1 f2 f3 f4 f5 f6 f7 f8 true false false f12 f13 f14 f15 f16 f17 f18 f19 f20 f21 f22 false false false (o45) (n45) (c45) (o48) (n48) (c48) (o51) (n51) (c51) (o54) (n54) (c54) (o57) (n57) (c57) (o61) (n61) (c61) (o63) (n63) (c63) (o65) (n65) (c65) (H66) (o67) (n67) (c67) rfl rfl (ch1) (ch2) (ch4) (ch5) (ch7) (ch8) (Lib.hid (by simp)) (Lib.hid (by simp)) (ch13) (ch14) (ch16) (ch17) (ch18) (ch20) (ch22) (Lib.hid (by simp)) (Lib.hid (by simp)) (Lib.hid (by simp)) (hB) (r45) (r48) (r51) (by simp) (r57) (r61) (r63) (r65) (by simp) (by simp)
           · have ho' := ho
             simp at hu ho
             subst hu ho
             simp [Region.binds] at ha
             obtain rfl : f9 = true := by simp only [ha]
             clear ha
             have e11 : f11 = false := Bool.eq_false_iff.2 fun h => Bool.false_ne_true ((ch11.out h))
             have e23 : f23 = false := Bool.eq_false_iff.2 fun h => Bool.false_ne_true ((ch11.out (ch23.out h).2.2.2.1))
             have e24 : f24 = false := Bool.eq_false_iff.2 fun h => Bool.false_ne_true ((ch11.out (ch23.out (ch24.out h)).2.2.2.1))
             have e25 : f25 = false := Bool.eq_false_iff.2 fun h => Bool.false_ne_true ((ch11.out (ch23.out (ch24.out (ch25.out h))).2.2.2.1))
             subst e11 e23 e24 e25
             have k0 := (hB.cell (p := ⟨wo.heap.size, 3, none⟩) (by exact HD16.out.lt)).trans (HD16.out.cell 3 _ rfl)
             have kl := Nat.lt_of_lt_of_le HD16.out.lt hB.size
             refine .inl ?_
             unfold e16Upd Oper.wp
             go_simp
             exact e16J.at f0 f1 f2 f3 f4 f5 f6 f7 f8 true true false f12 f13 f14 f15 f16 f17 f18 f19 f20 f21 f22 false false false (o45) (n45) (c45) (o48) (n48) (c48) (o51) (n51) (c51) (o54) (n54) (c54) (o57) (n57) (c57) (o61) (n61) (c61) (o63) (n63) (c63) (o65) (n65) (c65) (H66) (o67) (n67) (c67) rfl rfl (ch1) (ch2) (ch4) (ch5) (ch7) (ch8) (Lib.hid (by simp)) (Lib.hid (by simp)) (ch13) (ch14) (ch16) (ch17) (ch18) (ch20) (ch22) (Lib.hid (by simp)) (Lib.hid (by simp)) (Lib.hid (by simp)) (hB) (r45) (r48) (r51) (by simp) (r57) (r61) (r63) (r65) (by simp) (by simp)
           · have ho' := ho
             simp at hu ho
             subst hu ho
             simp [Region.binds] at ha
             obtain rfl : f10 = true := by simp only [ha]
             clear ha
             obtain rfl : f9 = true := (ch10.out rfl)
             have e23 : f23 = false := Bool.eq_false_iff.2 fun h => Bool.false_ne_true ((ch23.out h).2.2.2.1)
             have e24 : f24 = false := Bool.eq_false_iff.2 fun h => Bool.false_ne_true ((ch23.out (ch24.out h)).2.2.2.1)
             have e25 : f25 = false := Bool.eq_false_iff.2 fun h => Bool.false_ne_true ((ch23.out (ch24.out (ch25.out h))).2.2.2.1)
             subst e23 e24 e25
             have hS := hB.size
             refine .inl ?_
             unfold e16Upd Oper.wp
             go_simp
             refine (leafR_any (fun j => j < wo.heap.size) bType d.type w' (fun j h => Nat.lt_of_lt_of_le (Nat.lt_of_lt_of_le h HWS.out) hS)).mono ?_
             intro e w1 hO
             obtain ⟨o1, n1, c1, rfl, hr, hb⟩ := hO
             exact e16J.at f0 f1 f2 f3 f4 f5 f6 f7 f8 true true true f12 f13 f14 f15 f16 f17 f18 f19 f20 f21 f22 false false false (o45) (n45) (c45) (o48) (n48) (c48) (o51) (n51) (c51) (o1) (n1) (c1) (o57) (n57) (c57) (o61) (n61) (c61) (o63) (n63) (c63) (o65) (n65) (c65) (H66) (o67) (n67) (c67) rfl rfl (ch1) (ch2) (ch4) (ch5) (ch7) (ch8) (Lib.hid (by simp)) (Lib.hid (by simp)) (ch13) (ch14) (ch16) (ch17) (ch18) (ch20) (ch22) (Lib.hid (by simp)) (Lib.hid (by simp)) (Lib.hid (by simp)) (hB.trans (hb.mono hS)) (fun h0 => (r45 h0).later hb) (fun h0 => (r48 h0).later hb) (fun h0 => (r51 h0).later hb) (fun h0 => hr) (fun h0 => (r57 h0).later hb) (fun h0 => (r61 h0).later hb) (fun h0 => (r63 h0).later hb) (fun h0 => (r65 h0).later hb) (by simp) (by simp)
           · have ho' := ho
             simp at hu ho
             subst hu ho
             clear ha
             have e13 : f13 = false := Bool.eq_false_iff.2 fun h => Bool.false_ne_true ((ch13.out h))
             have e14 : f14 = false := Bool.eq_false_iff.2 fun h => Bool.false_ne_true ((ch13.out (ch14.out h)))
             have e23 : f23 = false := Bool.eq_false_iff.2 fun h => Bool.false_ne_true ((ch13.out (ch14.out (ch23.out h).2.2.2.2.1)))
             have e24 : f24 = false := Bool.eq_false_iff.2 fun h => Bool.false_ne_true ((ch13.out (ch14.out (ch23.out (ch24.out h)).2.2.2.2.1)))
             have e25 : f25 = false := Bool.eq_false_iff.2 fun h => Bool.false_ne_true ((ch13.out (ch14.out (ch23.out (ch24.out (ch25.out h))).2.2.2.2.1)))
             subst e13 e14 e23 e24 e25
             refine .inl ?_
             unfold e16Upd Oper.wp
             go_simp
             exact e16J.at f0 f1 f2 f3 f4 f5 f6 f7 f8 f9 f10 f11 true false false f15 f16 f17 f18 f19 f20 f21 f22 false false false (o45) (n45) (c45) (o48) (n48) (c48) (o51) (n51) (c51) (o54) (n54) (c54) (o57) (n57) (c57) (o61) (n61) (c61) (o63) (n63) (c63) (o65) (n65) (c65) (H66) (o67) (n67) (c67) rfl rfl (ch1) (ch2) (ch4) (ch5) (ch7) (ch8) (ch10) (ch11) (Lib.hid (by simp)) (Lib.hid (by simp)) (ch16) (ch17) (ch18) (ch20) (ch22) (Lib.hid (by simp)) (Lib.hid (by simp)) (Lib.hid (by simp)) (hB) (r45) (r48) (r51) (r54) (by simp) (r61) (r63) (r65) (by simp) (by simp)
           · have ho' := ho
             simp at hu ho
             subst hu ho
             simp [Region.binds] at ha
             obtain rfl : f12 = true := by simp only [ha]
             clear ha
             have e14 : f14 = false := Bool.eq_false_iff.2 fun h => Bool.false_ne_true ((ch14.out h))
             have e23 : f23 = false := Bool.eq_false_iff.2 fun h => Bool.false_ne_true ((ch14.out (ch23.out h).2.2.2.2.1))
             have e24 : f24 = false := Bool.eq_false_iff.2 fun h => Bool.false_ne_true ((ch14.out (ch23.out (ch24.out h)).2.2.2.2.1))
             have e25 : f25 = false := Bool.eq_false_iff.2 fun h => Bool.false_ne_true ((ch14.out (ch23.out (ch24.out (ch25.out h))).2.2.2.2.1))
             subst e14 e23 e24 e25
             have k0 := (hB.cell (p := ⟨wo.heap.size, 4, none⟩) (by exact HD16.out.lt)).trans (HD16.out.cell 4 _ rfl)
             have kl := Nat.lt_of_lt_of_le HD16.out.lt hB.size
             refine .inl ?_
             unfold e16Upd Oper.wp
             go_simp
             exact e16J.at f0 f1 f2 f3 f4 f5 f6 f7 f8 f9 f10 f11 true true false f15 f16 f17 f18 f19 f20 f21 f22 false false false (o45) (n45) (c45) (o48) (n48) (c48) (o51) (n51) (c51) (o54) (n54) (c54) (o57) (n57) (c57) (o61) (n61) (c61) (o63) (n63) (c63) (o65) (n65) (c65) (H66) (o67) (n67) (c67) rfl rfl (ch1) (ch2) (ch4) (ch5) (ch7) (ch8) (ch10) (ch11) (Lib.hid (by simp)) (Lib.hid (by simp)) (ch16) (ch17) (ch18) (ch20) (ch22) (Lib.hid (by simp)) (Lib.hid (by simp)) (Lib.hid (by simp)) (hB) (r45) (r48) (r51) (r54) (by simp) (r61) (r63) (r65) (by simp) (by simp)
           · have ho' := ho
             simp at hu ho
             subst hu ho
             simp [Region.binds] at ha
             obtain rfl : f13 = true := by simp only [ha]
             clear ha
             obtain rfl : f12 = true := (ch13.out rfl)
             have e23 : f23 = false := Bool.eq_false_iff.2 fun h => Bool.false_ne_true ((ch23.out h).2.2.2.2.1)
             have e24 : f24 = false := Bool.eq_false_iff.2 fun h => Bool.false_ne_true ((ch23.out (ch24.out h)).2.2.2.2.1)
             have e25 : f25 = false := Bool.eq_false_iff.2 fun h => Bool.false_ne_true ((ch23.out (ch24.out (ch25.out h))).2.2.2.2.1)
             subst e23 e24 e25
             have hS := hB.size
             refine .inl ?_
             unfold e16Upd Oper.wp
             go_simp
             refine (leafR_any (fun j => j < wo.heap.size) bClassifier d.classifier w' (fun j h => Nat.lt_of_lt_of_le (Nat.lt_of_lt_of_le h HWS.out) hS)).mono ?_
             intro e w1 hO
             obtain ⟨o1, n1, c1, rfl, hr, hb⟩ := hO
             exact e16J.at f0 f1 f2 f3 f4 f5 f6 f7 f8 f9 f10 f11 true true true f15 f16 f17 f18 f19 f20 f21 f22 false false false (o45) (n45) (c45) (o48) (n48) (c48) (o51) (n51) (c51) (o54) (n54) (c54) (o1) (n1) (c1) (o61) (n61) (c61) (o63) (n63) (c63) (o65) (n65) (c65) (H66) (o67) (n67) (c67) rfl rfl (ch1) (ch2) (ch4) (ch5) (ch7) (ch8) (ch10) (ch11) (Lib.hid (by simp)) (Lib.hid (by simp)) (ch16) (ch17) (ch18) (ch20) (ch22) (Lib.hid (by simp)) (Lib.hid (by simp)) (Lib.hid (by simp)) (hB.trans (hb.mono hS)) (fun h0 => (r45 h0).later hb) (fun h0 => (r48 h0).later hb) (fun h0 => (r51 h0).later hb) (fun h0 => (r54 h0).later hb) (fun h0 => hr) (fun h0 => (r61 h0).later hb) (fun h0 => (r63 h0).later hb) (fun h0 => (r65 h0).later hb) (by simp) (by simp)
           · have ho' := ho
             simp at hu ho
             subst hu ho
             clear ha
             have e16 : f16 = false := Bool.eq_false_iff.2 fun h => Bool.false_ne_true ((ch16.out h))
             have e17 : f17 = false := Bool.eq_false_iff.2 fun h => Bool.false_ne_true ((ch16.out (ch17.out h)))
             have e18 : f18 = false := Bool.eq_false_iff.2 fun h => Bool.false_ne_true ((ch16.out (ch17.out (ch18.out h))))
             have e23 : f23 = false := Bool.eq_false_iff.2 fun h => Bool.false_ne_true ((ch16.out (ch17.out (ch18.out (ch23.out h).2.2.2.2.2.1))))
             have e24 : f24 = false := Bool.eq_false_iff.2 fun h => Bool.false_ne_true ((ch16.out (ch17.out (ch18.out (ch23.out (ch24.out h)).2.2.2.2.2.1))))
             have e25 : f25 = false := Bool.eq_false_iff.2 fun h => Bool.false_ne_true ((ch16.out (ch17.out (ch18.out (ch23.out (ch24.out (ch25.out h))).2.2.2.2.2.1))))
             subst e16 e17 e18 e23 e24 e25
             refine .inl ?_
             unfold e16Upd Oper.wp
             go_simp
             exact e16J.at f0 f1 f2 f3 f4 f5 f6 f7 f8 f9 f10 f11 f12 f13 f14 true false false false f19 f20 f21 f22 false false false (o45) (n45) (c45) (o48) (n48) (c48) (o51) (n51) (c51) (o54) (n54) (c54) (o57) (n57) (c57) (o61) (n61) (c61) (o63) (n63) (c63) (o65) (n65) (c65) (H66) (o67) (n67) (c67) rfl rfl (ch1) (ch2) (ch4) (ch5) (ch7) (ch8) (ch10) (ch11) (ch13) (ch14) (Lib.hid (by simp)) (Lib.hid (by simp)) (Lib.hid (by simp)) (ch20) (ch22) (Lib.hid (by simp)) (Lib.hid (by simp)) (Lib.hid (by simp)) (hB) (r45) (r48) (r51) (r54) (r57) (by simp) (r63) (r65) (by simp) (by simp)
           · have ho' := ho
             simp at hu ho
             subst hu ho
             simp [Region.binds] at ha
             obtain rfl : f15 = true := by simp only [ha]
             clear ha
             have e17 : f17 = false := Bool.eq_false_iff.2 fun h => Bool.false_ne_true ((ch17.out h))
             have e18 : f18 = false := Bool.eq_false_iff.2 fun h => Bool.false_ne_true ((ch17.out (ch18.out h)))
             have e23 : f23 = false := Bool.eq_false_iff.2 fun h => Bool.false_ne_true ((ch17.out (ch18.out (ch23.out h).2.2.2.2.2.1)))
             have e24 : f24 = false := Bool.eq_false_iff.2 fun h => Bool.false_ne_true ((ch17.out (ch18.out (ch23.out (ch24.out h)).2.2.2.2.2.1)))
             have e25 : f25 = false := Bool.eq_false_iff.2 fun h => Bool.false_ne_true ((ch17.out (ch18.out (ch23.out (ch24.out (ch25.out h))).2.2.2.2.2.1)))
             subst e17 e18 e23 e24 e25
             have k0 := (hB.cell (p := ⟨wo.heap.size, 5, none⟩) (by exact HD16.out.lt)).trans (HD16.out.cell 5 _ rfl)
             have kl := Nat.lt_of_lt_of_le HD16.out.lt hB.size
             refine .inl ?_
             unfold e16Upd Oper.wp
             go_simp
             exact e16J.at f0 f1 f2 f3 f4 f5 f6 f7 f8 f9 f10 f11 f12 f13 f14 true true false false f19 f20 f21 f22 false false false (o45) (n45) (c45) (o48) (n48) (c48) (o51) (n51) (c51) (o54) (n54) (c54) (o57) (n57) (c57) (o61) (n61) (c61) (o63) (n63) (c63) (o65) (n65) (c65) (H66) (o67) (n67) (c67) rfl rfl (ch1) (ch2) (ch4) (ch5) (ch7) (ch8) (ch10) (ch11) (ch13) (ch14) (Lib.hid (by simp)) (Lib.hid (by simp)) (Lib.hid (by simp)) (ch20) (ch22) (Lib.hid (by simp)) (Lib.hid (by simp)) (Lib.hid (by simp)) (hB) (r45) (r48) (r51) (r54) (r57) (by simp) (r63) (r65) (by simp) (by simp)
           · have ho' := ho
             simp at hu ho
             subst hu ho
             simp [Region.binds] at ha
             obtain rfl : f16 = true := by simp only [ha]
             clear ha
             obtain rfl : f15 = true := (ch16.out rfl)
             have e18 : f18 = false := Bool.eq_false_iff.2 fun h => Bool.false_ne_true ((ch18.out h))
             have e23 : f23 = false := Bool.eq_false_iff.2 fun h => Bool.false_ne_true ((ch18.out (ch23.out h).2.2.2.2.2.1))
             have e24 : f24 = false := Bool.eq_false_iff.2 fun h => Bool.false_ne_true ((ch18.out (ch23.out (ch24.out h)).2.2.2.2.2.1))
             have e25 : f25 = false := Bool.eq_false_iff.2 fun h => Bool.false_ne_true ((ch18.out (ch23.out (ch24.out (ch25.out h))).2.2.2.2.2.1))
             subst e18 e23 e24 e25
             have hS := hB.size
             refine .inl ?_
             unfold e16Upd Oper.wp
             go_simp
             refine (refWord_any d.scope w').mono ?_
             intro e w1 hO
             obtain ⟨rfl, hb⟩ := hO
             exact e16J.at f0 f1 f2 f3 f4 f5 f6 f7 f8 f9 f10 f11 f12 f13 f14 true true true false f19 f20 f21 f22 false false false (o45) (n45) (c45) (o48) (n48) (c48) (o51) (n51) (c51) (o54) (n54) (c54) (o57) (n57) (c57) (o61) (n61) (c61) (o63) (n63) (c63) (o65) (n65) (c65) (H66) (o67) (n67) (c67) rfl rfl (ch1) (ch2) (ch4) (ch5) (ch7) (ch8) (ch10) (ch11) (ch13) (ch14) (Lib.hid (by simp)) (Lib.hid (by simp)) (Lib.hid (by simp)) (ch20) (ch22) (Lib.hid (by simp)) (Lib.hid (by simp)) (Lib.hid (by simp)) (hB.trans (hb.mono hS)) (fun h0 => (r45 h0).later hb) (fun h0 => (r48 h0).later hb) (fun h0 => (r51 h0).later hb) (fun h0 => (r54 h0).later hb) (fun h0 => (r57 h0).later hb) (by simp) (fun h0 => (r63 h0).later hb) (fun h0 => (r65 h0).later hb) (by simp) (by simp)
           · have ho' := ho
             simp at hu ho
             subst hu ho
             simp [Region.binds] at ha
             obtain rfl : f17 = true := by simp only [ha]
             clear ha
             obtain rfl : f16 = true := (ch17.out rfl)
             obtain rfl : f15 = true := (ch16.out (ch17.out rfl))
             have e23 : f23 = false := Bool.eq_false_iff.2 fun h => Bool.false_ne_true ((ch23.out h).2.2.2.2.2.1)
             have e24 : f24 = false := Bool.eq_false_iff.2 fun h => Bool.false_ne_true ((ch23.out (ch24.out h)).2.2.2.2.2.1)
             have e25 : f25 = false := Bool.eq_false_iff.2 fun h => Bool.false_ne_true ((ch23.out (ch24.out (ch25.out h))).2.2.2.2.2.1)
             subst e23 e24 e25
             have hS := hB.size
             refine .inl ?_
             unfold e16Upd Oper.wp
             go_simp
             refine (leafR_any (fun j => j < wo.heap.size) bScope (bs (wordB d.scope)) w' (fun j h => Nat.lt_of_lt_of_le (Nat.lt_of_lt_of_le h HWS.out) hS)).mono ?_
             intro e w1 hO
             obtain ⟨o1, n1, c1, rfl, hr, hb⟩ := hO
             exact e16J.at f0 f1 f2 f3 f4 f5 f6 f7 f8 f9 f10 f11 f12 f13 f14 true true true true f19 f20 f21 f22 false false false (o45) (n45) (c45) (o48) (n48) (c48) (o51) (n51) (c51) (o54) (n54) (c54) (o57) (n57) (c57) (o1) (n1) (c1) (o63) (n63) (c63) (o65) (n65) (c65) (H66) (o67) (n67) (c67) rfl rfl (ch1) (ch2) (ch4) (ch5) (ch7) (ch8) (ch10) (ch11) (ch13) (ch14) (Lib.hid (by simp)) (Lib.hid (by simp)) (Lib.hid (by simp)) (ch20) (ch22) (Lib.hid (by simp)) (Lib.hid (by simp)) (Lib.hid (by simp)) (hB.trans (hb.mono hS)) (fun h0 => (r45 h0).later hb) (fun h0 => (r48 h0).later hb) (fun h0 => (r51 h0).later hb) (fun h0 => (r54 h0).later hb) (fun h0 => (r57 h0).later hb) (fun h0 => hr) (fun h0 => (r63 h0).later hb) (fun h0 => (r65 h0).later hb) (by simp) (by simp)
           · have ho' := ho
             simp at hu ho
             subst hu ho
             clear ha
             have e20 : f20 = false := Bool.eq_false_iff.2 fun h => Bool.false_ne_true ((ch20.out h))
             have e23 : f23 = false := Bool.eq_false_iff.2 fun h => Bool.false_ne_true ((ch20.out (ch23.out h).2.2.2.2.2.2.1))
             have e24 : f24 = false := Bool.eq_false_iff.2 fun h => Bool.false_ne_true ((ch20.out (ch23.out (ch24.out h)).2.2.2.2.2.2.1))
             have e25 : f25 = false := Bool.eq_false_iff.2 fun h => Bool.false_ne_true ((ch20.out (ch23.out (ch24.out (ch25.out h))).2.2.2.2.2.2.1))
             subst e20 e23 e24 e25
             refine .inl ?_
             unfold e16Upd Oper.wp
             go_simp
             exact e16J.at f0 f1 f2 f3 f4 f5 f6 f7 f8 f9 f10 f11 f12 f13 f14 f15 f16 f17 f18 true false f21 f22 false false false (o45) (n45) (c45) (o48) (n48) (c48) (o51) (n51) (c51) (o54) (n54) (c54) (o57) (n57) (c57) (o61) (n61) (c61) (o63) (n63) (c63) (o65) (n65) (c65) (H66) (o67) (n67) (c67) rfl rfl (ch1) (ch2) (ch4) (ch5) (ch7) (ch8) (ch10) (ch11) (ch13) (ch14) (ch16) (ch17) (ch18) (Lib.hid (by simp)) (ch22) (Lib.hid (by simp)) (Lib.hid (by simp)) (Lib.hid (by simp)) (hB) (r45) (r48) (r51) (r54) (r57) (r61) (by simp) (r65) (by simp) (by simp)
           · have ho' := ho
             simp at hu ho
             subst hu ho
             simp [Region.binds] at ha
             obtain rfl : f19 = true := by simp only [ha]
             clear ha
             have e23 : f23 = false := Bool.eq_false_iff.2 fun h => Bool.false_ne_true ((ch23.out h).2.2.2.2.2.2.1)
             have e24 : f24 = false := Bool.eq_false_iff.2 fun h => Bool.false_ne_true ((ch23.out (ch24.out h)).2.2.2.2.2.2.1)
             have e25 : f25 = false := Bool.eq_false_iff.2 fun h => Bool.false_ne_true ((ch23.out (ch24.out (ch25.out h))).2.2.2.2.2.2.1)
             subst e23 e24 e25
             have hS := hB.size
             refine .inl ?_
             unfold e16Upd Oper.wp
             go_simp
             refine (leafR_any (fun j => j < wo.heap.size) bOptional ⟨#[102, 97, 108, 115, 101]⟩ w' (fun j h => Nat.lt_of_lt_of_le (Nat.lt_of_lt_of_le h HWS.out) hS)).mono ?_
             intro e w1 hO
             obtain ⟨o1, n1, c1, rfl, hr, hb⟩ := hO
             exact e16J.at f0 f1 f2 f3 f4 f5 f6 f7 f8 f9 f10 f11 f12 f13 f14 f15 f16 f17 f18 true true f21 f22 false false false (o45) (n45) (c45) (o48) (n48) (c48) (o51) (n51) (c51) (o54) (n54) (c54) (o57) (n57) (c57) (o61) (n61) (c61) (o1) (n1) (c1) (o65) (n65) (c65) (H66) (o67) (n67) (c67) rfl rfl (ch1) (ch2) (ch4) (ch5) (ch7) (ch8) (ch10) (ch11) (ch13) (ch14) (ch16) (ch17) (ch18) (Lib.hid (by simp)) (ch22) (Lib.hid (by simp)) (Lib.hid (by simp)) (Lib.hid (by simp)) (hB.trans (hb.mono hS)) (fun h0 => (r45 h0).later hb) (fun h0 => (r48 h0).later hb) (fun h0 => (r51 h0).later hb) (fun h0 => (r54 h0).later hb) (fun h0 => (r57 h0).later hb) (fun h0 => (r61 h0).later hb) (fun h0 => hr) (fun h0 => (r65 h0).later hb) (by simp) (by simp)
           · have ho' := ho
             simp at hu ho
             subst hu ho
             clear ha
             have e22 : f22 = false := Bool.eq_false_iff.2 fun h => Bool.false_ne_true ((ch22.out h))
             have e23 : f23 = false := Bool.eq_false_iff.2 fun h => Bool.false_ne_true ((ch22.out (ch23.out h).2.2.2.2.2.2.2))
             have e24 : f24 = false := Bool.eq_false_iff.2 fun h => Bool.false_ne_true ((ch22.out (ch23.out (ch24.out h)).2.2.2.2.2.2.2))
             have e25 : f25 = false := Bool.eq_false_iff.2 fun h => Bool.false_ne_true ((ch22.out (ch23.out (ch24.out (ch25.out h))).2.2.2.2.2.2.2))
             subst e22 e23 e24 e25
             refine .inl ?_
             unfold e16Upd Oper.wp
             go_simp
             exact e16J.at f0 f1 f2 f3 f4 f5 f6 f7 f8 f9 f10 f11 f12 f13 f14 f15 f16 f17 f18 f19 f20 true false false false false (o45) (n45) (c45) (o48) (n48) (c48) (o51) (n51) (c51) (o54) (n54) (c54) (o57) (n57) (c57) (o61) (n61) (c61) (o63) (n63) (c63) (o65) (n65) (c65) (H66) (o67) (n67) (c67) rfl rfl (ch1) (ch2) (ch4) (ch5) (ch7) (ch8) (ch10) (ch11) (ch13) (ch14) (ch16) (ch17) (ch18) (ch20) (Lib.hid (by simp)) (Lib.hid (by simp)) (Lib.hid (by simp)) (Lib.hid (by simp)) (hB) (r45) (r48) (r51) (r54) (r57) (r61) (r63) (by simp) (by simp) (by simp)
           · have ho' := ho
             simp at hu ho
             subst hu ho
             simp [Region.binds] at ha
             obtain rfl : f21 = true := by simp only [ha]
             clear ha
             have e23 : f23 = false := Bool.eq_false_iff.2 fun h => Bool.false_ne_true ((ch23.out h).2.2.2.2.2.2.2)
             have e24 : f24 = false := Bool.eq_false_iff.2 fun h => Bool.false_ne_true ((ch23.out (ch24.out h)).2.2.2.2.2.2.2)
             have e25 : f25 = false := Bool.eq_false_iff.2 fun h => Bool.false_ne_true ((ch23.out (ch24.out (ch25.out h))).2.2.2.2.2.2.2)
             subst e23 e24 e25
             have hS := hB.size
             refine .inl ?_
             unfold e16Upd Oper.wp
             go_simp
             refine (branchR_any (fun j => j < wo.heap.size) bExclusions _ _ w' (HXR.out.later hB) (fun j h => Nat.lt_of_lt_of_le (Nat.lt_of_lt_of_le h HWS.out) hS)).mono ?_
             intro e w1 hO
             obtain ⟨o1, n1, c1, rfl, hr, hb⟩ := hO
             exact e16J.at f0 f1 f2 f3 f4 f5 f6 f7 f8 f9 f10 f11 f12 f13 f14 f15 f16 f17 f18 f19 f20 true true false false false (o45) (n45) (c45) (o48) (n48) (c48) (o51) (n51) (c51) (o54) (n54) (c54) (o57) (n57) (c57) (o61) (n61) (c61) (o63) (n63) (c63) (o1) (n1) (c1) (H66) (o67) (n67) (c67) rfl rfl (ch1) (ch2) (ch4) (ch5) (ch7) (ch8) (ch10) (ch11) (ch13) (ch14) (ch16) (ch17) (ch18) (ch20) (Lib.hid (by simp)) (Lib.hid (by simp)) (Lib.hid (by simp)) (Lib.hid (by simp)) (hB.trans (hb.mono hS)) (fun h0 => (r45 h0).later hb) (fun h0 => (r48 h0).later hb) (fun h0 => (r51 h0).later hb) (fun h0 => (r54 h0).later hb) (fun h0 => (r57 h0).later hb) (fun h0 => (r61 h0).later hb) (fun h0 => (r63 h0).later hb) (fun h0 => hr) (by simp) (by simp)
           · have ho' := ho
             simp at hu ho
             subst hu ho
             simp [Region.binds] at ha
             obtain rfl : f2 = true := by simp only [ha]
             obtain rfl : f5 = true := by simp only [ha]
             obtain rfl : f8 = true := by simp only [ha]
             obtain rfl : f11 = true := by simp only [ha]
             obtain rfl : f14 = true := by simp only [ha]
             obtain rfl : f18 = true := by simp only [ha]
             obtain rfl : f20 = true := by simp only [ha]
             obtain rfl : f22 = true := by simp only [ha]
             clear ha
             obtain rfl : f21 = true := (ch22.out rfl)
             obtain rfl : f19 = true := (ch20.out rfl)
             obtain rfl : f17 = true := (ch18.out rfl)
             obtain rfl : f16 = true := (ch17.out (ch18.out rfl))
             obtain rfl : f15 = true := (ch16.out (ch17.out (ch18.out rfl)))
             obtain rfl : f13 = true := (ch14.out rfl)
             obtain rfl : f12 = true := (ch13.out (ch14.out rfl))
             obtain rfl : f10 = true := (ch11.out rfl)
             obtain rfl : f9 = true := (ch10.out (ch11.out rfl))
             obtain rfl : f7 = true := (ch8.out rfl)
             obtain rfl : f6 = true := (ch7.out (ch8.out rfl))
             obtain rfl : f4 = true := (ch5.out rfl)
             obtain rfl : f3 = true := (ch4.out (ch5.out rfl))
             obtain rfl : f1 = true := (ch2.out rfl)
             obtain rfl : f0 = true := (ch1.out (ch2.out rfl))
             have e24 : f24 = false := Bool.eq_false_iff.2 fun h => Bool.false_ne_true ((ch24.out h))
             have e25 : f25 = false := Bool.eq_false_iff.2 fun h => Bool.false_ne_true ((ch24.out (ch25.out h)))
             subst e24 e25
             have hS := hB.size
             have hal := fun o => (Below.refl w'.heap.size w').alloc (Nat.le_refl w'.heap.size) o
             refine .inl ?_
             unfold e16Upd Oper.wp
             go_simp
             exact e16J.at true true true true true true true true true true true true true true true true true true true true true true true true false false (o45) (n45) (c45) (o48) (n48) (c48) (o51) (n51) (c51) (o54) (n54) (c54) (o57) (n57) (c57) (o61) (n61) (c61) (o63) (n63) (c63) (o65) (n65) (c65) (w'.heap.size) (o67) (n67) (c67) rfl rfl (Lib.hid (by simp)) (Lib.hid (by simp)) (Lib.hid (by simp)) (Lib.hid (by simp)) (Lib.hid (by simp)) (Lib.hid (by simp)) (Lib.hid (by simp)) (Lib.hid (by simp)) (Lib.hid (by simp)) (Lib.hid (by simp)) (Lib.hid (by simp)) (Lib.hid (by simp)) (Lib.hid (by simp)) (Lib.hid (by simp)) (Lib.hid (by simp)) (Lib.hid (by simp)) (Lib.hid (by simp)) (Lib.hid (by simp)) (hB.trans ((hal _).mono hS)) (fun h0 => (r45 h0).later (hal _)) (fun h0 => (r48 h0).later (hal _)) (fun h0 => (r51 h0).later (hal _)) (fun h0 => (r54 h0).later (hal _)) (fun h0 => (r57 h0).later (hal _)) (fun h0 => (r61 h0).later (hal _)) (fun h0 => (r63 h0).later (hal _)) (fun h0 => (r65 h0).later (hal _)) (fun h0 => rows_lit [.slice o45 n45 c45, .slice o48 n48 c48, .slice o51 n51 c51, .slice o54 n54 c54, .slice o57 n57 c57, .slice o61 n61 c61, .slice o63 n63 c63, .slice o65 n65 c65] [leafT bGroup d.group, leafT bArtifact d.artifact, leafT bVersion d.version, leafT bType d.type, leafT bClassifier d.classifier, leafT bScope (bs (wordB d.scope)), leafT bOptional ⟨#[102, 97, 108, 115, 101]⟩, branchT bExclusions TS] w' _ _ rfl rfl (by simp [maxLen]) (rows8 (r45 rfl) (r48 rfl) (r51 rfl) (r54 rfl) (r57 rfl) (r61 rfl) (r63 rfl) (r65 rfl))) (by simp)
           · have ho' := ho
             simp at hu ho
             subst hu ho
             simp [Region.binds] at ha
             obtain rfl : f23 = true := by simp only [ha]
             clear ha
             obtain rfl : f22 = true := (ch23.out rfl).2.2.2.2.2.2.2
             obtain rfl : f21 = true := (ch22.out (ch23.out rfl).2.2.2.2.2.2.2)
             obtain rfl : f20 = true := (ch23.out rfl).2.2.2.2.2.2.1
             obtain rfl : f19 = true := (ch20.out (ch23.out rfl).2.2.2.2.2.2.1)
             obtain rfl : f18 = true := (ch23.out rfl).2.2.2.2.2.1
             obtain rfl : f17 = true := (ch18.out (ch23.out rfl).2.2.2.2.2.1)
             obtain rfl : f16 = true := (ch17.out (ch18.out (ch23.out rfl).2.2.2.2.2.1))
             obtain rfl : f15 = true := (ch16.out (ch17.out (ch18.out (ch23.out rfl).2.2.2.2.2.1)))
             obtain rfl : f14 = true := (ch23.out rfl).2.2.2.2.1
             obtain rfl : f13 = true := (ch14.out (ch23.out rfl).2.2.2.2.1)
             obtain rfl : f12 = true := (ch13.out (ch14.out (ch23.out rfl).2.2.2.2.1))
             obtain rfl : f11 = true := (ch23.out rfl).2.2.2.1
             obtain rfl : f10 = true := (ch11.out (ch23.out rfl).2.2.2.1)
             obtain rfl : f9 = true := (ch10.out (ch11.out (ch23.out rfl).2.2.2.1))
             obtain rfl : f8 = true := (ch23.out rfl).2.2.1
             obtain rfl : f7 = true := (ch8.out (ch23.out rfl).2.2.1)
             obtain rfl : f6 = true := (ch7.out (ch8.out (ch23.out rfl).2.2.1))
             obtain rfl : f5 = true := (ch23.out rfl).2.1
             obtain rfl : f4 = true := (ch5.out (ch23.out rfl).2.1)
             obtain rfl : f3 = true := (ch4.out (ch5.out (ch23.out rfl).2.1))
             obtain rfl : f2 = true := (ch23.out rfl).1
             obtain rfl : f1 = true := (ch2.out (ch23.out rfl).1)
             obtain rfl : f0 = true := (ch1.out (ch2.out (ch23.out rfl).1))
             have e25 : f25 = false := Bool.eq_false_iff.2 fun h => Bool.false_ne_true ((ch25.out h))
             subst e25
             have hS := hB.size
             refine .inl ?_
             unfold e16Upd Oper.wp
             go_simp
             refine (allR_any (fun j => j < wo.heap.size) _ _ w' (r66 rfl) (fun j h => Nat.lt_of_lt_of_le (Nat.lt_of_lt_of_le h HWS.out) hS) (by simp) HL8.out).mono ?_
             intro e w1 hO
             obtain ⟨o1, n1, c1, rfl, hr, hb⟩ := hO
             exact e16J.at true true true true true true true true true true true true true true true true true true true true true true true true true false (o45) (n45) (c45) (o48) (n48) (c48) (o51) (n51) (c51) (o54) (n54) (c54) (o57) (n57) (c57) (o61) (n61) (c61) (o63) (n63) (c63) (o65) (n65) (c65) (H66) (o1) (n1) (c1) rfl rfl (Lib.hid (by simp)) (Lib.hid (by simp)) (Lib.hid (by simp)) (Lib.hid (by simp)) (Lib.hid (by simp)) (Lib.hid (by simp)) (Lib.hid (by simp)) (Lib.hid (by simp)) (Lib.hid (by simp)) (Lib.hid (by simp)) (Lib.hid (by simp)) (Lib.hid (by simp)) (Lib.hid (by simp)) (Lib.hid (by simp)) (Lib.hid (by simp)) (Lib.hid (by simp)) (Lib.hid (by simp)) (Lib.hid (by simp)) (hB.trans (hb.mono hS)) (fun h0 => (r45 h0).later hb) (fun h0 => (r48 h0).later hb) (fun h0 => (r51 h0).later hb) (fun h0 => (r54 h0).later hb) (fun h0 => (r57 h0).later hb) (fun h0 => (r61 h0).later hb) (fun h0 => (r63 h0).later hb) (fun h0 => (r65 h0).later hb) (fun h0 => (r66 h0).later hb) (fun h0 => hr)
           · have ho' := ho
             simp at hu ho
             subst hu ho
             simp [Region.binds] at ha
             obtain rfl : f24 = true := by simp only [ha]
             clear ha
             obtain rfl : f23 = true := (ch24.out rfl)
             obtain rfl : f22 = true := (ch23.out (ch24.out rfl)).2.2.2.2.2.2.2
             obtain rfl : f21 = true := (ch22.out (ch23.out (ch24.out rfl)).2.2.2.2.2.2.2)
             obtain rfl : f20 = true := (ch23.out (ch24.out rfl)).2.2.2.2.2.2.1
             obtain rfl : f19 = true := (ch20.out (ch23.out (ch24.out rfl)).2.2.2.2.2.2.1)
             obtain rfl : f18 = true := (ch23.out (ch24.out rfl)).2.2.2.2.2.1
             obtain rfl : f17 = true := (ch18.out (ch23.out (ch24.out rfl)).2.2.2.2.2.1)
             obtain rfl : f16 = true := (ch17.out (ch18.out (ch23.out (ch24.out rfl)).2.2.2.2.2.1))
             obtain rfl : f15 = true := (ch16.out (ch17.out (ch18.out (ch23.out (ch24.out rfl)).2.2.2.2.2.1)))
             obtain rfl : f14 = true := (ch23.out (ch24.out rfl)).2.2.2.2.1
             obtain rfl : f13 = true := (ch14.out (ch23.out (ch24.out rfl)).2.2.2.2.1)
             obtain rfl : f12 = true := (ch13.out (ch14.out (ch23.out (ch24.out rfl)).2.2.2.2.1))
             obtain rfl : f11 = true := (ch23.out (ch24.out rfl)).2.2.2.1
             obtain rfl : f10 = true := (ch11.out (ch23.out (ch24.out rfl)).2.2.2.1)
             obtain rfl : f9 = true := (ch10.out (ch11.out (ch23.out (ch24.out rfl)).2.2.2.1))
             obtain rfl : f8 = true := (ch23.out (ch24.out rfl)).2.2.1
             obtain rfl : f7 = true := (ch8.out (ch23.out (ch24.out rfl)).2.2.1)
             obtain rfl : f6 = true := (ch7.out (ch8.out (ch23.out (ch24.out rfl)).2.2.1))
             obtain rfl : f5 = true := (ch23.out (ch24.out rfl)).2.1
             obtain rfl : f4 = true := (ch5.out (ch23.out (ch24.out rfl)).2.1)
             obtain rfl : f3 = true := (ch4.out (ch5.out (ch23.out (ch24.out rfl)).2.1))
             obtain rfl : f2 = true := (ch23.out (ch24.out rfl)).1
             obtain rfl : f1 = true := (ch2.out (ch23.out (ch24.out rfl)).1)
             obtain rfl : f0 = true := (ch1.out (ch2.out (ch23.out (ch24.out rfl)).1))
             refine .inl ?_
             unfold e16Upd Oper.wp
             go_simp
             exact e16J.at true true true true true true true true true true true true true true true true true true true true true true true true true true (o45) (n45) (c45) (o48) (n48) (c48) (o51) (n51) (c51) (o54) (n54) (c54) (o57) (n57) (c57) (o61) (n61) (c61) (o63) (n63) (c63) (o65) (n65) (c65) (H66) (o67) (n67) (c67) rfl rfl (Lib.hid (by simp)) (Lib.hid (by simp)) (Lib.hid (by simp)) (Lib.hid (by simp)) (Lib.hid (by simp)) (Lib.hid (by simp)) (Lib.hid (by simp)) (Lib.hid (by simp)) (Lib.hid (by simp)) (Lib.hid (by simp)) (Lib.hid (by simp)) (Lib.hid (by simp)) (Lib.hid (by simp)) (Lib.hid (by simp)) (Lib.hid (by simp)) (Lib.hid (by simp)) (Lib.hid (by simp)) (Lib.hid (by simp)) (hB) (r45) (r48) (r51) (r54) (r57) (r61) (r63) (r65) (r66) (r67)
       · have q1 : (d.opt == 1) = false := by simpa using ho.1
         have q2 : (d.opt == 2) = false := by simpa using ho.2
         have HOS : Hid (leafT bOptional ⟨#[]⟩ = optT d.opt) := by
          show _ = _
          rw [← opt_leaf]
          unfold optS
          rw [if_neg ho.1, if_neg ho.2]
         have HL8 : Hid (∀ ts ∈ [leafT bGroup d.group, leafT bArtifact d.artifact, leafT bVersion d.version, leafT bType d.type, leafT bClassifier d.classifier, leafT bScope (bs (wordB d.scope)), leafT bOptional ⟨#[]⟩, branchT bExclusions TS], ts.length ≤ 100000) := by
          intro ts h
          simp only [List.mem_cons, List.not_mem_nil, or_false] at h
          rcases h with rfl | rfl | rfl | rfl | rfl | rfl | rfl | rfl
          all_goals first | exact Nat.le_trans (leafT_len _ _) (by decide) | exact Nat.le_trans (branchT_len _ _) (by decide)
         clear ho
         go_upto_region 16 with fail
         clear q1 q2 d6
         refine wp_region_flags0 (e16J wo.heap.size d ⟨#[]⟩ qo XL.length qc TS wr _ _ _ _ _ _ _ _ _ _ _ _ _ _ _ _ _ _ _ _ _ _ _ _ _ _ _ _ _ _ _ _ _ _ _ _ _ _ _ _ _ _ _ _ _ _ _ _ _ _ _ _ _ _ _ _ _ _ _ _ _ _ _ _ _ _ _ _ _ _ _ _ _ _ _ _) (by kernel_rfl) 26 rfl (by kernel_rfl) (e16J.at false false false false false false false false false false false false false false false false false false false false false false false false false false (none) (0) (0) (none) (0) (0) (none) (0) (0) (none) (0) (0) (none) (0) (0) (none) (0) (0) (none) (0) (0) (none) (0) (0) (0) (none) (0) (0) rfl (by unfold e16Upd; rfl) ?i0 ?i1 ?i2 ?i3 ?i4 ?i5 ?i6 ?i7 ?i8 ?i9 ?i10 ?i11 ?i12 ?i13 ?i14 ?i15 ?i16 ?i17 ?i18 ?i19 ?i20 ?i21 ?i22 ?i23 ?i24 ?i25 ?i26 ?i27 ?i28) ?fin ?step
         case i0 => exact Lib.hid (by simp)
         case i1 => exact Lib.hid (by simp)
         case i2 => exact Lib.hid (by simp)
         case i3 => exact Lib.hid (by simp)
         case i4 => exact Lib.hid (by simp)
         case i5 => exact Lib.hid (by simp)
         case i6 => exact Lib.hid (by simp)
         case i7 => exact Lib.hid (by simp)
         case i8 => exact Lib.hid (by simp)
         case i9 => exact Lib.hid (by simp)
         case i10 => exact Lib.hid (by simp)
         case i11 => exact Lib.hid (by simp)
         case i12 => exact Lib.hid (by simp)
         case i13 => exact Lib.hid (by simp)
         case i14 => exact Lib.hid (by simp)
         case i15 => exact Lib.hid (by simp)
         case i16 => exact Lib.hid (by simp)
         case i17 => exact Lib.hid (by simp)
         case i18 => exact belowN (Below.refl _ _) 1
         case i19 => exact by simp
         case i20 => exact by simp
         case i21 => exact by simp
         case i22 => exact by simp
         case i23 => exact by simp
         case i24 => exact by simp
         case i25 => exact by simp
         case i26 => exact by simp
         case i27 => exact by simp
         case i28 => exact by simp
         case fin =>
          intro a' w' hJ
          generalize hl : Array.replicate 26 true = Lz at hJ
          cases hJ with
          | mk f0 f1 f2 f3 f4 f5 f6 f7 f8 f9 f10 f11 f12 f13 f14 f15 f16 f17 f18 f19 f20 f21 f22 f23 f24 f25 o45 n45 c45 o48 n48 c48 o51 n51 c51 o54 n54 c54 o57 n57 c57 o61 n61 c61 o63 n63 c63 o65 n65 c65 H66 o67 n67 c67 _ ch1 ch2 ch4 ch5 ch7 ch8 ch10 ch11 ch13 ch14 ch16 ch17 ch18 ch20 ch22 ch23 ch24 ch25 hB r45 r48 r51 r54 r57 r61 r63 r65 r66 r67 =>
           have hl' : [true, true, true, true, true, true, true, true, true, true, true, true, true, true, true, true, true, true, true, true, true, true, true, true, true, true] = [f0, f1, f2, f3, f4, f5, f6, f7, f8, f9, f10, f11, f12, f13, f14, f15, f16, f17, f18, f19, f20, f21, f22, f23, f24, f25] := congrArg Array.toList hl
           simp only [List.cons.injEq, and_true] at hl'
           obtain ⟨rfl, rfl, rfl, rfl, rfl, rfl, rfl, rfl, rfl, rfl, rfl, rfl, rfl, rfl, rfl, rfl, rfl, rfl, rfl, rfl, rfl, rfl, rfl, rfl, rfl, rfl⟩ := hl'
           clear hl
           unfold e16Upd
           simp only [cond_true]
           have HR7 := Lib.hid (r67 rfl)
           have HB7 := Lib.hid hB
           clear ch1 ch2 ch4 ch5 ch7 ch8 ch10 ch11 ch13 ch14 ch16 ch17 ch18 ch20 ch22 ch23 ch24 ch25 hB r45 r48 r51 r54 r57 r61 r63 r65 r66 r67
           have HDT : Hid (([leafT bGroup d.group, leafT bArtifact d.artifact, leafT bVersion d.version, leafT bType d.type, leafT bClassifier d.classifier, leafT bScope (bs (wordB d.scope)), leafT bOptional ⟨#[]⟩, branchT bExclusions TS].flatten : List Tr) = (depT d).kids) := by
            show _ = _
            rw [HOS.out, HTX.out]
            simp [depT, Tr.kids, List.append_assoc]
           obtain ⟨KK, hKK⟩ : ∃ KK : List Tr, KK = [leafT bGroup d.group, leafT bArtifact d.artifact, leafT bVersion d.version, leafT bType d.type, leafT bClassifier d.classifier, leafT bScope (bs (wordB d.scope)), leafT bOptional ⟨#[]⟩, branchT bExclusions TS].flatten := ⟨_, rfl⟩
           rw [← hKK] at HR7 HDT
           clear hKK HOS HL8 HXR HTX HD16 dl
           have HAL : Hid (AL.length ≤ 2000) := by
            show _ ≤ _
            have h1 := HRR.out.2.len
            rw [List.length_map, List.length_take] at h1
            have := HLN.out
            omega
           have HW7 := Lib.hid (HBX.out.trans (HB7.out.mono HBX.out.size))
           have HA7 := Lib.hid (HRR.out.2.below HW7.out)
           have HLT7 : Hid (SliceOf 4 trC (w'.alloc (.cells #[.string (bs bDependency), .slice none 0 0, .slice o67 n67 c67, .string ⟨#[]⟩] 25)) (.slice (some ⟨w'.heap.size, 0, none⟩) 1 1) [((.mk bDependency [] KK [], .slice none 0 0, .slice o67 n67 c67) : TrV)]) := tr_lit (.mk bDependency [] KK [], .slice none 0 0, .slice o67 n67 c67) w' w'.heap.size rfl
           have HND : Hid (NodeX (fun j => j < w.heap.size ∨ some j = (Value.slice oa AL.length oc).ownBlock) w' (.mk bDependency [] KK []) (.slice none 0 0) (.slice o67 n67 c67)) := (HR7.out.node bDependency).keep (KeptX.refl _ _) (fun k _ hj => hj.elim (fun h => Nat.lt_of_lt_of_le h HRR.out.1.size) (fun h => (HAO.out k h.symm).2))
           have HWW : Hid (w.heap.size ≤ w'.heap.size) := Nat.le_trans HRR.out.1.size HW7.out.size
           have HAA := Lib.hid (HA7.out.own.alloc (.cells #[.string (bs bDependency), .slice none 0 0, .slice o67 n67 c67, .string ⟨#[]⟩] 25))
           go_wp2_with (at_builtin; go_loud (refine wpList_append_slice _ rfl _ _ 23 rfl w.heap.size 25 Tryz.underlying23 info_node rfl (by decide) trC_len (.slice oa AL.length oc) AL rfl HAA.out _ [((.mk bDependency [] KK [], .slice none 0 0, .slice o67 n67 c67) : TrV)] rfl HLT7.out (fun y hy => by obtain rfl := List.mem_singleton.1 hy; exact tr_one _ _ _ _ _ _ _ _ _ _) (by have h1 := HAL.out; simp only [List.length_cons, List.length_nil]; omega) (by decide) (by have h1 := HWW.out; simp; omega) ?_; intro v9 w9 hown9 hgrow9 hloc9; have HO9 := Lib.hid hown9; have HG9 := Lib.hid hgrow9; have HL9 := Lib.hid hloc9; clear hown9 hgrow9 hloc9; obtain ⟨a9, c9, rfl⟩ := HO9.out.shape))
           go_roundw
           case rel =>
            have hal := (Below.refl w'.heap.size w').alloc (Nat.le_refl _) (.cells #[.string (bs bDependency), .slice none 0 0, .slice o67 n67 c67, .string ⟨#[]⟩] 25)
            have hw := HW7.out.trans (hal.mono HW7.out.size)
            have hgr := HRR.out.2.snoc hw HO9.out HG9.out HL9.out (HND.out.later hal)
            refine ⟨k + 1, a9, c9, AL ++ [((.mk bDependency [] KK [], .slice none 0 0, .slice o67 n67 c67) : TrV)], HLT.out, by go_num, by simp, HRR.out.1.trans ((hw.mono HRR.out.1.size).trans (below_own HG9.out (fun g hg => (HRR.out.2.lt g hg).1) (Nat.le_trans HRR.out.1.size hw.size))), ?_⟩
            rw [HTK.out, List.map_append, List.map_cons, List.map_nil, show depT d = .mk bDependency [] KK [] from by rw [HDT.out]; rfl]
            exact hgr
           case measure => simp [intOf]; have := HLT.out; omega
         case step =>
          intro listed a' w' hJ i hi
          cases hJ with
          | mk f0 f1 f2 f3 f4 f5 f6 f7 f8 f9 f10 f11 f12 f13 f14 f15 f16 f17 f18 f19 f20 f21 f22 f23 f24 f25 o45 n45 c45 o48 n48 c48 o51 n51 c51 o54 n54 c54 o57 n57 c57 o61 n61 c61 o63 n63 c63 o65 n65 c65 H66 o67 n67 c67 _ ch1 ch2 ch4 ch5 ch7 ch8 ch10 ch11 ch13 ch14 ch16 ch17 ch18 ch20 ch22 ch23 ch24 ch25 hB r45 r48 r51 r54 r57 r61 r63 r65 r66 r67 =>
           rw [mem_ready] at hi
           obtain ⟨hu, o, ho, ha⟩ := hi
           have hi8 : i < 26 := (Array.getElem?_eq_some_iff.1 ho).1
           rcases (by omega : i = 0 ∨ i = 1 ∨ i = 2 ∨ i = 3 ∨ i = 4 ∨ i = 5 ∨ i = 6 ∨ i = 7 ∨ i = 8 ∨ i = 9 ∨ i = 10 ∨ i = 11 ∨ i = 12 ∨ i = 13 ∨ i = 14 ∨ i = 15 ∨ i = 16 ∨ i = 17 ∨ i = 18 ∨ i = 19 ∨ i = 20 ∨ i = 21 ∨ i = 22 ∨ i = 23 ∨ i = 24 ∨ i = 25) with rfl | rfl | rfl | rfl | rfl | rfl | rfl | rfl | rfl | rfl | rfl | rfl | rfl | rfl | rfl | rfl | rfl | rfl | rfl | rfl | rfl | rfl | rfl | rfl | rfl | rfl
           · have ho' := ho
             simp at hu ho
             subst hu ho
             clear ha
             have e1 : f1 = false := Bool.eq_false_iff.2 fun h => Bool.false_ne_true ((ch1.out h))
             have e2 : f2 = false := Bool.eq_false_iff.2 fun h => Bool.false_ne_true ((ch1.out (ch2.out h)))
             have e23 : f23 = false := Bool.eq_false_iff.2 fun h => Bool.false_ne_true ((ch1.out (ch2.out (ch23.out h).1)))
             have e24 : f24 = false := Bool.eq_false_iff.2 fun h => Bool.false_ne_true ((ch1.out (ch2.out (ch23.out (ch24.out h)).1)))
             have e25 : f25 = false := Bool.eq_false_iff.2 fun h => Bool.false_ne_true ((ch1.out (ch2.out (ch23.out (ch24.out (ch25.out h))).1)))
             subst e1 e2 e23 e24 e25
             refine .inl ?_
             unfold e16Upd Oper.wp
             go_simp
             exact e16J.at true false false f3 f4 f5 f6 f7 f8 f9 f10 f11 f12 f13 f14 f15 f16 f17 f18 f19 f20 f21 f22 false false false (o45) (n45) (c45) (o48) (n48) (c48) (o51) (n51) (c51) (o54) (n54) (c54) (o57) (n57) (c57) (o61) (n61) (c61) (o63) (n63) (c63) (o65) (n65) (c65) (H66) (o67) (n67) (c67) rfl rfl (Lib.hid (by simp)) (Lib.hid (by simp)) (ch4) (ch5) (ch7) (ch8) (ch10) (ch11) (ch13) (ch14) (ch16) (ch17) (ch18) (ch20) (ch22) (Lib.hid (by simp)) (Lib.hid (by simp)) (Lib.hid (by simp)) (hB) (by simp) (r48) (r51) (r54) (r57) (r61) (r63) (r65) (by simp) (by simp)
           · have ho' := ho
             simp at hu ho
             subst hu ho
             simp [Region.binds] at ha
             obtain rfl : f0 = true := by simp only [ha]
             clear ha
             have e2 : f2 = false := Bool.eq_false_iff.2 fun h => Bool.false_ne_true ((ch2.out h))
             have e23 : f23 = false := Bool.eq_false_iff.2 fun h => Bool.false_ne_true ((ch2.out (ch23.out h).1))
             have e24 : f24 = false := Bool.eq_false_iff.2 fun h => Bool.false_ne_true ((ch2.out (ch23.out (ch24.out h)).1))
             have e25 : f25 = false := Bool.eq_false_iff.2 fun h => Bool.false_ne_true ((ch2.out (ch23.out (ch24.out (ch25.out h))).1))
             subst e2 e23 e24 e25
             have k0 := (hB.cell (p := ⟨wo.heap.size, 0, none⟩) (by exact HD16.out.lt)).trans (HD16.out.cell 0 _ rfl)
             have kl := Nat.lt_of_lt_of_le HD16.out.lt hB.size
             refine .inl ?_
             unfold e16Upd Oper.wp
             go_simp
             exact e16J.at true true false f3 f4 f5 f6 f7 f8 f9 f10 f11 f12 f13 f14 f15 f16 f17 f18 f19 f20 f21 f22 false false false (o45) (n45) (c45) (o48) (n48) (c48) (o51) (n51) (c51) (o54) (n54) (c54) (o57) (n57) (c57) (o61) (n61) (c61) (o63) (n63) (c63) (o65) (n65) (c65) (H66) (o67) (n67) (c67) rfl rfl (Lib.hid (by simp)) (Lib.hid (by simp)) (ch4) (ch5) (ch7) (ch8) (ch10) (ch11) (ch13) (ch14) (ch16) (ch17) (ch18) (ch20) (ch22) (Lib.hid (by simp)) (Lib.hid (by simp)) (Lib.hid (by simp)) (hB) (by simp) (r48) (r51) (r54) (r57) (r61) (r63) (r65) (by simp) (by simp)
           · have ho' := ho
             simp at hu ho
             subst hu ho
             simp [Region.binds] at ha
             obtain rfl : f1 = true := by simp only [ha]
             clear ha
             obtain rfl : f0 = true := (ch1.out rfl)
             have e23 : f23 = false := Bool.eq_false_iff.2 fun h => Bool.false_ne_true ((ch23.out h).1)
             have e24 : f24 = false := Bool.eq_false_iff.2 fun h => Bool.false_ne_true ((ch23.out (ch24.out h)).1)
             have e25 : f25 = false := Bool.eq_false_iff.2 fun h => Bool.false_ne_true ((ch23.out (ch24.out (ch25.out h))).1)
             subst e23 e24 e25
             have hS := hB.size
             refine .inl ?_
             unfold e16Upd Oper.wp
             go_simp
             refine (leafR_any (fun j => j < wo.heap.size) bGroup d.group w' (fun j h => Nat.lt_of_lt_of_le (Nat.lt_of_lt_of_le h HWS.out) hS)).mono ?_
             intro e w1 hO
             obtain ⟨o1, n1, c1, rfl, hr, hb⟩ := hO
             exact e16J.at true true true f3 f4 f5 f6 f7 f8 f9 f10 f11 f12 f13 f14 f15 f16 f17 f18 f19 f20 f21 f22 false false false (o1) (n1) (c1) (o48) (n48) (c48) (o51) (n51) (c51) (o54) (n54) (c54) (o57) (n57) (c57) (o61) (n61) (c61) (o63) (n63) (c63) (o65) (n65) (c65) (H66) (o67) (n67) (c67) rfl rfl (Lib.hid (by simp)) (Lib.hid (by simp)) (ch4) (ch5) (ch7) (ch8) (ch10) (ch11) (ch13) (ch14) (ch16) (ch17) (ch18) (ch20) (ch22) (Lib.hid (by simp)) (Lib.hid (by simp)) (Lib.hid (by simp)) (hB.trans (hb.mono hS)) (fun h0 => hr) (fun h0 => (r48 h0).later hb) (fun h0 => (r51 h0).later hb) (fun h0 => (r54 h0).later hb) (fun h0 => (r57 h0).later hb) (fun h0 => (r61 h0).later hb) (fun h0 => (r63 h0).later hb) (fun h0 => (r65 h0).later hb) (by simp) (by simp)
           · have ho' := ho
             simp at hu ho
             subst hu ho
             clear ha
             have e4 : f4 = false := Bool.eq_false_iff.2 fun h => Bool.false_ne_true ((ch4.out h))
             have e5 : f5 = false := Bool.eq_false_iff.2 fun h => Bool.false_ne_true ((ch4.out (ch5.out h)))
             have e23 : f23 = false := Bool.eq_false_iff.2 fun h => Bool.false_ne_true ((ch4.out (ch5.out (ch23.out h).2.1)))
             have e24 : f24 = false := Bool.eq_false_iff.2 fun h => Bool.false_ne_true ((ch4.out (ch5.out (ch23.out (ch24.out h)).2.1)))
             have e25 : f25 = false := Bool.eq_false_iff.2 fun h => Bool.false_ne_true ((ch4.out (ch5.out (ch23.out (ch24.out (ch25.out h))).2.1)))
             subst e4 e5 e23 e24 e25
             refine .inl ?_
             unfold e16Upd Oper.wp
             go_simp
             exact e16J.at f0 f1 f2 true false false f6 f7 f8 f9 f10 f11 f12 f13 f14 f15 f16 f17 f18 f19 f20 f21 f22 false false false (o45) (n45) (c45) (o48) (n48) (c48) (o51) (n51) (c51) (o54) (n54) (c54) (o57) (n57) (c57) (o61) (n61) (c61) (o63) (n63) (c63) (o65) (n65) (c65) (H66) (o67) (n67) (c67) rfl rfl (ch1) (ch2) (Lib.hid (by simp)) (Lib.hid (by simp)) (ch7) (ch8) (ch10) (ch11) (ch13) (ch14) (ch16) (ch17) (ch18) (ch20) (ch22) (Lib.hid (by simp)) (Lib.hid (by simp)) (Lib.hid (by simp)) (hB) (r45) (by simp) (r51) (r54) (r57) (r61) (r63) (r65) (by simp) (by simp)
           · have ho' := ho
             simp at hu ho
             subst hu ho
             simp [Region.binds] at ha
             obtain rfl : f3 = true := by simp only [ha]
             clear ha
             have e5 : f5 = false := Bool.eq_false_iff.2 fun h => Bool.false_ne_true ((ch5.out h))
             have e23 : f23 = false := Bool.eq_false_iff.2 fun h => Bool.false_ne_true ((ch5.out (ch23.out h).2.1))
             have e24 : f24 = false := Bool.eq_false_iff.2 fun h => Bool.false_ne_true ((ch5.out (ch23.out (ch24.out h)).2.1))
             have e25 : f25 = false := Bool.eq_false_iff.2 fun h => Bool.false_ne_true ((ch5.out (ch23.out (ch24.out (ch25.out h))).2.1))
             subst e5 e23 e24 e25
             have k0 := (hB.cell (p := ⟨wo.heap.size, 1, none⟩) (by exact HD16.out.lt)).trans (HD16.out.cell 1 _ rfl)
             have kl := Nat.lt_of_lt_of_le HD16.out.lt hB.size
             refine .inl ?_
             unfold e16Upd Oper.wp
             go_simp
             exact e16J.at f0 f1 f2 true true false f6 f7 f8 f9 f10 f11 f12 f13 f14 f15 f16 f17 f18 f19 f20 f21 f22 false false false (o45) (n45) (c45) (o48) (n48) (c48) (o51) (n51) (c51) (o54) (n54) (c54) (o57) (n57) (c57) (o61) (n61) (c61) (o63) (n63) (c63) (o65) (n65) (c65) (H66) (o67) (n67) (c67) rfl rfl (ch1) (ch2) (Lib.hid (by simp)) (Lib.hid (by simp)) (ch7) (ch8) (ch10) (ch11) (ch13) (ch14) (ch16) (ch17) (ch18) (ch20) (ch22) (Lib.hid (by simp)) (Lib.hid (by simp)) (Lib.hid (by simp)) (hB) (r45) (by simp) (r51) (r54) (r57) (r61) (r63) (r65) (by simp) (by simp)
           · have ho' := ho
             simp at hu ho
             subst hu ho
             simp [Region.binds] at ha
             obtain rfl : f4 = true := by simp only [ha]
             clear ha
             obtain rfl : f3 = true := (ch4.out rfl)
             have e23 : f23 = false := Bool.eq_false_iff.2 fun h => Bool.false_ne_true ((ch23.out h).2.1)
             have e24 : f24 = false := Bool.eq_false_iff.2 fun h => Bool.false_ne_true ((ch23.out (ch24.out h)).2.1)
             have e25 : f25 = false := Bool.eq_false_iff.2 fun h => Bool.false_ne_true ((ch23.out (ch24.out (ch25.out h))).2.1)
             subst e23 e24 e25
             have hS := hB.size
             refine .inl ?_
             unfold e16Upd Oper.wp
             go_simp
             refine (leafR_any (fun j => j < wo.heap.size) bArtifact d.artifact w' (fun j h => Nat.lt_of_lt_of_le (Nat.lt_of_lt_of_le h HWS.out) hS)).mono ?_
             intro e w1 hO
             obtain ⟨o1, n1, c1, rfl, hr, hb⟩ := hO
             exact e16J.at f0 f1 f2 true true true f6 f7 f8 f9 f10 f11 f12 f13 f14 f15 f16 f17 f18 f19 f20 f21 f22 false false false (o45) (n45) (c45) (o1) (n1) (c1) (o51) (n51) (c51) (o54) (n54) (c54) (o57) (n57) (c57) (o61) (n61) (c61) (o63) (n63) (c63) (o65) (n65) (c65) (H66) (o67) (n67) (c67) rfl rfl (ch1) (ch2) (Lib.hid (by simp)) (Lib.hid (by simp)) (ch7) (ch8) (ch10) (ch11) (ch13) (ch14) (ch16) (ch17) (ch18) (ch20) (ch22) (Lib.hid (by simp)) (Lib.hid (by simp)) (Lib.hid (by simp)) (hB.trans (hb.mono hS)) (fun h0 => (r45 h0).later hb) (fun h0 => hr) (fun h0 => (r51 h0).later hb) (fun h0 => (r54 h0).later hb) (fun h0 => (r57 h0).later hb) (fun h0 => (r61 h0).later hb) (fun h0 => (r63 h0).later hb) (fun h0 => (r65 h0).later hb) (by simp) (by simp)
           · have ho' := ho
             simp at hu ho
             subst hu ho
             clear ha
             have e7 : f7 = false := Bool.eq_false_iff.2 fun h => Bool.false_ne_true ((ch7.out h))
             have e8 : f8 = false := Bool.eq_false_iff.2 fun h => Bool.false_ne_true ((ch7.out (ch8.out h)))
             have e23 : f23 = false := Bool.eq_false_iff.2 fun h => Bool.false_ne_true ((ch7.out (ch8.out (ch23.out h).2.2.1)))
             have e24 : f24 = false := Bool.eq_false_iff.2 fun h => Bool.false_ne_true ((ch7.out (ch8.out (ch23.out (ch24.out h)).2.2.1)))
             have e25 : f25 = false := Bool.eq_false_iff.2 fun h => Bool.false_ne_true ((ch7.out (ch8.out (ch23.out (ch24.out (ch25.out h))).2.2.1)))
             subst e7 e8 e23 e24 e25
             refine .inl ?_
             unfold e16Upd Oper.wp
             go_simp
             exact e16J.at f0 f1 f2 f3 f4 f5 true false false f9 f10 f11 f12 f13 f14 f15 f16 f17 f18 f19 f20 f21 f22 false false false (o45) (n45) (c45) (o48) (n48) (c48) (o51) (n51) (c51) (o54) (n54) (c54) (o57) (n57) (c57) (o61) (n61) (c61) (o63) (n63) (c63) (o65) (n65) (c65) (H66) (o67) (n67) (c67) rfl rfl (ch1) (ch2) (ch4) (ch5) (Lib.hid (by simp)) (Lib.hid (by simp)) (ch10) (ch11) (ch13) (ch14) (ch16) (ch17) (ch18) (ch20) (ch22) (Lib.hid (by simp)) (Lib.hid (by simp)) (Lib.hid (by simp)) (hB) (r45) (r48) (by simp) (r54) (r57) (r61) (r63) (r65) (by simp) (by simp)
           · have ho' := ho
             simp at hu ho
             subst hu ho
             simp [Region.binds] at ha
             obtain rfl : f6 = true := by simp only [ha]
             clear ha
             have e8 : f8 = false := Bool.eq_false_iff.2 fun h => Bool.false_ne_true ((ch8.out h))
             have e23 : f23 = false := Bool.eq_false_iff.2 fun h => Bool.false_ne_true ((ch8.out (ch23.out h).2.2.1))
             have e24 : f24 = false := Bool.eq_false_iff.2 fun h => Bool.false_ne_true ((ch8.out (ch23.out (ch24.out h)).2.2.1))
             have e25 : f25 = false := Bool.eq_false_iff.2 fun h => Bool.false_ne_true ((ch8.out (ch23.out (ch24.out (ch25.out h))).2.2.1))
             subst e8 e23 e24 e25
             have k0 := (hB.cell (p := ⟨wo.heap.size, 2, none⟩) (by exact HD16.out.lt)).trans (HD16.out.cell 2 _ rfl)
             have kl := Nat.lt_of_lt_of_le HD16.out.lt hB.size
             refine .inl ?_
             unfold e16Upd Oper.wp
             go_simp
             exact e16J.at f0 f1 f2 f3 f4 f5 true true false f9 f10 f11 f12 f13 f14 f15 f16 f17 f18 f19 f20 f21 f22 false false false (o45) (n45) (c45) (o48) (n48) (c48) (o51) (n51) (c51) (o54) (n54) (c54) (o57) (n57) (c57) (o61) (n61) (c61) (o63) (n63) (c63) (o65) (n65) (c65) (H66) (o67) (n67) (c67) rfl rfl (ch1) (ch2) (ch4) (ch5) (Lib.hid (by simp)) (Lib.hid (by simp)) (ch10) (ch11) (ch13) (ch14) (ch16) (ch17) (ch18) (ch20) (ch22) (Lib.hid (by simp)) (Lib.hid (by simp)) (Lib.hid (by simp)) (hB) (r45) (r48) (by simp) (r54) (r57) (r61) (r63) (r65) (by simp) (by simp)
           · have ho' := ho
             simp at hu ho
             subst hu ho
             simp [Region.binds] at ha
             obtain rfl : f7 = true := by simp only [ha]
             clear ha
             obtain rfl : f6 = true := (ch7.out rfl)
             have e23 : f23 = false := Bool.eq_false_iff.2 fun h => Bool.false_ne_true ((ch23.out h).2.2.1)
             have e24 : f24 = false := Bool.eq_false_iff.2 fun h => Bool.false_ne_true ((ch23.out (ch24.out h)).2.2.1)
             have e25 : f25 = false := Bool.eq_false_iff.2 fun h => Bool.false_ne_true ((ch23.out (ch24.out (ch25.out h))).2.2.1)
             subst e23 e24 e25
             have hS := hB.size
             refine .inl ?_
             unfold e16Upd Oper.wp
             go_simp
             refine (leafR_any (fun j => j < wo.heap.size) bVersion d.version w' (fun j h => Nat.lt_of_lt_of_le (Nat.lt_of_lt_of_le h HWS.out) hS)).mono ?_
             intro e w1 hO
             obtain ⟨o1, n1, c1, rfl, hr, hb⟩ := hO
             exact e16J.at f0 f1 f2 f3 f4 f5 true true true f9 f10 f11 f12 f13 f14 f15 f16 f17 f18 f19 f20 f21 f22 false false false (o45) (n45) (c45) (o48) (n48) (c48) (o1) (n1) (c1) (o54) (n54) (c54) (o57) (n57) (c57) (o61) (n61) (c61) (o63) (n63) (c63) (o65) (n65) (c65) (H66) (o67) (n67) (c67) rfl rfl (ch1) (ch2) (ch4) (ch5) (Lib.hid (by simp)) (Lib.hid (by simp)) (ch10) (ch11) (ch13) (ch14) (ch16) (ch17) (ch18) (ch20) (ch22) (Lib.hid (by simp)) (Lib.hid (by simp)) (Lib.hid (by simp)) (hB.trans (hb.mono hS)) (fun h0 => (r45 h0).later hb) (fun h0 => (r48 h0).later hb) (fun h0 => hr) (fun h0 => (r54 h0).later hb) (fun h0 => (r57 h0).later hb) (fun h0 => (r61 h0).later hb) (fun h0 => (r63 h0).later hb) (fun h0 => (r65 h0).later hb) (by simp) (by simp)
           · have ho' := ho
             simp at hu ho
             subst hu ho
             clear ha
             have e10 : f10 = false := Bool.eq_false_iff.2 fun h => Bool.false_ne_true ((ch10.out h))
             have e11 : f11 = false := Bool.eq_false_iff.2 fun h => Bool.false_ne_true ((ch10.out (ch11.out h)))
             have e23 : f23 = false := Bool.eq_false_iff.2 fun h => Bool.false_ne_true ((ch10.out (ch11.out (ch23.out h).2.2.2.1)))
             have e24 : f24 = false := Bool.eq_false_iff.2 fun h => Bool.false_ne_true ((ch10.out (ch11.out (ch23.out (ch24.out h)).2.2.2.1)))
             have e25 : f25 = false := Bool.eq_false_iff.2 fun h => Bool.false_ne_true ((ch10.out (ch11.out (ch23.out (ch24.out (ch25.out h))).2.2.2.1)))
             subst e10 e11 e23 e24 e25
             refine .inl ?_
             unfold e16Upd Oper.wp
             go_simp
             exact e16J.at f0 f1 f2 f3 f4 f5 f6 f7 f8 true false false f12 f13 f14 f15 f16 f17 f18 f19 f20 f21 f22 false false false (o45) (n45) (c45) (o48) (n48) (c48) (o51) (n51) (c51) (o54) (n54) (c54) (o57) (n57) (c57) (o61) (n61) (c61) (o63) (n63) (c63) (o65) (n65) (c65) (H66) (o67) (n67) (c67) rfl rfl (ch1) (ch2) (ch4) (ch5) (ch7) (ch8) (Lib.hid (by simp)) (Lib.hid (by simp)) (ch13) (ch14) (ch16) (ch17) (ch18) (ch20) (ch22) (Lib.hid (by simp)) (Lib.hid (by simp)) (Lib.hid (by simp)) (hB) (r45) (r48) (r51) (by simp) (r57) (r61) (r63) (r65) (by simp) (by simp)
           · have ho' := ho
             simp at hu ho
             subst hu ho
             simp [Region.binds] at ha
             obtain rfl : f9 = true := by simp only [ha]
             clear ha
             have e11 : f11 = false := Bool.eq_false_iff.2 fun h => Bool.false_ne_true ((ch11.out h))
             have e23 : f23 = false := Bool.eq_false_iff.2 fun h => Bool.false_ne_true ((ch11.out (ch23.out h).2.2.2.1))
             have e24 : f24 = false := Bool.eq_false_iff.2 fun h => Bool.false_ne_true ((ch11.out (ch23.out (ch24.out h)).2.2.2.1))
             have e25 : f25 = false := Bool.eq_false_iff.2 fun h => Bool.false_ne_true ((ch11.out (ch23.out (ch24.out (ch25.out h))).2.2.2.1))
             subst e11 e23 e24 e25
             have k0 := (hB.cell (p := ⟨wo.heap.size, 3, none⟩) (by exact HD16.out.lt)).trans (HD16.out.cell 3 _ rfl)
             have kl := Nat.lt_of_lt_of_le HD16.out.lt hB.size
             refine .inl ?_
             unfold e16Upd Oper.wp
             go_simp
             exact e16J.at f0 f1 f2 f3 f4 f5 f6 f7 f8 true true false f12 f13 f14 f15 f16 f17 f18 f19 f20 f21 f22 false false false (o45) (n45) (c45) (o48) (n48) (c48) (o51) (n51) (c51) (o54) (n54) (c54) (o57) (n57) (c57) (o61) (n61) (c61) (o63) (n63) (c63) (o65) (n65) (c65) (H66) (o67) (n67) (c67) rfl rfl (ch1) (ch2) (ch4) (ch5) (ch7) (ch8) (Lib.hid (by simp)) (Lib.hid (by simp)) (ch13) (ch14) (ch16) (ch17) (ch18) (ch20) (ch22) (Lib.hid (by simp)) (Lib.hid (by simp)) (Lib.hid (by simp)) (hB) (r45) (r48) (r51) (by simp) (r57) (r61) (r63) (r65) (by simp) (by simp)
           · have ho' := ho
             simp at hu ho
             subst hu ho
             simp [Region.binds] at ha
             obtain rfl : f10 = true := by simp only [ha]
             clear ha
             obtain rfl : f9 = true := (ch10.out rfl)
             have e23 : f23 = false := Bool.eq_false_iff.2 fun h => Bool.false_ne_true ((ch23.out h).2.2.2.1)
             have e24 : f24 = false := Bool.eq_false_iff.2 fun h => Bool.false_ne_true ((ch23.out (ch24.out h)).2.2.2.1)
             have e25 : f25 = false := Bool.eq_false_iff.2 fun h => Bool.false_ne_true ((ch23.out (ch24.out (ch25.out h))).2.2.2.1)
             subst e23 e24 e25
             have hS := hB.size
             refine .inl ?_
             unfold e16Upd Oper.wp
             go_simp
             refine (leafR_any (fun j => j < wo.heap.size) bType d.type w' (fun j h => Nat.lt_of_lt_of_le (Nat.lt_of_lt_of_le h HWS.out) hS)).mono ?_
             intro e w1 hO
             obtain ⟨o1, n1, c1, rfl, hr, hb⟩ := hO
             exact e16J.at f0 f1 f2 f3 f4 f5 f6 f7 f8 true true true f12 f13 f14 f15 f16 f17 f18 f19 f20 f21 f22 false false false (o45) (n45) (c45) (o48) (n48) (c48) (o51) (n51) (c51) (o1) (n1) (c1) (o57) (n57) (c57) (o61) (n61) (c61) (o63) (n63) (c63) (o65) (n65) (c65) (H66) (o67) (n67) (c67) rfl rfl (ch1) (ch2) (ch4) (ch5) (ch7) (ch8) (Lib.hid (by simp)) (Lib.hid (by simp)) (ch13) (ch14) (ch16) (ch17) (ch18) (ch20) (ch22) (Lib.hid (by simp)) (Lib.hid (by simp)) (Lib.hid (by simp)) (hB.trans (hb.mono hS)) (fun h0 => (r45 h0).later hb) (fun h0 => (r48 h0).later hb) (fun h0 => (r51 h0).later hb) (fun h0 => hr) (fun h0 => (r57 h0).later hb) (fun h0 => (r61 h0).later hb) (fun h0 => (r63 h0).later hb) (fun h0 => (r65 h0).later hb) (by simp) (by simp)
           · have ho' := ho
             simp at hu ho
             subst hu ho
             clear ha
             have e13 : f13 = false := Bool.eq_false_iff.2 fun h => Bool.false_ne_true ((ch13.out h))
             have e14 : f14 = false := Bool.eq_false_iff.2 fun h => Bool.false_ne_true ((ch13.out (ch14.out h)))
             have e23 : f23 = false := Bool.eq_false_iff.2 fun h => Bool.false_ne_true ((ch13.out (ch14.out (ch23.out h).2.2.2.2.1)))
             have e24 : f24 = false := Bool.eq_false_iff.2 fun h => Bool.false_ne_true ((ch13.out (ch14.out (ch23.out (ch24.out h)).2.2.2.2.1)))
             have e25 : f25 = false := Bool.eq_false_iff.2 fun h => Bool.false_ne_true ((ch13.out (ch14.out (ch23.out (ch24.out (ch25.out h))).2.2.2.2.1)))
             subst e13 e14 e23 e24 e25
             refine .inl ?_
             unfold e16Upd Oper.wp
             go_simp
             exact e16J.at f0 f1 f2 f3 f4 f5 f6 f7 f8 f9 f10 f11 true false false f15 f16 f17 f18 f19 f20 f21 f22 false false false (o45) (n45) (c45) (o48) (n48) (c48) (o51) (n51) (c51) (o54) (n54) (c54) (o57) (n57) (c57) (o61) (n61) (c61) (o63) (n63) (c63) (o65) (n65) (c65) (H66) (o67) (n67) (c67) rfl rfl (ch1) (ch2) (ch4) (ch5) (ch7) (ch8) (ch10) (ch11) (Lib.hid (by simp)) (Lib.hid (by simp)) (ch16) (ch17) (ch18) (ch20) (ch22) (Lib.hid (by simp)) (Lib.hid (by simp)) (Lib.hid (by simp)) (hB) (r45) (r48) (r51) (r54) (by simp) (r61) (r63) (r65) (by simp) (by simp)
           · have ho' := ho
             simp at hu ho
             subst hu ho
             simp [Region.binds] at ha
             obtain rfl : f12 = true := by simp only [ha]
             clear ha
             have e14 : f14 = false := Bool.eq_false_iff.2 fun h => Bool.false_ne_true ((ch14.out h))
             have e23 : f23 = false := Bool.eq_false_iff.2 fun h => Bool.false_ne_true ((ch14.out (ch23.out h).2.2.2.2.1))
             have e24 : f24 = false := Bool.eq_false_iff.2 fun h => Bool.false_ne_true ((ch14.out (ch23.out (ch24.out h)).2.2.2.2.1))
             have e25 : f25 = false := Bool.eq_false_iff.2 fun h => Bool.false_ne_true ((ch14.out (ch23.out (ch24.out (ch25.out h))).2.2.2.2.1))
             subst e14 e23 e24 e25
             have k0 := (hB.cell (p := ⟨wo.heap.size, 4, none⟩) (by exact HD16.out.lt)).trans (HD16.out.cell 4 _ rfl)
             have kl := Nat.lt_of_lt_of_le HD16.out.lt hB.size
             refine .inl ?_
             unfold e16Upd Oper.wp
             go_simp
             exact e16J.at f0 f1 f2 f3 f4 f5 f6 f7 f8 f9 f10 f11 true true false f15 f16 f17 f18 f19 f20 f21 f22 false false false (o45) (n45) (c45) (o48) (n48) (c48) (o51) (n51) (c51) (o54) (n54) (c54) (o57) (n57) (c57) (o61) (n61) (c61) (o63) (n63) (c63) (o65) (n65) (c65) (H66) (o67) (n67) (c67) rfl rfl (ch1) (ch2) (ch4) (ch5) (ch7) (ch8) (ch10) (ch11) (Lib.hid (by simp)) (Lib.hid (by simp)) (ch16) (ch17) (ch18) (ch20) (ch22) (Lib.hid (by simp)) (Lib.hid (by simp)) (Lib.hid (by simp)) (hB) (r45) (r48) (r51) (r54) (by simp) (r61) (r63) (r65) (by simp) (by simp)
           · have ho' := ho
             simp at hu ho
             subst hu ho
             simp [Region.binds] at ha
             obtain rfl : f13 = true := by simp only [ha]
             clear ha
             obtain rfl : f12 = true := (ch13.out rfl)
             have e23 : f23 = false := Bool.eq_false_iff.2 fun h => Bool.false_ne_true ((ch23.out h).2.2.2.2.1)
             have e24 : f24 = false := Bool.eq_false_iff.2 fun h => Bool.false_ne_true ((ch23.out (ch24.out h)).2.2.2.2.1)
             have e25 : f25 = false := Bool.eq_false_iff.2 fun h => Bool.false_ne_true ((ch23.out (ch24.out (ch25.out h))).2.2.2.2.1)
             subst e23 e24 e25
             have hS := hB.size
             refine .inl ?_
             unfold e16Upd Oper.wp
             go_simp
             refine (leafR_any (fun j => j < wo.heap.size) bClassifier d.classifier w' (fun j h => Nat.lt_of_lt_of_le (Nat.lt_of_lt_of_le h HWS.out) hS)).mono ?_
             intro e w1 hO
             obtain ⟨o1, n1, c1, rfl, hr, hb⟩ := hO
             exact e16J.at f0 f1 f2 f3 f4 f5 f6 f7 f8 f9 f10 f11 true true true f15 f16 f17 f18 f19 f20 f21 f22 false false false (o45) (n45) (c45) (o48) (n48) (c48) (o51) (n51) (c51) (o54) (n54) (c54) (o1) (n1) (c1) (o61) (n61) (c61) (o63) (n63) (c63) (o65) (n65) (c65) (H66) (o67) (n67) (c67) rfl rfl (ch1) (ch2) (ch4) (ch5) (ch7) (ch8) (ch10) (ch11) (Lib.hid (by simp)) (Lib.hid (by simp)) (ch16) (ch17) (ch18) (ch20) (ch22) (Lib.hid (by simp)) (Lib.hid (by simp)) (Lib.hid (by simp)) (hB.trans (hb.mono hS)) (fun h0 => (r45 h0).later hb) (fun h0 => (r48 h0).later hb) (fun h0 => (r51 h0).later hb) (fun h0 => (r54 h0).later hb) (fun h0 => hr) (fun h0 => (r61 h0).later hb) (fun h0 => (r63 h0).later hb) (fun h0 => (r65 h0).later hb) (by simp) (by simp)
           · have ho' := ho
             simp at hu ho
             subst hu ho
             clear ha
             have e16 : f16 = false := Bool.eq_false_iff.2 fun h => Bool.false_ne_true ((ch16.out h))
             have e17 : f17 = false := Bool.eq_false_iff.2 fun h => Bool.false_ne_true ((ch16.out (ch17.out h)))
             have e18 : f18 = false := Bool.eq_false_iff.2 fun h => Bool.false_ne_true ((ch16.out (ch17.out (ch18.out h))))
             have e23 : f23 = false := Bool.eq_false_iff.2 fun h => Bool.false_ne_true ((ch16.out (ch17.out (ch18.out (ch23.out h).2.2.2.2.2.1))))
             have e24 : f24 = false := Bool.eq_false_iff.2 fun h => Bool.false_ne_true ((ch16.out (ch17.out (ch18.out (ch23.out (ch24.out h)).2.2.2.2.2.1))))
             have e25 : f25 = false := Bool.eq_false_iff.2 fun h => Bool.false_ne_true ((ch16.out (ch17.out (ch18.out (ch23.out (ch24.out (ch25.out h))).2.2.2.2.2.1))))
             subst e16 e17 e18 e23 e24 e25
             refine .inl ?_
             unfold e16Upd Oper.wp
             go_simp
             exact e16J.at f0 f1 f2 f3 f4 f5 f6 f7 f8 f9 f10 f11 f12 f13 f14 true false false false f19 f20 f21 f22 false false false (o45) (n45) (c45) (o48) (n48) (c48) (o51) (n51) (c51) (o54) (n54) (c54) (o57) (n57) (c57) (o61) (n61) (c61) (o63) (n63) (c63) (o65) (n65) (c65) (H66) (o67) (n67) (c67) rfl rfl (ch1) (ch2) (ch4) (ch5) (ch7) (ch8) (ch10) (ch11) (ch13) (ch14) (Lib.hid (by simp)) (Lib.hid (by simp)) (Lib.hid (by simp)) (ch20) (ch22) (Lib.hid (by simp)) (Lib.hid (by simp)) (Lib.hid (by simp)) (hB) (r45) (r48) (r51) (r54) (r57) (by simp) (r63) (r65) (by simp) (by simp)
           · have ho' := ho
             simp at hu ho
             subst hu ho
             simp [Region.binds] at ha
             obtain rfl : f15 = true := by simp only [ha]
             clear ha
             have e17 : f17 = false := Bool.eq_false_iff.2 fun h => Bool.false_ne_true ((ch17.out h))
             have e18 : f18 = false := Bool.eq_false_iff.2 fun h => Bool.false_ne_true ((ch17.out (ch18.out h)))
             have e23 : f23 = false := Bool.eq_false_iff.2 fun h => Bool.false_ne_true ((ch17.out (ch18.out (ch23.out h).2.2.2.2.2.1)))
             have e24 : f24 = false := Bool.eq_false_iff.2 fun h => Bool.false_ne_true ((ch17.out (ch18.out (ch23.out (ch24.out h)).2.2.2.2.2.1)))
             have e25 : f25 = false := Bool.eq_false_iff.2 fun h => Bool.false_ne_true ((ch17.out (ch18.out (ch23.out (ch24.out (ch25.out h))).2.2.2.2.2.1)))
             subst e17 e18 e23 e24 e25
             have k0 := (hB.cell (p := ⟨wo.heap.size, 5, none⟩) (by exact HD16.out.lt)).trans (HD16.out.cell 5 _ rfl)
             have kl := Nat.lt_of_lt_of_le HD16.out.lt hB.size
             refine .inl ?_
             unfold e16Upd Oper.wp
             go_simp
             exact e16J.at f0 f1 f2 f3 f4 f5 f6 f7 f8 f9 f10 f11 f12 f13 f14 true true false false f19 f20 f21 f22 false false false (o45) (n45) (c45) (o48) (n48) (c48) (o51) (n51) (c51) (o54) (n54) (c54) (o57) (n57) (c57) (o61) (n61) (c61) (o63) (n63) (c63) (o65) (n65) (c65) (H66) (o67) (n67) (c67) rfl rfl (ch1) (ch2) (ch4) (ch5) (ch7) (ch8) (ch10) (ch11) (ch13) (ch14) (Lib.hid (by simp)) (Lib.hid (by simp)) (Lib.hid (by simp)) (ch20) (ch22) (Lib.hid (by simp)) (Lib.hid (by simp)) (Lib.hid (by simp)) (hB) (r45) (r48) (r51) (r54) (r57) (by simp) (r63) (r65) (by simp) (by simp)
           · have ho' := ho
             simp at hu ho
             subst hu ho
             simp [Region.binds] at ha
             obtain rfl : f16 = true := by simp only [ha]
             clear ha
             obtain rfl : f15 = true := (ch16.out rfl)
             have e18 : f18 = false := Bool.eq_false_iff.2 fun h => Bool.false_ne_true ((ch18.out h))
             have e23 : f23 = false := Bool.eq_false_iff.2 fun h => Bool.false_ne_true ((ch18.out (ch23.out h).2.2.2.2.2.1))
             have e24 : f24 = false := Bool.eq_false_iff.2 fun h => Bool.false_ne_true ((ch18.out (ch23.out (ch24.out h)).2.2.2.2.2.1))
             have e25 : f25 = false := Bool.eq_false_iff.2 fun h => Bool.false_ne_true ((ch18.out (ch23.out (ch24.out (ch25.out h))).2.2.2.2.2.1))
             subst e18 e23 e24 e25
             have hS := hB.size
             refine .inl ?_
             unfold e16Upd Oper.wp
             go_simp
             refine (refWord_any d.scope w').mono ?_
             intro e w1 hO
             obtain ⟨rfl, hb⟩ := hO
             exact e16J.at f0 f1 f2 f3 f4 f5 f6 f7 f8 f9 f10 f11 f12 f13 f14 true true true false f19 f20 f21 f22 false false false (o45) (n45) (c45) (o48) (n48) (c48) (o51) (n51) (c51) (o54) (n54) (c54) (o57) (n57) (c57) (o61) (n61) (c61) (o63) (n63) (c63) (o65) (n65) (c65) (H66) (o67) (n67) (c67) rfl rfl (ch1) (ch2) (ch4) (ch5) (ch7) (ch8) (ch10) (ch11) (ch13) (ch14) (Lib.hid (by simp)) (Lib.hid (by simp)) (Lib.hid (by simp)) (ch20) (ch22) (Lib.hid (by simp)) (Lib.hid (by simp)) (Lib.hid (by simp)) (hB.trans (hb.mono hS)) (fun h0 => (r45 h0).later hb) (fun h0 => (r48 h0).later hb) (fun h0 => (r51 h0).later hb) (fun h0 => (r54 h0).later hb) (fun h0 => (r57 h0).later hb) (by simp) (fun h0 => (r63 h0).later hb) (fun h0 => (r65 h0).later hb) (by simp) (by simp)
           · have ho' := ho
             simp at hu ho
             subst hu ho
             simp [Region.binds] at ha
             obtain rfl : f17 = true := by simp only [ha]
             clear ha
             obtain rfl : f16 = true := (ch17.out rfl)
             obtain rfl : f15 = true := (ch16.out (ch17.out rfl))
             have e23 : f23 = false := Bool.eq_false_iff.2 fun h => Bool.false_ne_true ((ch23.out h).2.2.2.2.2.1)
             have e24 : f24 = false := Bool.eq_false_iff.2 fun h => Bool.false_ne_true ((ch23.out (ch24.out h)).2.2.2.2.2.1)
             have e25 : f25 = false := Bool.eq_false_iff.2 fun h => Bool.false_ne_true ((ch23.out (ch24.out (ch25.out h))).2.2.2.2.2.1)
             subst e23 e24 e25
             have hS := hB.size
             refine .inl ?_
             unfold e16Upd Oper.wp
             go_simp
             refine (leafR_any (fun j => j < wo.heap.size) bScope (bs (wordB d.scope)) w' (fun j h => Nat.lt_of_lt_of_le (Nat.lt_of_lt_of_le h HWS.out) hS)).mono ?_
             intro e w1 hO
             obtain ⟨o1, n1, c1, rfl, hr, hb⟩ := hO
             exact e16J.at f0 f1 f2 f3 f4 f5 f6 f7 f8 f9 f10 f11 f12 f13 f14 true true true true f19 f20 f21 f22 false false false (o45) (n45) (c45) (o48) (n48) (c48) (o51) (n51) (c51) (o54) (n54) (c54) (o57) (n57) (c57) (o1) (n1) (c1) (o63) (n63) (c63) (o65) (n65) (c65) (H66) (o67) (n67) (c67) rfl rfl (ch1) (ch2) (ch4) (ch5) (ch7) (ch8) (ch10) (ch11) (ch13) (ch14) (Lib.hid (by simp)) (Lib.hid (by simp)) (Lib.hid (by simp)) (ch20) (ch22) (Lib.hid (by simp)) (Lib.hid (by simp)) (Lib.hid (by simp)) (hB.trans (hb.mono hS)) (fun h0 => (r45 h0).later hb) (fun h0 => (r48 h0).later hb) (fun h0 => (r51 h0).later hb) (fun h0 => (r54 h0).later hb) (fun h0 => (r57 h0).later hb) (fun h0 => hr) (fun h0 => (r63 h0).later hb) (fun h0 => (r65 h0).later hb) (by simp) (by simp)
           · have ho' := ho
             simp at hu ho
             subst hu ho
             clear ha
             have e20 : f20 = false := Bool.eq_false_iff.2 fun h => Bool.false_ne_true ((ch20.out h))
             have e23 : f23 = false := Bool.eq_false_iff.2 fun h => Bool.false_ne_true ((ch20.out (ch23.out h).2.2.2.2.2.2.1))
             have e24 : f24 = false := Bool.eq_false_iff.2 fun h => Bool.false_ne_true ((ch20.out (ch23.out (ch24.out h)).2.2.2.2.2.2.1))
             have e25 : f25 = false := Bool.eq_false_iff.2 fun h => Bool.false_ne_true ((ch20.out (ch23.out (ch24.out (ch25.out h))).2.2.2.2.2.2.1))
             subst e20 e23 e24 e25
             refine .inl ?_
             unfold e16Upd Oper.wp
             go_simp
             exact e16J.at f0 f1 f2 f3 f4 f5 f6 f7 f8 f9 f10 f11 f12 f13 f14 f15 f16 f17 f18 true false f21 f22 false false false (o45) (n45) (c45) (o48) (n48) (c48) (o51) (n51) (c51) (o54) (n54) (c54) (o57) (n57) (c57) (o61) (n61) (c61) (o63) (n63) (c63) (o65) (n65) (c65) (H66) (o67) (n67) (c67) rfl rfl (ch1) (ch2) (ch4) (ch5) (ch7) (ch8) (ch10) (ch11) (ch13) (ch14) (ch16) (ch17) (ch18) (Lib.hid (by simp)) (ch22) (Lib.hid (by simp)) (Lib.hid (by simp)) (Lib.hid (by simp)) (hB) (r45) (r48) (r51) (r54) (r57) (r61) (by simp) (r65) (by simp) (by simp)
           · have ho' := ho
             simp at hu ho
             subst hu ho
             simp [Region.binds] at ha
             obtain rfl : f19 = true := by simp only [ha]
             clear ha
             have e23 : f23 = false := Bool.eq_false_iff.2 fun h => Bool.false_ne_true ((ch23.out h).2.2.2.2.2.2.1)
             have e24 : f24 = false := Bool.eq_false_iff.2 fun h => Bool.false_ne_true ((ch23.out (ch24.out h)).2.2.2.2.2.2.1)
             have e25 : f25 = false := Bool.eq_false_iff.2 fun h => Bool.false_ne_true ((ch23.out (ch24.out (ch25.out h))).2.2.2.2.2.2.1)
             subst e23 e24 e25
             have hS := hB.size
             refine .inl ?_
             unfold e16Upd Oper.wp
             go_simp
             refine (leafR_any (fun j => j < wo.heap.size) bOptional ⟨#[]⟩ w' (fun j h => Nat.lt_of_lt_of_le (Nat.lt_of_lt_of_le h HWS.out) hS)).mono ?_
             intro e w1 hO
             obtain ⟨o1, n1, c1, rfl, hr, hb⟩ := hO
             exact e16J.at f0 f1 f2 f3 f4 f5 f6 f7 f8 f9 f10 f11 f12 f13 f14 f15 f16 f17 f18 true true f21 f22 false false false (o45) (n45) (c45) (o48) (n48) (c48) (o51) (n51) (c51) (o54) (n54) (c54) (o57) (n57) (c57) (o61) (n61) (c61) (o1) (n1) (c1) (o65) (n65) (c65) (H66) (o67) (n67) (c67) rfl rfl (ch1) (ch2) (ch4) (ch5) (ch7) (ch8) (ch10) (ch11) (ch13) (ch14) (ch16) (ch17) (ch18) (Lib.hid (by simp)) (ch22) (Lib.hid (by simp)) (Lib.hid (by simp)) (Lib.hid (by simp)) (hB.trans (hb.mono hS)) (fun h0 => (r45 h0).later hb) (fun h0 => (r48 h0).later hb) (fun h0 => (r51 h0).later hb) (fun h0 => (r54 h0).later hb) (fun h0 => (r57 h0).later hb) (fun h0 => (r61 h0).later hb) (fun h0 => hr) (fun h0 => (r65 h0).later hb) (by simp) (by simp)
           · have ho' := ho
             simp at hu ho
             subst hu ho
             clear ha
             have e22 : f22 = false := Bool.eq_false_iff.2 fun h => Bool.false_ne_true ((ch22.out h))
             have e23 : f23 = false := Bool.eq_false_iff.2 fun h => Bool.false_ne_true ((ch22.out (ch23.out h).2.2.2.2.2.2.2))
             have e24 : f24 = false := Bool.eq_false_iff.2 fun h => Bool.false_ne_true ((ch22.out (ch23.out (ch24.out h)).2.2.2.2.2.2.2))
             have e25 : f25 = false := Bool.eq_false_iff.2 fun h => Bool.false_ne_true ((ch22.out (ch23.out (ch24.out (ch25.out h))).2.2.2.2.2.2.2))
             subst e22 e23 e24 e25
             refine .inl ?_
             unfold e16Upd Oper.wp
             go_simp
             exact e16J.at f0 f1 f2 f3 f4 f5 f6 f7 f8 f9 f10 f11 f12 f13 f14 f15 f16 f17 f18 f19 f20 true false false false false (o45) (n45) (c45) (o48) (n48) (c48) (o51) (n51) (c51) (o54) (n54) (c54) (o57) (n57) (c57) (o61) (n61) (c61) (o63) (n63) (c63) (o65) (n65) (c65) (H66) (o67) (n67) (c67) rfl rfl (ch1) (ch2) (ch4) (ch5) (ch7) (ch8) (ch10) (ch11) (ch13) (ch14) (ch16) (ch17) (ch18) (ch20) (Lib.hid (by simp)) (Lib.hid (by simp)) (Lib.hid (by simp)) (Lib.hid (by simp)) (hB) (r45) (r48) (r51) (r54) (r57) (r61) (r63) (by simp) (by simp) (by simp)
           · have ho' := ho
             simp at hu ho
             subst hu ho
             simp [Region.binds] at ha
             obtain rfl : f21 = true := by simp only [ha]
             clear ha
             have e23 : f23 = false := Bool.eq_false_iff.2 fun h => Bool.false_ne_true ((ch23.out h).2.2.2.2.2.2.2)
             have e24 : f24 = false := Bool.eq_false_iff.2 fun h => Bool.false_ne_true ((ch23.out (ch24.out h)).2.2.2.2.2.2.2)
             have e25 : f25 = false := Bool.eq_false_iff.2 fun h => Bool.false_ne_true ((ch23.out (ch24.out (ch25.out h))).2.2.2.2.2.2.2)
             subst e23 e24 e25
             have hS := hB.size
             refine .inl ?_
             unfold e16Upd Oper.wp
             go_simp
             refine (branchR_any (fun j => j < wo.heap.size) bExclusions _ _ w' (HXR.out.later hB) (fun j h => Nat.lt_of_lt_of_le (Nat.lt_of_lt_of_le h HWS.out) hS)).mono ?_
             intro e w1 hO
             obtain ⟨o1, n1, c1, rfl, hr, hb⟩ := hO
             exact e16J.at f0 f1 f2 f3 f4 f5 f6 f7 f8 f9 f10 f11 f12 f13 f14 f15 f16 f17 f18 f19 f20 true true false false false (o45) (n45) (c45) (o48) (n48) (c48) (o51) (n51) (c51) (o54) (n54) (c54) (o57) (n57) (c57) (o61) (n61) (c61) (o63) (n63) (c63) (o1) (n1) (c1) (H66) (o67) (n67) (c67) rfl rfl (ch1) (ch2) (ch4) (ch5) (ch7) (ch8) (ch10) (ch11) (ch13) (ch14) (ch16) (ch17) (ch18) (ch20) (Lib.hid (by simp)) (Lib.hid (by simp)) (Lib.hid (by simp)) (Lib.hid (by simp)) (hB.trans (hb.mono hS)) (fun h0 => (r45 h0).later hb) (fun h0 => (r48 h0).later hb) (fun h0 => (r51 h0).later hb) (fun h0 => (r54 h0).later hb) (fun h0 => (r57 h0).later hb) (fun h0 => (r61 h0).later hb) (fun h0 => (r63 h0).later hb) (fun h0 => hr) (by simp) (by simp)
           · have ho' := ho
             simp at hu ho
             subst hu ho
             simp [Region.binds] at ha
             obtain rfl : f2 = true := by simp only [ha]
             obtain rfl : f5 = true := by simp only [ha]
             obtain rfl : f8 = true := by simp only [ha]
             obtain rfl : f11 = true := by simp only [ha]
             obtain rfl : f14 = true := by simp only [ha]
             obtain rfl : f18 = true := by simp only [ha]
             obtain rfl : f20 = true := by simp only [ha]
             obtain rfl : f22 = true := by simp only [ha]
             clear ha
             obtain rfl : f21 = true := (ch22.out rfl)
             obtain rfl : f19 = true := (ch20.out rfl)
             obtain rfl : f17 = true := (ch18.out rfl)
             obtain rfl : f16 = true := (ch17.out (ch18.out rfl))
             obtain rfl : f15 = true := (ch16.out (ch17.out (ch18.out rfl)))
             obtain rfl : f13 = true := (ch14.out rfl)
             obtain rfl : f12 = true := (ch13.out (ch14.out rfl))
             obtain rfl : f10 = true := (ch11.out rfl)
             obtain rfl : f9 = true := (ch10.out (ch11.out rfl))
             obtain rfl : f7 = true := (ch8.out rfl)
             obtain rfl : f6 = true := (ch7.out (ch8.out rfl))
             obtain rfl : f4 = true := (ch5.out rfl)
             obtain rfl : f3 = true := (ch4.out (ch5.out rfl))
             obtain rfl : f1 = true := (ch2.out rfl)
             obtain rfl : f0 = true := (ch1.out (ch2.out rfl))
             have e24 : f24 = false := Bool.eq_false_iff.2 fun h => Bool.false_ne_true ((ch24.out h))
             have e25 : f25 = false := Bool.eq_false_iff.2 fun h => Bool.false_ne_true ((ch24.out (ch25.out h)))
             subst e24 e25
             have hS := hB.size
             have hal := fun o => (Below.refl w'.heap.size w').alloc (Nat.le_refl w'.heap.size) o
             refine .inl ?_
             unfold e16Upd Oper.wp
             go_simp
             exact e16J.at true true true true true true true true true true true true true true true true true true true true true true true true false false (o45) (n45) (c45) (o48) (n48) (c48) (o51) (n51) (c51) (o54) (n54) (c54) (o57) (n57) (c57) (o61) (n61) (c61) (o63) (n63) (c63) (o65) (n65) (c65) (w'.heap.size) (o67) (n67) (c67) rfl rfl (Lib.hid (by simp)) (Lib.hid (by simp)) (Lib.hid (by simp)) (Lib.hid (by simp)) (Lib.hid (by simp)) (Lib.hid (by simp)) (Lib.hid (by simp)) (Lib.hid (by simp)) (Lib.hid (by simp)) (Lib.hid (by simp)) (Lib.hid (by simp)) (Lib.hid (by simp)) (Lib.hid (by simp)) (Lib.hid (by simp)) (Lib.hid (by simp)) (Lib.hid (by simp)) (Lib.hid (by simp)) (Lib.hid (by simp)) (hB.trans ((hal _).mono hS)) (fun h0 => (r45 h0).later (hal _)) (fun h0 => (r48 h0).later (hal _)) (fun h0 => (r51 h0).later (hal _)) (fun h0 => (r54 h0).later (hal _)) (fun h0 => (r57 h0).later (hal _)) (fun h0 => (r61 h0).later (hal _)) (fun h0 => (r63 h0).later (hal _)) (fun h0 => (r65 h0).later (hal _)) (fun h0 => rows_lit [.slice o45 n45 c45, .slice o48 n48 c48, .slice o51 n51 c51, .slice o54 n54 c54, .slice o57 n57 c57, .slice o61 n61 c61, .slice o63 n63 c63, .slice o65 n65 c65] [leafT bGroup d.group, leafT bArtifact d.artifact, leafT bVersion d.version, leafT bType d.type, leafT bClassifier d.classifier, leafT bScope (bs (wordB d.scope)), leafT bOptional ⟨#[]⟩, branchT bExclusions TS] w' _ _ rfl rfl (by simp [maxLen]) (rows8 (r45 rfl) (r48 rfl) (r51 rfl) (r54 rfl) (r57 rfl) (r61 rfl) (r63 rfl) (r65 rfl))) (by simp)
           · have ho' := ho
             simp at hu ho
             subst hu ho
             simp [Region.binds] at ha
             obtain rfl : f23 = true := by simp only [ha]
             clear ha
             obtain rfl : f22 = true := (ch23.out rfl).2.2.2.2.2.2.2
             obtain rfl : f21 = true := (ch22.out (ch23.out rfl).2.2.2.2.2.2.2)
             obtain rfl : f20 = true := (ch23.out rfl).2.2.2.2.2.2.1
             obtain rfl : f19 = true := (ch20.out (ch23.out rfl).2.2.2.2.2.2.1)
             obtain rfl : f18 = true := (ch23.out rfl).2.2.2.2.2.1
             obtain rfl : f17 = true := (ch18.out (ch23.out rfl).2.2.2.2.2.1)
             obtain rfl : f16 = true := (ch17.out (ch18.out (ch23.out rfl).2.2.2.2.2.1))
             obtain rfl : f15 = true := (ch16.out (ch17.out (ch18.out (ch23.out rfl).2.2.2.2.2.1)))
             obtain rfl : f14 = true := (ch23.out rfl).2.2.2.2.1
             obtain rfl : f13 = true := (ch14.out (ch23.out rfl).2.2.2.2.1)
             obtain rfl : f12 = true := (ch13.out (ch14.out (ch23.out rfl).2.2.2.2.1))
             obtain rfl : f11 = true := (ch23.out rfl).2.2.2.1
             obtain rfl : f10 = true := (ch11.out (ch23.out rfl).2.2.2.1)
             obtain rfl : f9 = true := (ch10.out (ch11.out (ch23.out rfl).2.2.2.1))
             obtain rfl : f8 = true := (ch23.out rfl).2.2.1
             obtain rfl : f7 = true := (ch8.out (ch23.out rfl).2.2.1)
             obtain rfl : f6 = true := (ch7.out (ch8.out (ch23.out rfl).2.2.1))
             obtain rfl : f5 = true := (ch23.out rfl).2.1
             obtain rfl : f4 = true := (ch5.out (ch23.out rfl).2.1)
             obtain rfl : f3 = true := (ch4.out (ch5.out (ch23.out rfl).2.1))
             obtain rfl : f2 = true := (ch23.out rfl).1
             obtain rfl : f1 = true := (ch2.out (ch23.out rfl).1)
             obtain rfl : f0 = true := (ch1.out (ch2.out (ch23.out rfl).1))
             have e25 : f25 = false := Bool.eq_false_iff.2 fun h => Bool.false_ne_true ((ch25.out h))
             subst e25
             have hS := hB.size
             refine .inl ?_
             unfold e16Upd Oper.wp
             go_simp
             refine (allR_any (fun j => j < wo.heap.size) _ _ w' (r66 rfl) (fun j h => Nat.lt_of_lt_of_le (Nat.lt_of_lt_of_le h HWS.out) hS) (by simp) HL8.out).mono ?_
             intro e w1 hO
             obtain ⟨o1, n1, c1, rfl, hr, hb⟩ := hO
             exact e16J.at true true true true true true true true true true true true true true true true true true true true true true true true true false (o45) (n45) (c45) (o48) (n48) (c48) (o51) (n51) (c51) (o54) (n54) (c54) (o57) (n57) (c57) (o61) (n61) (c61) (o63) (n63) (c63) (o65) (n65) (c65) (H66) (o1) (n1) (c1) rfl rfl (Lib.hid (by simp)) (Lib.hid (by simp)) (Lib.hid (by simp)) (Lib.hid (by simp)) (Lib.hid (by simp)) (Lib.hid (by simp)) (Lib.hid (by simp)) (Lib.hid (by simp)) (Lib.hid (by simp)) (Lib.hid (by simp)) (Lib.hid (by simp)) (Lib.hid (by simp)) (Lib.hid (by simp)) (Lib.hid (by simp)) (Lib.hid (by simp)) (Lib.hid (by simp)) (Lib.hid (by simp)) (Lib.hid (by simp)) (hB.trans (hb.mono hS)) (fun h0 => (r45 h0).later hb) (fun h0 => (r48 h0).later hb) (fun h0 => (r51 h0).later hb) (fun h0 => (r54 h0).later hb) (fun h0 => (r57 h0).later hb) (fun h0 => (r61 h0).later hb) (fun h0 => (r63 h0).later hb) (fun h0 => (r65 h0).later hb) (fun h0 => (r66 h0).later hb) (fun h0 => hr)
           · have ho' := ho
             simp at hu ho
             subst hu ho
             simp [Region.binds] at ha
             obtain rfl : f24 = true := by simp only [ha]
             clear ha
             obtain rfl : f23 = true := (ch24.out rfl)
             obtain rfl : f22 = true := (ch23.out (ch24.out rfl)).2.2.2.2.2.2.2
             obtain rfl : f21 = true := (ch22.out (ch23.out (ch24.out rfl)).2.2.2.2.2.2.2)
             obtain rfl : f20 = true := (ch23.out (ch24.out rfl)).2.2.2.2.2.2.1
             obtain rfl : f19 = true := (ch20.out (ch23.out (ch24.out rfl)).2.2.2.2.2.2.1)
             obtain rfl : f18 = true := (ch23.out (ch24.out rfl)).2.2.2.2.2.1
             obtain rfl : f17 = true := (ch18.out (ch23.out (ch24.out rfl)).2.2.2.2.2.1)
             obtain rfl : f16 = true := (ch17.out (ch18.out (ch23.out (ch24.out rfl)).2.2.2.2.2.1))
             obtain rfl : f15 = true := (ch16.out (ch17.out (ch18.out (ch23.out (ch24.out rfl)).2.2.2.2.2.1)))
             obtain rfl : f14 = true := (ch23.out (ch24.out rfl)).2.2.2.2.1
             obtain rfl : f13 = true := (ch14.out (ch23.out (ch24.out rfl)).2.2.2.2.1)
             obtain rfl : f12 = true := (ch13.out (ch14.out (ch23.out (ch24.out rfl)).2.2.2.2.1))
             obtain rfl : f11 = true := (ch23.out (ch24.out rfl)).2.2.2.1
             obtain rfl : f10 = true := (ch11.out (ch23.out (ch24.out rfl)).2.2.2.1)
             obtain rfl : f9 = true := (ch10.out (ch11.out (ch23.out (ch24.out rfl)).2.2.2.1))
             obtain rfl : f8 = true := (ch23.out (ch24.out rfl)).2.2.1
             obtain rfl : f7 = true := (ch8.out (ch23.out (ch24.out rfl)).2.2.1)
             obtain rfl : f6 = true := (ch7.out (ch8.out (ch23.out (ch24.out rfl)).2.2.1))
             obtain rfl : f5 = true := (ch23.out (ch24.out rfl)).2.1
             obtain rfl : f4 = true := (ch5.out (ch23.out (ch24.out rfl)).2.1)
             obtain rfl : f3 = true := (ch4.out (ch5.out (ch23.out (ch24.out rfl)).2.1))
             obtain rfl : f2 = true := (ch23.out (ch24.out rfl)).1
             obtain rfl : f1 = true := (ch2.out (ch23.out (ch24.out rfl)).1)
             obtain rfl : f0 = true := (ch1.out (ch2.out (ch23.out (ch24.out rfl)).1))
             refine .inl ?_
             unfold e16Upd Oper.wp
             go_simp
             exact e16J.at true true true true true true true true true true true true true true true true true true true true true true true true true true (o45) (n45) (c45) (o48) (n48) (c48) (o51) (n51) (c51) (o54) (n54) (c54) (o57) (n57) (c57) (o61) (n61) (c61) (o63) (n63) (c63) (o65) (n65) (c65) (H66) (o67) (n67) (c67) rfl rfl (Lib.hid (by simp)) (Lib.hid (by simp)) (Lib.hid (by simp)) (Lib.hid (by simp)) (Lib.hid (by simp)) (Lib.hid (by simp)) (Lib.hid (by simp)) (Lib.hid (by simp)) (Lib.hid (by simp)) (Lib.hid (by simp)) (Lib.hid (by simp)) (Lib.hid (by simp)) (Lib.hid (by simp)) (Lib.hid (by simp)) (Lib.hid (by simp)) (Lib.hid (by simp)) (Lib.hid (by simp)) (Lib.hid (by simp)) (hB) (r45) (r48) (r51) (r54) (r57) (r61) (r63) (r65) (r66) (r67)
  · obtain rfl : k = l.length := by omega
    go_wp2_with fail
    have h0 : ∀ j, X j → j < wr.heap.size := fun j h => Nat.lt_of_lt_of_le (HXX.out j h) HRR.out.1.size
    have h1 := HRR.out.2.rowX HXX.out
    have h2 := branchR_any X bDependencies (.slice oa AL.length oc) _ wr h1 h0
    refine h2.mono ?_
    clear h0 h1 h2
    intro e w9 hO
    obtain ⟨o9, n9, c9, rfl, hr9, hb9⟩ := hO
    have HR9 := Lib.hid hr9
    have HB9 := Lib.hid (HRR.out.1.trans (hb9.mono HRR.out.1.size))
    clear hr9 hb9
    go_wp2
    go_ret
    refine ⟨_, _, _, rfl, ?_, HB9.out⟩
    have h1 := HR9.out
    rw [List.take_length] at h1
    unfold depsT
    rw [← HEL.out, List.map_map]
    exact h1

end Go.Proofs.YtbbbfjcikhpmbaaGreat
