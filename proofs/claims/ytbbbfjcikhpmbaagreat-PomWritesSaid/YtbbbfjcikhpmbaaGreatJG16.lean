/- The walk of the document's Write; the conditions stand in the theorem. -/
import Derived.Test.YtbbbfjcikhpmbaaGreatJG15

namespace Go.Proofs.YtbbbfjcikhpmbaaGreat
open Go Go.RowKit

theorem rows3 {X : Nat → Prop} {w : World} {v0 v1 v2 : Value} {t0 t1 t2 : List Tr} (h0 : RowX X w v0 t0) (h1 : RowX X w v1 t1) (h2 : RowX X w v2 t2) : ∀ (i : Nat) (x : Value) (ts : List Tr), [v0, v1, v2][i]? = some x → [t0, t1, t2][i]? = some ts → RowX X w x ts
 | 0, x, ts, hx, ht => by cases hx; cases ht; exact h0
 | 1, x, ts, hx, ht => by cases hx; cases ht; exact h1
 | 2, x, ts, hx, ht => by cases hx; cases ht; exact h2
 | i + 3, x, ts, hx, ht => by simp at hx
def w3Upd (B0 : Nat) (px py pz : S) (x0 x1 x2 x4 x5 x6 x7 x8 x9 x25 x26 x27 x28 x29 x30 x31 x32 x33 x34 x35 x36 x37 x38 x39 x40 x41 x42 x43 x44 x45 x46 x47 x48 x49 x50 x51 x52 x53 x54 x55 x56 x57 x58 x59 x60 x61 x62 x63 x64 x65 x66 x67 x68 x69 x70 x71 x72 : Value) (f0 f1 f2 f3 f4 f5 f6 f7 f8 f9 f10 f11 f12 f13 f14 f15 : Bool) (o13 : Option Addr) (n13 : Nat) (c13 : Nat) (o17 : Option Addr) (n17 : Nat) (c17 : Nat) (o21 : Option Addr) (n21 : Nat) (c21 : Nat) (H22 : Nat) (o23 : Option Addr) (n23 : Nat) (c23 : Nat) (o24 : Option Addr) (n24 : Nat) (c24 : Nat) : Act :=
 ⟨#[x0, x1, x2, cond f15 (.slice o24 n24 c24) (.slice none 0 0), x4, x5, x6, x7, x8, x9, cond f0 (.pointer (some ⟨B0, 1, none⟩)) undef, cond f1 (.pointer (some ⟨B0, 1, none⟩)) undef, cond f2 (.string px) undef, cond f3 (.slice o13 n13 c13) undef, cond f4 (.pointer (some ⟨B0, 1, none⟩)) undef, cond f5 (.pointer (some ⟨B0, 2, none⟩)) undef, cond f6 (.string py) undef, cond f7 (.slice o17 n17 c17) undef, cond f8 (.pointer (some ⟨B0, 1, none⟩)) undef, cond f9 (.pointer (some ⟨B0, 3, none⟩)) undef, cond f10 (.string pz) undef, cond f11 (.slice o21 n21 c21) undef, cond f12 (.slice (some ⟨H22, 0, none⟩) 3 3) undef, cond f13 (.slice o23 n23 c23) undef, cond f14 (.slice o24 n24 c24) undef, x25, x26, x27, x28, x29, x30, x31, x32, x33, x34, x35, x36, x37, x38, x39, x40, x41, x42, x43, x44, x45, x46, x47, x48, x49, x50, x51, x52, x53, x54, x55, x56, x57, x58, x59, x60, x61, x62, x63, x64, x65, x66, x67, x68, x69, x70, x71, x72], []⟩
inductive w3J (B0 : Nat) (px py pz : S) (V : World) (x0 x1 x2 x4 x5 x6 x7 x8 x9 x25 x26 x27 x28 x29 x30 x31 x32 x33 x34 x35 x36 x37 x38 x39 x40 x41 x42 x43 x44 x45 x46 x47 x48 x49 x50 x51 x52 x53 x54 x55 x56 x57 x58 x59 x60 x61 x62 x63 x64 x65 x66 x67 x68 x69 x70 x71 x72 : Value) : Array Bool → Act → World → Prop where
 | mk (f0 f1 f2 f3 f4 f5 f6 f7 f8 f9 f10 f11 f12 f13 f14 f15 : Bool) (o13 : Option Addr) (n13 : Nat) (c13 : Nat) (o17 : Option Addr) (n17 : Nat) (c17 : Nat) (o21 : Option Addr) (n21 : Nat) (c21 : Nat) (H22 : Nat) (o23 : Option Addr) (n23 : Nat) (c23 : Nat) (o24 : Option Addr) (n24 : Nat) (c24 : Nat) (w' : World) (ch1 : Hid (f1 = true → f0 = true)) (ch2 : Hid (f2 = true → f1 = true)) (ch3 : Hid (f3 = true → f2 = true)) (ch5 : Hid (f5 = true → f4 = true)) (ch6 : Hid (f6 = true → f5 = true)) (ch7 : Hid (f7 = true → f6 = true)) (ch9 : Hid (f9 = true → f8 = true)) (ch10 : Hid (f10 = true → f9 = true)) (ch11 : Hid (f11 = true → f10 = true)) (ch12 : Hid (f12 = true → f3 = true ∧ f7 = true ∧ f11 = true)) (ch13 : Hid (f13 = true → f12 = true)) (ch14 : Hid (f14 = true → f13 = true)) (ch15 : Hid (f15 = true → f14 = true)) (hB : Below V.heap.size V w') (r13 : (f3 = true → RowX (fun j => j < V.heap.size) w' (.slice o13 n13 c13) (leafT bGroup px))) (r17 : (f7 = true → RowX (fun j => j < V.heap.size) w' (.slice o17 n17 c17) (leafT bArtifact py))) (r21 : (f11 = true → RowX (fun j => j < V.heap.size) w' (.slice o21 n21 c21) (leafT bVersion pz))) (r22 : (f12 = true → RowsX (fun j => j < V.heap.size) w' (.slice (some ⟨H22, 0, none⟩) 3 3) [leafT bGroup px, leafT bArtifact py, leafT bVersion pz])) (r23 : (f13 = true → RowX (fun j => j < V.heap.size) w' (.slice o23 n23 c23) ([leafT bGroup px, leafT bArtifact py, leafT bVersion pz].flatten))) (r24 : (f14 = true → RowX (fun j => j < V.heap.size) w' (.slice o24 n24 c24) (branchT bParent ([leafT bGroup px, leafT bArtifact py, leafT bVersion pz].flatten)))) : w3J B0 px py pz V x0 x1 x2 x4 x5 x6 x7 x8 x9 x25 x26 x27 x28 x29 x30 x31 x32 x33 x34 x35 x36 x37 x38 x39 x40 x41 x42 x43 x44 x45 x46 x47 x48 x49 x50 x51 x52 x53 x54 x55 x56 x57 x58 x59 x60 x61 x62 x63 x64 x65 x66 x67 x68 x69 x70 x71 x72 #[f0, f1, f2, f3, f4, f5, f6, f7, f8, f9, f10, f11, f12, f13, f14, f15] (w3Upd B0 px py pz x0 x1 x2 x4 x5 x6 x7 x8 x9 x25 x26 x27 x28 x29 x30 x31 x32 x33 x34 x35 x36 x37 x38 x39 x40 x41 x42 x43 x44 x45 x46 x47 x48 x49 x50 x51 x52 x53 x54 x55 x56 x57 x58 x59 x60 x61 x62 x63 x64 x65 x66 x67 x68 x69 x70 x71 x72 f0 f1 f2 f3 f4 f5 f6 f7 f8 f9 f10 f11 f12 f13 f14 f15 o13 n13 c13 o17 n17 c17 o21 n21 c21 H22 o23 n23 c23 o24 n24 c24) w'
theorem w3J.at {B0 : Nat} {px py pz : S} {V : World} {x0 x1 x2 x4 x5 x6 x7 x8 x9 x25 x26 x27 x28 x29 x30 x31 x32 x33 x34 x35 x36 x37 x38 x39 x40 x41 x42 x43 x44 x45 x46 x47 x48 x49 x50 x51 x52 x53 x54 x55 x56 x57 x58 x59 x60 x61 x62 x63 x64 x65 x66 x67 x68 x69 x70 x71 x72 : Value} {listed : Array Bool} {atx : Act} {w' : World} (f0 f1 f2 f3 f4 f5 f6 f7 f8 f9 f10 f11 f12 f13 f14 f15 : Bool) (o13 : Option Addr) (n13 : Nat) (c13 : Nat) (o17 : Option Addr) (n17 : Nat) (c17 : Nat) (o21 : Option Addr) (n21 : Nat) (c21 : Nat) (H22 : Nat) (o23 : Option Addr) (n23 : Nat) (c23 : Nat) (o24 : Option Addr) (n24 : Nat) (c24 : Nat) (hl : listed = #[f0, f1, f2, f3, f4, f5, f6, f7, f8, f9, f10, f11, f12, f13, f14, f15]) (ha : atx = w3Upd B0 px py pz x0 x1 x2 x4 x5 x6 x7 x8 x9 x25 x26 x27 x28 x29 x30 x31 x32 x33 x34 x35 x36 x37 x38 x39 x40 x41 x42 x43 x44 x45 x46 x47 x48 x49 x50 x51 x52 x53 x54 x55 x56 x57 x58 x59 x60 x61 x62 x63 x64 x65 x66 x67 x68 x69 x70 x71 x72 f0 f1 f2 f3 f4 f5 f6 f7 f8 f9 f10 f11 f12 f13 f14 f15 o13 n13 c13 o17 n17 c17 o21 n21 c21 H22 o23 n23 c23 o24 n24 c24) (ch1 : Hid (f1 = true → f0 = true)) (ch2 : Hid (f2 = true → f1 = true)) (ch3 : Hid (f3 = true → f2 = true)) (ch5 : Hid (f5 = true → f4 = true)) (ch6 : Hid (f6 = true → f5 = true)) (ch7 : Hid (f7 = true → f6 = true)) (ch9 : Hid (f9 = true → f8 = true)) (ch10 : Hid (f10 = true → f9 = true)) (ch11 : Hid (f11 = true → f10 = true)) (ch12 : Hid (f12 = true → f3 = true ∧ f7 = true ∧ f11 = true)) (ch13 : Hid (f13 = true → f12 = true)) (ch14 : Hid (f14 = true → f13 = true)) (ch15 : Hid (f15 = true → f14 = true)) (hB : Below V.heap.size V w') (r13 : (f3 = true → RowX (fun j => j < V.heap.size) w' (.slice o13 n13 c13) (leafT bGroup px))) (r17 : (f7 = true → RowX (fun j => j < V.heap.size) w' (.slice o17 n17 c17) (leafT bArtifact py))) (r21 : (f11 = true → RowX (fun j => j < V.heap.size) w' (.slice o21 n21 c21) (leafT bVersion pz))) (r22 : (f12 = true → RowsX (fun j => j < V.heap.size) w' (.slice (some ⟨H22, 0, none⟩) 3 3) [leafT bGroup px, leafT bArtifact py, leafT bVersion pz])) (r23 : (f13 = true → RowX (fun j => j < V.heap.size) w' (.slice o23 n23 c23) ([leafT bGroup px, leafT bArtifact py, leafT bVersion pz].flatten))) (r24 : (f14 = true → RowX (fun j => j < V.heap.size) w' (.slice o24 n24 c24) (branchT bParent ([leafT bGroup px, leafT bArtifact py, leafT bVersion pz].flatten)))) : w3J B0 px py pz V x0 x1 x2 x4 x5 x6 x7 x8 x9 x25 x26 x27 x28 x29 x30 x31 x32 x33 x34 x35 x36 x37 x38 x39 x40 x41 x42 x43 x44 x45 x46 x47 x48 x49 x50 x51 x52 x53 x54 x55 x56 x57 x58 x59 x60 x61 x62 x63 x64 x65 x66 x67 x68 x69 x70 x71 x72 listed atx w' := by
 subst hl ha
 exact .mk f0 f1 f2 f3 f4 f5 f6 f7 f8 f9 f10 f11 f12 f13 f14 f15 o13 n13 c13 o17 n17 c17 o21 n21 c21 H22 o23 n23 c23 o24 n24 c24 w' ch1 ch2 ch3 ch5 ch6 ch7 ch9 ch10 ch11 ch12 ch13 ch14 ch15 hB r13 r17 r21 r22 r23 r24
theorem RowX.keep {X : Nat → Prop} {w w' : World} {v : Value} {ts : List Tr} (h : RowX X w v ts) (hk : KeptX X w w') : RowX X w' v ts := by
 obtain ⟨R, h1, h2, h3⟩ := h
 exact ⟨R, h1, h2.keep hk (fun _ _ h => h), fun y hy => (h3 y hy).keep hk (fun _ _ h => h)⟩
def w12Upd (B0 : Nat) (dg da dv dk : S) (lo : Option Addr) (ln lc : Nat) (eo : Option Addr) (en ec : Nat) (a2 : Option Addr) (mn a5 : Nat) (a3 : Option Addr) (dn a6 : Nat) (x0 x1 x2 x3 x4 x5 x6 x7 x8 x9 x10 x11 x12 x13 x14 x15 x16 x17 x18 x19 x20 x21 x22 x23 x24 x25 x26 x27 x28 x29 x30 x31 x32 x33 x34 x35 x36 x37 x38 x39 x40 x41 x42 x43 x44 x45 x46 x47 : Value) (f0 f1 f2 f3 f4 f5 f6 f7 f8 f9 f10 f11 f12 f13 f14 f15 f16 f17 f18 f19 f20 f21 f22 f23 f24 _f25 : Bool) (o51 : Option Addr) (n51 : Nat) (c51 : Nat) (o54 : Option Addr) (n54 : Nat) (c54 : Nat) (o57 : Option Addr) (n57 : Nat) (c57 : Nat) (o60 : Option Addr) (n60 : Nat) (c60 : Nat) (o62 : Option Addr) (n62 : Nat) (c62 : Nat) (o65 : Option Addr) (n65 : Nat) (c65 : Nat) (o66 : Option Addr) (n66 : Nat) (c66 : Nat) (o69 : Option Addr) (n69 : Nat) (c69 : Nat) (H70 : Nat) (o71 : Option Addr) (n71 : Nat) (c71 : Nat) : Act :=
 ⟨#[x0, x1, x2, x3, x4, x5, x6, x7, x8, x9, x10, x11, x12, x13, x14, x15, x16, x17, x18, x19, x20, x21, x22, x23, x24, x25, x26, x27, x28, x29, x30, x31, x32, x33, x34, x35, x36, x37, x38, x39, x40, x41, x42, x43, x44, x45, x46, x47, cond f0 (.slice lo ln lc) undef, cond f1 (.pointer (some ⟨B0, 4, none⟩)) undef, cond f2 (.string dg) undef, cond f3 (.slice o51 n51 c51) undef, cond f4 (.pointer (some ⟨B0, 5, none⟩)) undef, cond f5 (.string da) undef, cond f6 (.slice o54 n54 c54) undef, cond f7 (.pointer (some ⟨B0, 6, none⟩)) undef, cond f8 (.string dv) undef, cond f9 (.slice o57 n57 c57) undef, cond f10 (.pointer (some ⟨B0, 7, none⟩)) undef, cond f11 (.string dk) undef, cond f12 (.slice o60 n60 c60) undef, cond f13 (.slice eo en ec) undef, cond f14 (.slice o62 n62 c62) undef, cond f15 (.pointer (some ⟨B0, 9, none⟩)) undef, cond f16 (.slice a2 mn a5) undef, cond f17 (.slice o65 n65 c65) undef, cond f18 (.slice o66 n66 c66) undef, cond f19 (.pointer (some ⟨B0, 10, none⟩)) undef, cond f20 (.slice a3 dn a6) undef, cond f21 (.slice o69 n69 c69) undef, cond f22 (.slice (some ⟨H70, 0, none⟩) 8 8) undef, cond f23 (.slice o71 n71 c71) undef, cond f24 (.agg #[.string (bs bProject), .slice none 0 0, .slice o71 n71 c71, .string ⟨#[]⟩]) undef], []⟩
inductive w12J (B0 B1 S0 : Nat) (hp : Bool) (px py pz dg da dv dk : S) (dm dd : List Dep) (ps : List Tr) (lo : Option Addr) (ln lc : Nat) (eo : Option Addr) (en ec : Nat) (a2 : Option Addr) (mn a5 : Nat) (a3 : Option Addr) (dn a6 : Nat) (V : World) (x0 x1 x2 x3 x4 x5 x6 x7 x8 x9 x10 x11 x12 x13 x14 x15 x16 x17 x18 x19 x20 x21 x22 x23 x24 x25 x26 x27 x28 x29 x30 x31 x32 x33 x34 x35 x36 x37 x38 x39 x40 x41 x42 x43 x44 x45 x46 x47 : Value) : Array Bool → Act → World → Prop where
 | mk (f0 f1 f2 f3 f4 f5 f6 f7 f8 f9 f10 f11 f12 f13 f14 f15 f16 f17 f18 f19 f20 f21 f22 f23 f24 f25 : Bool) (o51 : Option Addr) (n51 : Nat) (c51 : Nat) (o54 : Option Addr) (n54 : Nat) (c54 : Nat) (o57 : Option Addr) (n57 : Nat) (c57 : Nat) (o60 : Option Addr) (n60 : Nat) (c60 : Nat) (o62 : Option Addr) (n62 : Nat) (c62 : Nat) (o65 : Option Addr) (n65 : Nat) (c65 : Nat) (o66 : Option Addr) (n66 : Nat) (c66 : Nat) (o69 : Option Addr) (n69 : Nat) (c69 : Nat) (H70 : Nat) (o71 : Option Addr) (n71 : Nat) (c71 : Nat) (w' : World) (ch2 : Hid (f2 = true → f1 = true)) (ch3 : Hid (f3 = true → f2 = true)) (ch5 : Hid (f5 = true → f4 = true)) (ch6 : Hid (f6 = true → f5 = true)) (ch8 : Hid (f8 = true → f7 = true)) (ch9 : Hid (f9 = true → f8 = true)) (ch11 : Hid (f11 = true → f10 = true)) (ch12 : Hid (f12 = true → f11 = true)) (ch14 : Hid (f14 = true → f13 = true)) (ch16 : Hid (f16 = true → f15 = true)) (ch17 : Hid (f17 = true → f16 = true)) (ch18 : Hid (f18 = true → f17 = true)) (ch20 : Hid (f20 = true → f19 = true)) (ch21 : Hid (f21 = true → f20 = true)) (ch22 : Hid (f22 = true → f0 = true ∧ f3 = true ∧ f6 = true ∧ f9 = true ∧ f12 = true ∧ f14 = true ∧ f18 = true ∧ f21 = true)) (ch23 : Hid (f23 = true → f22 = true)) (ch24 : Hid (f24 = true → f23 = true)) (ch25 : Hid (f25 = true → f24 = true ∧ f0 = true ∧ f1 = true ∧ f2 = true ∧ f3 = true ∧ f4 = true ∧ f5 = true ∧ f6 = true ∧ f7 = true ∧ f8 = true ∧ f9 = true ∧ f10 = true ∧ f11 = true ∧ f12 = true ∧ f13 = true ∧ f14 = true ∧ f15 = true ∧ f16 = true ∧ f17 = true ∧ f18 = true ∧ f19 = true ∧ f20 = true ∧ f21 = true ∧ f22 = true ∧ f23 = true)) (hB : (f25 = false → Below V.heap.size V w')) (r51 : (f3 = true → f25 = false → RowX (fun j => j < S0) w' (.slice o51 n51 c51) (leafT bGroup dg))) (r54 : (f6 = true → f25 = false → RowX (fun j => j < S0) w' (.slice o54 n54 c54) (leafT bArtifact da))) (r57 : (f9 = true → f25 = false → RowX (fun j => j < S0) w' (.slice o57 n57 c57) (leafT bVersion dv))) (r60 : (f12 = true → f25 = false → RowX (fun j => j < S0) w' (.slice o60 n60 c60) (leafT bPackaging dk))) (r62 : (f14 = true → f25 = false → RowX (fun j => j < S0) w' (.slice o62 n62 c62) (branchT bProperties ps))) (r65 : (f17 = true → f25 = false → RowX (fun j => j < S0) w' (.slice o65 n65 c65) (depsT dm))) (r66 : (f18 = true → f25 = false → RowX (fun j => j < S0) w' (.slice o66 n66 c66) (branchT bManagement (depsT dm)))) (r69 : (f21 = true → f25 = false → RowX (fun j => j < S0) w' (.slice o69 n69 c69) (depsT dd))) (r70 : (f22 = true → f25 = false → RowsX (fun j => j < S0) w' (.slice (some ⟨H70, 0, none⟩) 8 8) [parentL hp ⟨px, py, pz⟩, leafT bGroup dg, leafT bArtifact da, leafT bVersion dv, leafT bPackaging dk, branchT bProperties ps, branchT bManagement (depsT dm), depsT dd])) (r71 : (f23 = true → f25 = false → RowX (fun j => j < S0) w' (.slice o71 n71 c71) ([parentL hp ⟨px, py, pz⟩, leafT bGroup dg, leafT bArtifact da, leafT bVersion dv, leafT bPackaging dk, branchT bProperties ps, branchT bManagement (depsT dm), depsT dd].flatten))) (r99 : (f25 = true → (Box w' B1 [.string (bs bProject), .slice none 0 0, .slice o71 n71 c71, .string ⟨#[]⟩] ∧ RowX (fun j => j < S0) w' (.slice o71 n71 c71) ([parentL hp ⟨px, py, pz⟩, leafT bGroup dg, leafT bArtifact da, leafT bVersion dv, leafT bPackaging dk, branchT bProperties ps, branchT bManagement (depsT dm), depsT dd].flatten) ∧ Below B1 V w'))) : w12J B0 B1 S0 hp px py pz dg da dv dk dm dd ps lo ln lc eo en ec a2 mn a5 a3 dn a6 V x0 x1 x2 x3 x4 x5 x6 x7 x8 x9 x10 x11 x12 x13 x14 x15 x16 x17 x18 x19 x20 x21 x22 x23 x24 x25 x26 x27 x28 x29 x30 x31 x32 x33 x34 x35 x36 x37 x38 x39 x40 x41 x42 x43 x44 x45 x46 x47 #[f0, f1, f2, f3, f4, f5, f6, f7, f8, f9, f10, f11, f12, f13, f14, f15, f16, f17, f18, f19, f20, f21, f22, f23, f24, f25] (w12Upd B0 dg da dv dk lo ln lc eo en ec a2 mn a5 a3 dn a6 x0 x1 x2 x3 x4 x5 x6 x7 x8 x9 x10 x11 x12 x13 x14 x15 x16 x17 x18 x19 x20 x21 x22 x23 x24 x25 x26 x27 x28 x29 x30 x31 x32 x33 x34 x35 x36 x37 x38 x39 x40 x41 x42 x43 x44 x45 x46 x47 f0 f1 f2 f3 f4 f5 f6 f7 f8 f9 f10 f11 f12 f13 f14 f15 f16 f17 f18 f19 f20 f21 f22 f23 f24 f25 o51 n51 c51 o54 n54 c54 o57 n57 c57 o60 n60 c60 o62 n62 c62 o65 n65 c65 o66 n66 c66 o69 n69 c69 H70 o71 n71 c71) w'
theorem w12J.at {B0 B1 S0 : Nat} {hp : Bool} {px py pz dg da dv dk : S} {dm dd : List Dep} {ps : List Tr} {lo : Option Addr} {ln lc : Nat} {eo : Option Addr} {en ec : Nat} {a2 : Option Addr} {mn a5 : Nat} {a3 : Option Addr} {dn a6 : Nat} {V : World} {x0 x1 x2 x3 x4 x5 x6 x7 x8 x9 x10 x11 x12 x13 x14 x15 x16 x17 x18 x19 x20 x21 x22 x23 x24 x25 x26 x27 x28 x29 x30 x31 x32 x33 x34 x35 x36 x37 x38 x39 x40 x41 x42 x43 x44 x45 x46 x47 : Value} {listed : Array Bool} {atx : Act} {w' : World} (f0 f1 f2 f3 f4 f5 f6 f7 f8 f9 f10 f11 f12 f13 f14 f15 f16 f17 f18 f19 f20 f21 f22 f23 f24 f25 : Bool) (o51 : Option Addr) (n51 : Nat) (c51 : Nat) (o54 : Option Addr) (n54 : Nat) (c54 : Nat) (o57 : Option Addr) (n57 : Nat) (c57 : Nat) (o60 : Option Addr) (n60 : Nat) (c60 : Nat) (o62 : Option Addr) (n62 : Nat) (c62 : Nat) (o65 : Option Addr) (n65 : Nat) (c65 : Nat) (o66 : Option Addr) (n66 : Nat) (c66 : Nat) (o69 : Option Addr) (n69 : Nat) (c69 : Nat) (H70 : Nat) (o71 : Option Addr) (n71 : Nat) (c71 : Nat) (hl : listed = #[f0, f1, f2, f3, f4, f5, f6, f7, f8, f9, f10, f11, f12, f13, f14, f15, f16, f17, f18, f19, f20, f21, f22, f23, f24, f25]) (ha : atx = w12Upd B0 dg da dv dk lo ln lc eo en ec a2 mn a5 a3 dn a6 x0 x1 x2 x3 x4 x5 x6 x7 x8 x9 x10 x11 x12 x13 x14 x15 x16 x17 x18 x19 x20 x21 x22 x23 x24 x25 x26 x27 x28 x29 x30 x31 x32 x33 x34 x35 x36 x37 x38 x39 x40 x41 x42 x43 x44 x45 x46 x47 f0 f1 f2 f3 f4 f5 f6 f7 f8 f9 f10 f11 f12 f13 f14 f15 f16 f17 f18 f19 f20 f21 f22 f23 f24 f25 o51 n51 c51 o54 n54 c54 o57 n57 c57 o60 n60 c60 o62 n62 c62 o65 n65 c65 o66 n66 c66 o69 n69 c69 H70 o71 n71 c71) (ch2 : Hid (f2 = true → f1 = true)) (ch3 : Hid (f3 = true → f2 = true)) (ch5 : Hid (f5 = true → f4 = true)) (ch6 : Hid (f6 = true → f5 = true)) (ch8 : Hid (f8 = true → f7 = true)) (ch9 : Hid (f9 = true → f8 = true)) (ch11 : Hid (f11 = true → f10 = true)) (ch12 : Hid (f12 = true → f11 = true)) (ch14 : Hid (f14 = true → f13 = true)) (ch16 : Hid (f16 = true → f15 = true)) (ch17 : Hid (f17 = true → f16 = true)) (ch18 : Hid (f18 = true → f17 = true)) (ch20 : Hid (f20 = true → f19 = true)) (ch21 : Hid (f21 = true → f20 = true)) (ch22 : Hid (f22 = true → f0 = true ∧ f3 = true ∧ f6 = true ∧ f9 = true ∧ f12 = true ∧ f14 = true ∧ f18 = true ∧ f21 = true)) (ch23 : Hid (f23 = true → f22 = true)) (ch24 : Hid (f24 = true → f23 = true)) (ch25 : Hid (f25 = true → f24 = true ∧ f0 = true ∧ f1 = true ∧ f2 = true ∧ f3 = true ∧ f4 = true ∧ f5 = true ∧ f6 = true ∧ f7 = true ∧ f8 = true ∧ f9 = true ∧ f10 = true ∧ f11 = true ∧ f12 = true ∧ f13 = true ∧ f14 = true ∧ f15 = true ∧ f16 = true ∧ f17 = true ∧ f18 = true ∧ f19 = true ∧ f20 = true ∧ f21 = true ∧ f22 = true ∧ f23 = true)) (hB : (f25 = false → Below V.heap.size V w')) (r51 : (f3 = true → f25 = false → RowX (fun j => j < S0) w' (.slice o51 n51 c51) (leafT bGroup dg))) (r54 : (f6 = true → f25 = false → RowX (fun j => j < S0) w' (.slice o54 n54 c54) (leafT bArtifact da))) (r57 : (f9 = true → f25 = false → RowX (fun j => j < S0) w' (.slice o57 n57 c57) (leafT bVersion dv))) (r60 : (f12 = true → f25 = false → RowX (fun j => j < S0) w' (.slice o60 n60 c60) (leafT bPackaging dk))) (r62 : (f14 = true → f25 = false → RowX (fun j => j < S0) w' (.slice o62 n62 c62) (branchT bProperties ps))) (r65 : (f17 = true → f25 = false → RowX (fun j => j < S0) w' (.slice o65 n65 c65) (depsT dm))) (r66 : (f18 = true → f25 = false → RowX (fun j => j < S0) w' (.slice o66 n66 c66) (branchT bManagement (depsT dm)))) (r69 : (f21 = true → f25 = false → RowX (fun j => j < S0) w' (.slice o69 n69 c69) (depsT dd))) (r70 : (f22 = true → f25 = false → RowsX (fun j => j < S0) w' (.slice (some ⟨H70, 0, none⟩) 8 8) [parentL hp ⟨px, py, pz⟩, leafT bGroup dg, leafT bArtifact da, leafT bVersion dv, leafT bPackaging dk, branchT bProperties ps, branchT bManagement (depsT dm), depsT dd])) (r71 : (f23 = true → f25 = false → RowX (fun j => j < S0) w' (.slice o71 n71 c71) ([parentL hp ⟨px, py, pz⟩, leafT bGroup dg, leafT bArtifact da, leafT bVersion dv, leafT bPackaging dk, branchT bProperties ps, branchT bManagement (depsT dm), depsT dd].flatten))) (r99 : (f25 = true → (Box w' B1 [.string (bs bProject), .slice none 0 0, .slice o71 n71 c71, .string ⟨#[]⟩] ∧ RowX (fun j => j < S0) w' (.slice o71 n71 c71) ([parentL hp ⟨px, py, pz⟩, leafT bGroup dg, leafT bArtifact da, leafT bVersion dv, leafT bPackaging dk, branchT bProperties ps, branchT bManagement (depsT dm), depsT dd].flatten) ∧ Below B1 V w'))) : w12J B0 B1 S0 hp px py pz dg da dv dk dm dd ps lo ln lc eo en ec a2 mn a5 a3 dn a6 V x0 x1 x2 x3 x4 x5 x6 x7 x8 x9 x10 x11 x12 x13 x14 x15 x16 x17 x18 x19 x20 x21 x22 x23 x24 x25 x26 x27 x28 x29 x30 x31 x32 x33 x34 x35 x36 x37 x38 x39 x40 x41 x42 x43 x44 x45 x46 x47 listed atx w' := by
 subst hl ha
 exact .mk f0 f1 f2 f3 f4 f5 f6 f7 f8 f9 f10 f11 f12 f13 f14 f15 f16 f17 f18 f19 f20 f21 f22 f23 f24 f25 o51 n51 c51 o54 n54 c54 o57 n57 c57 o60 n60 c60 o62 n62 c62 o65 n65 c65 o66 n66 c66 o69 n69 c69 H70 o71 n71 c71 w' ch2 ch3 ch5 ch6 ch8 ch9 ch11 ch12 ch14 ch16 ch17 ch18 ch20 ch21 ch22 ch23 ch24 ch25 hB r51 r54 r57 r60 r62 r65 r66 r69 r70 r71 r99
set_option maxRecDepth 100000 in
set_option maxHeartbeats 16000000 in
theorem writeR_any (p : Pom) (pv mv dv : Value) (w : World) (hp : PomOf w (.agg (pomC p pv mv dv).toArray) p pv mv dv) (n1 : p.props.length ≤ 2000) (n2 : p.managed.length ≤ 2000) (n3 : p.deps.length ≤ 2000) (x2 : ∀ d ∈ p.managed, d.excl.length ≤ 2000) (x3 : ∀ d ∈ p.deps, d.excl.length ≤ 2000) :
    Calls Tryz.prog 19 #[.agg (pomC p pv mv dv).toArray] w (WriteP (writeT p) w) := by
 obtain ⟨-, p1, p2, p3⟩ := hp
 obtain ⟨a1, a4, rfl⟩ := p1.shape
 obtain ⟨a2, a5, rfl⟩ := p2.shape
 obtain ⟨a3, a6, rfl⟩ := p3.shape
 have H1 := Lib.hid p1
 have H2 := Lib.hid p2
 have H3 := Lib.hid p3
 have HN1 := Lib.hid n1
 have HN2 := Lib.hid n2
 have HN3 := Lib.hid n3
 have HX2 := Lib.hid x2
 have HX3 := Lib.hid x3
 obtain ⟨T, hT⟩ : ∃ T, T = writeT p := ⟨_, rfl⟩
 rw [← hT]
 have HT := Lib.hid hT
 clear p1 p2 p3 n1 n2 n3 x2 x3 hT
 obtain ⟨hp, ⟨px, py, pz⟩, dg, da, dv, dk, dp, dm, dd⟩ := p
 simp only [pomC] at HN1 HN2 HN3 HX2 HX3 ⊢
 go_enter Tryz.func19, Tryz.ntmps19
 go_upto_region 1 with fail
 refine wp_world ?_
 intro W2 hW2
 have x0 : Box W2 w.heap.size [.bool hp, .string px, .string py, .string pz, .string dg, .string da, .string dv, .string dk, .slice a1 dp.length a4, .slice a2 dm.length a5, .slice a3 dd.length a6] := by rw [hW2]; exact (Box.new w [.bool hp, .string px, .string py, .string pz, .string dg, .string da, .string dv, .string dk, .slice a1 dp.length a4, .slice a2 dm.length a5, .slice a3 dd.length a6] _ _ rfl).alloc _
 have x1 : Box W2 (w.heap.size + 1) [.string ⟨#[]⟩, .slice none 0 0, .slice none 0 0, .string ⟨#[]⟩] := by rw [hW2]; exact Box.new _ [.string ⟨#[]⟩, .slice none 0 0, .slice none 0 0, .string ⟨#[]⟩] _ _ (by simp)
 have hb2 : Below w.heap.size w W2 := by rw [hW2]; exact ((Below.refl _ w).alloc (Nat.le_refl _) _).alloc (by simp) _
 clear hW2
 have HP0 := Lib.hid x0
 have HR0 := Lib.hid x1
 have HB2 := Lib.hid hb2
 have HL3 : Hid (∀ ts ∈ [leafT bGroup px, leafT bArtifact py, leafT bVersion pz], ts.length ≤ 100000) := by
  intro ts h
  simp only [List.mem_cons, List.not_mem_nil, or_false] at h
  rcases h with rfl | rfl | rfl
  all_goals exact Nat.le_trans (leafT_len _ _) (by decide)
 clear x0 x1 hb2
 obtain ⟨c0, c1, c2, c3, c4, c5, c6, c7, c8, c9, c10⟩ := bxc11 HP0.out
 have cl := HP0.out.lt
 go_upto_if 9 with fail
 go_cut [3] from 10 to 23 (fun lv wx => ∃ lo ln lc, lv = .slice lo ln lc ∧ Hid (RowX (fun j => j < W2.heap.size) wx (.slice lo ln lc) (parentL hp ⟨px, py, pz⟩) ∧ Below W2.heap.size W2 wx))
 case first =>
  cases hp with
  | false =>
   go_wp2
   go_meet
   case rel => exact ⟨none, 0, 0, rfl, RowX.nil _ _, Below.refl _ _⟩
  | true =>
   go_upto_region 3 with fail
   refine wp_region_flags0 (w3J w.heap.size px py pz W2 _ _ _ _ _ _ _ _ _ _ _ _ _ _ _ _ _ _ _ _ _ _ _ _ _ _ _ _ _ _ _ _ _ _ _ _ _ _ _ _ _ _ _ _ _ _ _ _ _ _ _ _ _ _ _ _ _) (by kernel_rfl) 16 rfl (by kernel_rfl) (w3J.at false false false false false false false false false false false false false false false false (none) (0) (0) (none) (0) (0) (none) (0) (0) (0) (none) (0) (0) (none) (0) (0) rfl (by unfold w3Upd; rfl) ?i0 ?i1 ?i2 ?i3 ?i4 ?i5 ?i6 ?i7 ?i8 ?i9 ?i10 ?i11 ?i12 ?i13 ?i14 ?i15 ?i16 ?i17 ?i18 ?i19) ?fin ?step
   case i0 => exact Lib.hid (by simp)
   case i1 => exact Lib.hid (by simp)
   case i2 => exact Lib.hid (by simp)
   case i3 => exact Lib.hid (by simp)
   case i4 => exact Lib.hid (by simp)
   case i5 => exact Lib.hid (by simp)
   case i6 => exact Lib.hid (by simp)
   case i7 => exact Lib.hid (by simp)
   case i8 => exact Lib.hid (by simp)
   case i9 => exact Lib.hid (by simp)
   case i10 => exact Lib.hid (by simp)
   case i11 => exact Lib.hid (by simp)
   case i12 => exact Lib.hid (by simp)
   case i13 => exact belowN (Below.refl _ _) 1
   case i14 => exact by simp
   case i15 => exact by simp
   case i16 => exact by simp
   case i17 => exact by simp
   case i18 => exact by simp
   case i19 => exact by simp
   case fin =>
    intro a' w' hJ
    generalize hl : Array.replicate 16 true = Lz at hJ
    cases hJ with
    | mk f0 f1 f2 f3 f4 f5 f6 f7 f8 f9 f10 f11 f12 f13 f14 f15 o13 n13 c13 o17 n17 c17 o21 n21 c21 H22 o23 n23 c23 o24 n24 c24 _ ch1 ch2 ch3 ch5 ch6 ch7 ch9 ch10 ch11 ch12 ch13 ch14 ch15 hB r13 r17 r21 r22 r23 r24 =>
     have hl' : [true, true, true, true, true, true, true, true, true, true, true, true, true, true, true, true] = [f0, f1, f2, f3, f4, f5, f6, f7, f8, f9, f10, f11, f12, f13, f14, f15] := congrArg Array.toList hl
     simp only [List.cons.injEq, and_true] at hl'
     obtain ⟨rfl, rfl, rfl, rfl, rfl, rfl, rfl, rfl, rfl, rfl, rfl, rfl, rfl, rfl, rfl, rfl⟩ := hl'
     clear hl
     unfold w3Upd
     simp only [cond_true]
     have HR9 := Lib.hid (r24 rfl)
     have HB9 := Lib.hid hB
     clear ch1 ch2 ch3 ch5 ch6 ch7 ch9 ch10 ch11 ch12 ch13 ch14 ch15 hB r13 r17 r21 r22 r23 r24
     go_wp2
     go_meet
     case rel => exact ⟨_, _, _, rfl, Lib.hid ⟨by have h1 := HR9.out; simpa [parentL] using h1, HB9.out⟩⟩
   case step =>
    intro listed a' w' hJ i hi
    cases hJ with
    | mk f0 f1 f2 f3 f4 f5 f6 f7 f8 f9 f10 f11 f12 f13 f14 f15 o13 n13 c13 o17 n17 c17 o21 n21 c21 H22 o23 n23 c23 o24 n24 c24 _ ch1 ch2 ch3 ch5 ch6 ch7 ch9 ch10 ch11 ch12 ch13 ch14 ch15 hB r13 r17 r21 r22 r23 r24 =>
     rw [mem_ready] at hi
     obtain ⟨hu, o, ho, ha⟩ := hi
     have hi8 : i < 16 := (Array.getElem?_eq_some_iff.1 ho).1
     rcases (by omega : i = 0 ∨ i = 1 ∨ i = 2 ∨ i = 3 ∨ i = 4 ∨ i = 5 ∨ i = 6 ∨ i = 7 ∨ i = 8 ∨ i = 9 ∨ i = 10 ∨ i = 11 ∨ i = 12 ∨ i = 13 ∨ i = 14 ∨ i = 15) with rfl | rfl | rfl | rfl | rfl | rfl | rfl | rfl | rfl | rfl | rfl | rfl | rfl | rfl | rfl | rfl
     · have ho' := ho
       simp at hu ho
       subst hu ho
       clear ha
       have e1 : f1 = false := Bool.eq_false_iff.2 fun h => Bool.false_ne_true ((ch1.out h))
       have e2 : f2 = false := Bool.eq_false_iff.2 fun h => Bool.false_ne_true ((ch1.out (ch2.out h)))
       have e3 : f3 = false := Bool.eq_false_iff.2 fun h => Bool.false_ne_true ((ch1.out (ch2.out (ch3.out h))))
       have e12 : f12 = false := Bool.eq_false_iff.2 fun h => Bool.false_ne_true ((ch1.out (ch2.out (ch3.out (ch12.out h).1))))
       have e13 : f13 = false := Bool.eq_false_iff.2 fun h => Bool.false_ne_true ((ch1.out (ch2.out (ch3.out (ch12.out (ch13.out h)).1))))
       have e14 : f14 = false := Bool.eq_false_iff.2 fun h => Bool.false_ne_true ((ch1.out (ch2.out (ch3.out (ch12.out (ch13.out (ch14.out h))).1))))
       have e15 : f15 = false := Bool.eq_false_iff.2 fun h => Bool.false_ne_true ((ch1.out (ch2.out (ch3.out (ch12.out (ch13.out (ch14.out (ch15.out h)))).1))))
       subst e1 e2 e3 e12 e13 e14 e15
       refine .inl ?_
       unfold w3Upd Oper.wp
       go_simp
       exact w3J.at true false false false f4 f5 f6 f7 f8 f9 f10 f11 false false false false (o13) (n13) (c13) (o17) (n17) (c17) (o21) (n21) (c21) (H22) (o23) (n23) (c23) (o24) (n24) (c24) rfl rfl (Lib.hid (by simp)) (Lib.hid (by simp)) (Lib.hid (by simp)) (ch5) (ch6) (ch7) (ch9) (ch10) (ch11) (Lib.hid (by simp)) (Lib.hid (by simp)) (Lib.hid (by simp)) (Lib.hid (by simp)) (hB) (by simp) (r17) (r21) (by simp) (by simp) (by simp)
     · have ho' := ho
       simp at hu ho
       subst hu ho
       simp [Region.binds] at ha
       obtain rfl : f0 = true := by simp only [ha]
       clear ha
       have e2 : f2 = false := Bool.eq_false_iff.2 fun h => Bool.false_ne_true ((ch2.out h))
       have e3 : f3 = false := Bool.eq_false_iff.2 fun h => Bool.false_ne_true ((ch2.out (ch3.out h)))
       have e12 : f12 = false := Bool.eq_false_iff.2 fun h => Bool.false_ne_true ((ch2.out (ch3.out (ch12.out h).1)))
       have e13 : f13 = false := Bool.eq_false_iff.2 fun h => Bool.false_ne_true ((ch2.out (ch3.out (ch12.out (ch13.out h)).1)))
       have e14 : f14 = false := Bool.eq_false_iff.2 fun h => Bool.false_ne_true ((ch2.out (ch3.out (ch12.out (ch13.out (ch14.out h))).1)))
       have e15 : f15 = false := Bool.eq_false_iff.2 fun h => Bool.false_ne_true ((ch2.out (ch3.out (ch12.out (ch13.out (ch14.out (ch15.out h)))).1)))
       subst e2 e3 e12 e13 e14 e15
       refine .inl ?_
       unfold w3Upd Oper.wp
       go_simp
       exact w3J.at true true false false f4 f5 f6 f7 f8 f9 f10 f11 false false false false (o13) (n13) (c13) (o17) (n17) (c17) (o21) (n21) (c21) (H22) (o23) (n23) (c23) (o24) (n24) (c24) rfl rfl (Lib.hid (by simp)) (Lib.hid (by simp)) (Lib.hid (by simp)) (ch5) (ch6) (ch7) (ch9) (ch10) (ch11) (Lib.hid (by simp)) (Lib.hid (by simp)) (Lib.hid (by simp)) (Lib.hid (by simp)) (hB) (by simp) (r17) (r21) (by simp) (by simp) (by simp)
     · have ho' := ho
       simp at hu ho
       subst hu ho
       simp [Region.binds] at ha
       obtain rfl : f1 = true := by simp only [ha]
       clear ha
       obtain rfl : f0 = true := (ch1.out rfl)
       have e3 : f3 = false := Bool.eq_false_iff.2 fun h => Bool.false_ne_true ((ch3.out h))
       have e12 : f12 = false := Bool.eq_false_iff.2 fun h => Bool.false_ne_true ((ch3.out (ch12.out h).1))
       have e13 : f13 = false := Bool.eq_false_iff.2 fun h => Bool.false_ne_true ((ch3.out (ch12.out (ch13.out h)).1))
       have e14 : f14 = false := Bool.eq_false_iff.2 fun h => Bool.false_ne_true ((ch3.out (ch12.out (ch13.out (ch14.out h))).1))
       have e15 : f15 = false := Bool.eq_false_iff.2 fun h => Bool.false_ne_true ((ch3.out (ch12.out (ch13.out (ch14.out (ch15.out h)))).1))
       subst e3 e12 e13 e14 e15
       have k0 := (hB.cell (p := ⟨w.heap.size, 1, none⟩) (by exact HP0.out.lt)).trans (HP0.out.cell 1 _ rfl)
       have kl := Nat.lt_of_lt_of_le HP0.out.lt hB.size
       refine .inl ?_
       unfold w3Upd Oper.wp
       go_simp
       exact w3J.at true true true false f4 f5 f6 f7 f8 f9 f10 f11 false false false false (o13) (n13) (c13) (o17) (n17) (c17) (o21) (n21) (c21) (H22) (o23) (n23) (c23) (o24) (n24) (c24) rfl rfl (Lib.hid (by simp)) (Lib.hid (by simp)) (Lib.hid (by simp)) (ch5) (ch6) (ch7) (ch9) (ch10) (ch11) (Lib.hid (by simp)) (Lib.hid (by simp)) (Lib.hid (by simp)) (Lib.hid (by simp)) (hB) (by simp) (r17) (r21) (by simp) (by simp) (by simp)
     · have ho' := ho
       simp at hu ho
       subst hu ho
       simp [Region.binds] at ha
       obtain rfl : f2 = true := by simp only [ha]
       clear ha
       obtain rfl : f1 = true := (ch2.out rfl)
       obtain rfl : f0 = true := (ch1.out (ch2.out rfl))
       have e12 : f12 = false := Bool.eq_false_iff.2 fun h => Bool.false_ne_true ((ch12.out h).1)
       have e13 : f13 = false := Bool.eq_false_iff.2 fun h => Bool.false_ne_true ((ch12.out (ch13.out h)).1)
       have e14 : f14 = false := Bool.eq_false_iff.2 fun h => Bool.false_ne_true ((ch12.out (ch13.out (ch14.out h))).1)
       have e15 : f15 = false := Bool.eq_false_iff.2 fun h => Bool.false_ne_true ((ch12.out (ch13.out (ch14.out (ch15.out h)))).1)
       subst e12 e13 e14 e15
       have hS := hB.size
       refine .inl ?_
       unfold w3Upd Oper.wp
       go_simp
       refine (leafR_any (fun j => j < W2.heap.size) bGroup px w' (fun j h => Nat.lt_of_lt_of_le h hS)).mono ?_
       intro e w1 hO
       obtain ⟨o1, n1, c1, rfl, hr, hb⟩ := hO
       exact w3J.at true true true true f4 f5 f6 f7 f8 f9 f10 f11 false false false false (o1) (n1) (c1) (o17) (n17) (c17) (o21) (n21) (c21) (H22) (o23) (n23) (c23) (o24) (n24) (c24) rfl rfl (Lib.hid (by simp)) (Lib.hid (by simp)) (Lib.hid (by simp)) (ch5) (ch6) (ch7) (ch9) (ch10) (ch11) (Lib.hid (by simp)) (Lib.hid (by simp)) (Lib.hid (by simp)) (Lib.hid (by simp)) (hB.trans (hb.mono hS)) (fun h0 => hr) (fun h0 => (r17 h0).later hb) (fun h0 => (r21 h0).later hb) (by simp) (by simp) (by simp)
     · have ho' := ho
       simp at hu ho
       subst hu ho
       clear ha
       have e5 : f5 = false := Bool.eq_false_iff.2 fun h => Bool.false_ne_true ((ch5.out h))
       have e6 : f6 = false := Bool.eq_false_iff.2 fun h => Bool.false_ne_true ((ch5.out (ch6.out h)))
       have e7 : f7 = false := Bool.eq_false_iff.2 fun h => Bool.false_ne_true ((ch5.out (ch6.out (ch7.out h))))
       have e12 : f12 = false := Bool.eq_false_iff.2 fun h => Bool.false_ne_true ((ch5.out (ch6.out (ch7.out (ch12.out h).2.1))))
       have e13 : f13 = false := Bool.eq_false_iff.2 fun h => Bool.false_ne_true ((ch5.out (ch6.out (ch7.out (ch12.out (ch13.out h)).2.1))))
       have e14 : f14 = false := Bool.eq_false_iff.2 fun h => Bool.false_ne_true ((ch5.out (ch6.out (ch7.out (ch12.out (ch13.out (ch14.out h))).2.1))))
       have e15 : f15 = false := Bool.eq_false_iff.2 fun h => Bool.false_ne_true ((ch5.out (ch6.out (ch7.out (ch12.out (ch13.out (ch14.out (ch15.out h)))).2.1))))
       subst e5 e6 e7 e12 e13 e14 e15
       refine .inl ?_
       unfold w3Upd Oper.wp
       go_simp
       exact w3J.at f0 f1 f2 f3 true false false false f8 f9 f10 f11 false false false false (o13) (n13) (c13) (o17) (n17) (c17) (o21) (n21) (c21) (H22) (o23) (n23) (c23) (o24) (n24) (c24) rfl rfl (ch1) (ch2) (ch3) (Lib.hid (by simp)) (Lib.hid (by simp)) (Lib.hid (by simp)) (ch9) (ch10) (ch11) (Lib.hid (by simp)) (Lib.hid (by simp)) (Lib.hid (by simp)) (Lib.hid (by simp)) (hB) (r13) (by simp) (r21) (by simp) (by simp) (by simp)
     · have ho' := ho
       simp at hu ho
       subst hu ho
       simp [Region.binds] at ha
       obtain rfl : f4 = true := by simp only [ha]
       clear ha
       have e6 : f6 = false := Bool.eq_false_iff.2 fun h => Bool.false_ne_true ((ch6.out h))
       have e7 : f7 = false := Bool.eq_false_iff.2 fun h => Bool.false_ne_true ((ch6.out (ch7.out h)))
       have e12 : f12 = false := Bool.eq_false_iff.2 fun h => Bool.false_ne_true ((ch6.out (ch7.out (ch12.out h).2.1)))
       have e13 : f13 = false := Bool.eq_false_iff.2 fun h => Bool.false_ne_true ((ch6.out (ch7.out (ch12.out (ch13.out h)).2.1)))
       have e14 : f14 = false := Bool.eq_false_iff.2 fun h => Bool.false_ne_true ((ch6.out (ch7.out (ch12.out (ch13.out (ch14.out h))).2.1)))
       have e15 : f15 = false := Bool.eq_false_iff.2 fun h => Bool.false_ne_true ((ch6.out (ch7.out (ch12.out (ch13.out (ch14.out (ch15.out h)))).2.1)))
       subst e6 e7 e12 e13 e14 e15
       refine .inl ?_
       unfold w3Upd Oper.wp
       go_simp
       exact w3J.at f0 f1 f2 f3 true true false false f8 f9 f10 f11 false false false false (o13) (n13) (c13) (o17) (n17) (c17) (o21) (n21) (c21) (H22) (o23) (n23) (c23) (o24) (n24) (c24) rfl rfl (ch1) (ch2) (ch3) (Lib.hid (by simp)) (Lib.hid (by simp)) (Lib.hid (by simp)) (ch9) (ch10) (ch11) (Lib.hid (by simp)) (Lib.hid (by simp)) (Lib.hid (by simp)) (Lib.hid (by simp)) (hB) (r13) (by simp) (r21) (by simp) (by simp) (by simp)
     · have ho' := ho
       simp at hu ho
       subst hu ho
       simp [Region.binds] at ha
       obtain rfl : f5 = true := by simp only [ha]
       clear ha
       obtain rfl : f4 = true := (ch5.out rfl)
       have e7 : f7 = false := Bool.eq_false_iff.2 fun h => Bool.false_ne_true ((ch7.out h))
       have e12 : f12 = false := Bool.eq_false_iff.2 fun h => Bool.false_ne_true ((ch7.out (ch12.out h).2.1))
       have e13 : f13 = false := Bool.eq_false_iff.2 fun h => Bool.false_ne_true ((ch7.out (ch12.out (ch13.out h)).2.1))
       have e14 : f14 = false := Bool.eq_false_iff.2 fun h => Bool.false_ne_true ((ch7.out (ch12.out (ch13.out (ch14.out h))).2.1))
       have e15 : f15 = false := Bool.eq_false_iff.2 fun h => Bool.false_ne_true ((ch7.out (ch12.out (ch13.out (ch14.out (ch15.out h)))).2.1))
       subst e7 e12 e13 e14 e15
       have k0 := (hB.cell (p := ⟨w.heap.size, 2, none⟩) (by exact HP0.out.lt)).trans (HP0.out.cell 2 _ rfl)
       have kl := Nat.lt_of_lt_of_le HP0.out.lt hB.size
       refine .inl ?_
       unfold w3Upd Oper.wp
       go_simp
       exact w3J.at f0 f1 f2 f3 true true true false f8 f9 f10 f11 false false false false (o13) (n13) (c13) (o17) (n17) (c17) (o21) (n21) (c21) (H22) (o23) (n23) (c23) (o24) (n24) (c24) rfl rfl (ch1) (ch2) (ch3) (Lib.hid (by simp)) (Lib.hid (by simp)) (Lib.hid (by simp)) (ch9) (ch10) (ch11) (Lib.hid (by simp)) (Lib.hid (by simp)) (Lib.hid (by simp)) (Lib.hid (by simp)) (hB) (r13) (by simp) (r21) (by simp) (by simp) (by simp)
     · have ho' := ho
       simp at hu ho
       subst hu ho
       simp [Region.binds] at ha
       obtain rfl : f6 = true := by simp only [ha]
       clear ha
       obtain rfl : f5 = true := (ch6.out rfl)
       obtain rfl : f4 = true := (ch5.out (ch6.out rfl))
       have e12 : f12 = false := Bool.eq_false_iff.2 fun h => Bool.false_ne_true ((ch12.out h).2.1)
       have e13 : f13 = false := Bool.eq_false_iff.2 fun h => Bool.false_ne_true ((ch12.out (ch13.out h)).2.1)
       have e14 : f14 = false := Bool.eq_false_iff.2 fun h => Bool.false_ne_true ((ch12.out (ch13.out (ch14.out h))).2.1)
       have e15 : f15 = false := Bool.eq_false_iff.2 fun h => Bool.false_ne_true ((ch12.out (ch13.out (ch14.out (ch15.out h)))).2.1)
       subst e12 e13 e14 e15
       have hS := hB.size
       refine .inl ?_
       unfold w3Upd Oper.wp
       go_simp
       refine (leafR_any (fun j => j < W2.heap.size) bArtifact py w' (fun j h => Nat.lt_of_lt_of_le h hS)).mono ?_
       intro e w1 hO
       obtain ⟨o1, n1, c1, rfl, hr, hb⟩ := hO
       exact w3J.at f0 f1 f2 f3 true true true true f8 f9 f10 f11 false false false false (o13) (n13) (c13) (o1) (n1) (c1) (o21) (n21) (c21) (H22) (o23) (n23) (c23) (o24) (n24) (c24) rfl rfl (ch1) (ch2) (ch3) (Lib.hid (by simp)) (Lib.hid (by simp)) (Lib.hid (by simp)) (ch9) (ch10) (ch11) (Lib.hid (by simp)) (Lib.hid (by simp)) (Lib.hid (by simp)) (Lib.hid (by simp)) (hB.trans (hb.mono hS)) (fun h0 => (r13 h0).later hb) (fun h0 => hr) (fun h0 => (r21 h0).later hb) (by simp) (by simp) (by simp)
     · have ho' := ho
       simp at hu ho
       subst hu ho
       clear ha
       have e9 : f9 = false := Bool.eq_false_iff.2 fun h => Bool.false_ne_true ((ch9.out h))
       have e10 : f10 = false := Bool.eq_false_iff.2 fun h => Bool.false_ne_true ((ch9.out (ch10.out h)))
       have e11 : f11 = false := Bool.eq_false_iff.2 fun h => Bool.false_ne_true ((ch9.out (ch10.out (ch11.out h))))
       have e12 : f12 = false := Bool.eq_false_iff.2 fun h => Bool.false_ne_true ((ch9.out (ch10.out (ch11.out (ch12.out h).2.2))))
       have e13 : f13 = false := Bool.eq_false_iff.2 fun h => Bool.false_ne_true ((ch9.out (ch10.out (ch11.out (ch12.out (ch13.out h)).2.2))))
       have e14 : f14 = false := Bool.eq_false_iff.2 fun h => Bool.false_ne_true ((ch9.out (ch10.out (ch11.out (ch12.out (ch13.out (ch14.out h))).2.2))))
       have e15 : f15 = false := Bool.eq_false_iff.2 fun h => Bool.false_ne_true ((ch9.out (ch10.out (ch11.out (ch12.out (ch13.out (ch14.out (ch15.out h)))).2.2))))
       subst e9 e10 e11 e12 e13 e14 e15
       refine .inl ?_
       unfold w3Upd Oper.wp
       go_simp
       exact w3J.at f0 f1 f2 f3 f4 f5 f6 f7 true false false false false false false false (o13) (n13) (c13) (o17) (n17) (c17) (o21) (n21) (c21) (H22) (o23) (n23) (c23) (o24) (n24) (c24) rfl rfl (ch1) (ch2) (ch3) (ch5) (ch6) (ch7) (Lib.hid (by simp)) (Lib.hid (by simp)) (Lib.hid (by simp)) (Lib.hid (by simp)) (Lib.hid (by simp)) (Lib.hid (by simp)) (Lib.hid (by simp)) (hB) (r13) (r17) (by simp) (by simp) (by simp) (by simp)
     · have ho' := ho
       simp at hu ho
       subst hu ho
       simp [Region.binds] at ha
       obtain rfl : f8 = true := by simp only [ha]
       clear ha
       have e10 : f10 = false := Bool.eq_false_iff.2 fun h => Bool.false_ne_true ((ch10.out h))
       have e11 : f11 = false := Bool.eq_false_iff.2 fun h => Bool.false_ne_true ((ch10.out (ch11.out h)))
       have e12 : f12 = false := Bool.eq_false_iff.2 fun h => Bool.false_ne_true ((ch10.out (ch11.out (ch12.out h).2.2)))
       have e13 : f13 = false := Bool.eq_false_iff.2 fun h => Bool.false_ne_true ((ch10.out (ch11.out (ch12.out (ch13.out h)).2.2)))
       have e14 : f14 = false := Bool.eq_false_iff.2 fun h => Bool.false_ne_true ((ch10.out (ch11.out (ch12.out (ch13.out (ch14.out h))).2.2)))
       have e15 : f15 = false := Bool.eq_false_iff.2 fun h => Bool.false_ne_true ((ch10.out (ch11.out (ch12.out (ch13.out (ch14.out (ch15.out h)))).2.2)))
       subst e10 e11 e12 e13 e14 e15
       refine .inl ?_
       unfold w3Upd Oper.wp
       go_simp
       exact w3J.at f0 f1 f2 f3 f4 f5 f6 f7 true true false false false false false false (o13) (n13) (c13) (o17) (n17) (c17) (o21) (n21) (c21) (H22) (o23) (n23) (c23) (o24) (n24) (c24) rfl rfl (ch1) (ch2) (ch3) (ch5) (ch6) (ch7) (Lib.hid (by simp)) (Lib.hid (by simp)) (Lib.hid (by simp)) (Lib.hid (by simp)) (Lib.hid (by simp)) (Lib.hid (by simp)) (Lib.hid (by simp)) (hB) (r13) (r17) (by simp) (by simp) (by simp) (by simp)
     · have ho' := ho
       simp at hu ho
       subst hu ho
       simp [Region.binds] at ha
       obtain rfl : f9 = true := by simp only [ha]
       clear ha
       obtain rfl : f8 = true := (ch9.out rfl)
       have e11 : f11 = false := Bool.eq_false_iff.2 fun h => Bool.false_ne_true ((ch11.out h))
       have e12 : f12 = false := Bool.eq_false_iff.2 fun h => Bool.false_ne_true ((ch11.out (ch12.out h).2.2))
       have e13 : f13 = false := Bool.eq_false_iff.2 fun h => Bool.false_ne_true ((ch11.out (ch12.out (ch13.out h)).2.2))
       have e14 : f14 = false := Bool.eq_false_iff.2 fun h => Bool.false_ne_true ((ch11.out (ch12.out (ch13.out (ch14.out h))).2.2))
       have e15 : f15 = false := Bool.eq_false_iff.2 fun h => Bool.false_ne_true ((ch11.out (ch12.out (ch13.out (ch14.out (ch15.out h)))).2.2))
       subst e11 e12 e13 e14 e15
       have k0 := (hB.cell (p := ⟨w.heap.size, 3, none⟩) (by exact HP0.out.lt)).trans (HP0.out.cell 3 _ rfl)
       have kl := Nat.lt_of_lt_of_le HP0.out.lt hB.size
       refine .inl ?_
       unfold w3Upd Oper.wp
       go_simp
       exact w3J.at f0 f1 f2 f3 f4 f5 f6 f7 true true true false false false false false (o13) (n13) (c13) (o17) (n17) (c17) (o21) (n21) (c21) (H22) (o23) (n23) (c23) (o24) (n24) (c24) rfl rfl (ch1) (ch2) (ch3) (ch5) (ch6) (ch7) (Lib.hid (by simp)) (Lib.hid (by simp)) (Lib.hid (by simp)) (Lib.hid (by simp)) (Lib.hid (by simp)) (Lib.hid (by simp)) (Lib.hid (by simp)) (hB) (r13) (r17) (by simp) (by simp) (by simp) (by simp)
     · have ho' := ho
       simp at hu ho
       subst hu ho
       simp [Region.binds] at ha
       obtain rfl : f10 = true := by simp only [ha]
       clear ha
       obtain rfl : f9 = true := (ch10.out rfl)
       obtain rfl : f8 = true := (ch9.out (ch10.out rfl))
       have e12 : f12 = false := Bool.eq_false_iff.2 fun h => Bool.false_ne_true ((ch12.out h).2.2)
       have e13 : f13 = false := Bool.eq_false_iff.2 fun h => Bool.false_ne_true ((ch12.out (ch13.out h)).2.2)
       have e14 : f14 = false := Bool.eq_false_iff.2 fun h => Bool.false_ne_true ((ch12.out (ch13.out (ch14.out h))).2.2)
       have e15 : f15 = false := Bool.eq_false_iff.2 fun h => Bool.false_ne_true ((ch12.out (ch13.out (ch14.out (ch15.out h)))).2.2)
       subst e12 e13 e14 e15
       have hS := hB.size
       refine .inl ?_
       unfold w3Upd Oper.wp
       go_simp
       refine (leafR_any (fun j => j < W2.heap.size) bVersion pz w' (fun j h => Nat.lt_of_lt_of_le h hS)).mono ?_
       intro e w1 hO
       obtain ⟨o1, n1, c1, rfl, hr, hb⟩ := hO
       exact w3J.at f0 f1 f2 f3 f4 f5 f6 f7 true true true true false false false false (o13) (n13) (c13) (o17) (n17) (c17) (o1) (n1) (c1) (H22) (o23) (n23) (c23) (o24) (n24) (c24) rfl rfl (ch1) (ch2) (ch3) (ch5) (ch6) (ch7) (Lib.hid (by simp)) (Lib.hid (by simp)) (Lib.hid (by simp)) (Lib.hid (by simp)) (Lib.hid (by simp)) (Lib.hid (by simp)) (Lib.hid (by simp)) (hB.trans (hb.mono hS)) (fun h0 => (r13 h0).later hb) (fun h0 => (r17 h0).later hb) (fun h0 => hr) (by simp) (by simp) (by simp)
     · have ho' := ho
       simp at hu ho
       subst hu ho
       simp [Region.binds] at ha
       obtain rfl : f3 = true := by simp only [ha]
       obtain rfl : f7 = true := by simp only [ha]
       obtain rfl : f11 = true := by simp only [ha]
       clear ha
       obtain rfl : f10 = true := (ch11.out rfl)
       obtain rfl : f9 = true := (ch10.out (ch11.out rfl))
       obtain rfl : f8 = true := (ch9.out (ch10.out (ch11.out rfl)))
       obtain rfl : f6 = true := (ch7.out rfl)
       obtain rfl : f5 = true := (ch6.out (ch7.out rfl))
       obtain rfl : f4 = true := (ch5.out (ch6.out (ch7.out rfl)))
       obtain rfl : f2 = true := (ch3.out rfl)
       obtain rfl : f1 = true := (ch2.out (ch3.out rfl))
       obtain rfl : f0 = true := (ch1.out (ch2.out (ch3.out rfl)))
       have e13 : f13 = false := Bool.eq_false_iff.2 fun h => Bool.false_ne_true ((ch13.out h))
       have e14 : f14 = false := Bool.eq_false_iff.2 fun h => Bool.false_ne_true ((ch13.out (ch14.out h)))
       have e15 : f15 = false := Bool.eq_false_iff.2 fun h => Bool.false_ne_true ((ch13.out (ch14.out (ch15.out h))))
       subst e13 e14 e15
       have hS := hB.size
       have hal := fun o => (Below.refl w'.heap.size w').alloc (Nat.le_refl w'.heap.size) o
       refine .inl ?_
       unfold w3Upd Oper.wp
       go_simp
       exact w3J.at true true true true true true true true true true true true true false false false (o13) (n13) (c13) (o17) (n17) (c17) (o21) (n21) (c21) (w'.heap.size) (o23) (n23) (c23) (o24) (n24) (c24) rfl rfl (Lib.hid (by simp)) (Lib.hid (by simp)) (Lib.hid (by simp)) (Lib.hid (by simp)) (Lib.hid (by simp)) (Lib.hid (by simp)) (Lib.hid (by simp)) (Lib.hid (by simp)) (Lib.hid (by simp)) (Lib.hid (by simp)) (Lib.hid (by simp)) (Lib.hid (by simp)) (Lib.hid (by simp)) (hB.trans ((hal _).mono hS)) (fun h0 => (r13 h0).later (hal _)) (fun h0 => (r17 h0).later (hal _)) (fun h0 => (r21 h0).later (hal _)) (fun h0 => rows_lit [.slice o13 n13 c13, .slice o17 n17 c17, .slice o21 n21 c21] [leafT bGroup px, leafT bArtifact py, leafT bVersion pz] w' _ _ rfl rfl (by simp [maxLen]) (rows3 (r13 rfl) (r17 rfl) (r21 rfl))) (by simp) (by simp)
     · have ho' := ho
       simp at hu ho
       subst hu ho
       simp [Region.binds] at ha
       obtain rfl : f12 = true := by simp only [ha]
       clear ha
       obtain rfl : f11 = true := (ch12.out rfl).2.2
       obtain rfl : f10 = true := (ch11.out (ch12.out rfl).2.2)
       obtain rfl : f9 = true := (ch10.out (ch11.out (ch12.out rfl).2.2))
       obtain rfl : f8 = true := (ch9.out (ch10.out (ch11.out (ch12.out rfl).2.2)))
       obtain rfl : f7 = true := (ch12.out rfl).2.1
       obtain rfl : f6 = true := (ch7.out (ch12.out rfl).2.1)
       obtain rfl : f5 = true := (ch6.out (ch7.out (ch12.out rfl).2.1))
       obtain rfl : f4 = true := (ch5.out (ch6.out (ch7.out (ch12.out rfl).2.1)))
       obtain rfl : f3 = true := (ch12.out rfl).1
       obtain rfl : f2 = true := (ch3.out (ch12.out rfl).1)
       obtain rfl : f1 = true := (ch2.out (ch3.out (ch12.out rfl).1))
       obtain rfl : f0 = true := (ch1.out (ch2.out (ch3.out (ch12.out rfl).1)))
       have e14 : f14 = false := Bool.eq_false_iff.2 fun h => Bool.false_ne_true ((ch14.out h))
       have e15 : f15 = false := Bool.eq_false_iff.2 fun h => Bool.false_ne_true ((ch14.out (ch15.out h)))
       subst e14 e15
       have hS := hB.size
       refine .inl ?_
       unfold w3Upd Oper.wp
       go_simp
       refine (allR_any (fun j => j < W2.heap.size) _ _ w' (r22 rfl) (fun j h => Nat.lt_of_lt_of_le h hS) (by simp) HL3.out).mono ?_
       intro e w1 hO
       obtain ⟨o1, n1, c1, rfl, hr, hb⟩ := hO
       exact w3J.at true true true true true true true true true true true true true true false false (o13) (n13) (c13) (o17) (n17) (c17) (o21) (n21) (c21) (H22) (o1) (n1) (c1) (o24) (n24) (c24) rfl rfl (Lib.hid (by simp)) (Lib.hid (by simp)) (Lib.hid (by simp)) (Lib.hid (by simp)) (Lib.hid (by simp)) (Lib.hid (by simp)) (Lib.hid (by simp)) (Lib.hid (by simp)) (Lib.hid (by simp)) (Lib.hid (by simp)) (Lib.hid (by simp)) (Lib.hid (by simp)) (Lib.hid (by simp)) (hB.trans (hb.mono hS)) (fun h0 => (r13 h0).later hb) (fun h0 => (r17 h0).later hb) (fun h0 => (r21 h0).later hb) (fun h0 => (r22 h0).later hb) (fun h0 => hr) (by simp)
     · have ho' := ho
       simp at hu ho
       subst hu ho
       simp [Region.binds] at ha
       obtain rfl : f13 = true := by simp only [ha]
       clear ha
       obtain rfl : f12 = true := (ch13.out rfl)
       obtain rfl : f11 = true := (ch12.out (ch13.out rfl)).2.2
       obtain rfl : f10 = true := (ch11.out (ch12.out (ch13.out rfl)).2.2)
       obtain rfl : f9 = true := (ch10.out (ch11.out (ch12.out (ch13.out rfl)).2.2))
       obtain rfl : f8 = true := (ch9.out (ch10.out (ch11.out (ch12.out (ch13.out rfl)).2.2)))
       obtain rfl : f7 = true := (ch12.out (ch13.out rfl)).2.1
       obtain rfl : f6 = true := (ch7.out (ch12.out (ch13.out rfl)).2.1)
       obtain rfl : f5 = true := (ch6.out (ch7.out (ch12.out (ch13.out rfl)).2.1))
       obtain rfl : f4 = true := (ch5.out (ch6.out (ch7.out (ch12.out (ch13.out rfl)).2.1)))
       obtain rfl : f3 = true := (ch12.out (ch13.out rfl)).1
       obtain rfl : f2 = true := (ch3.out (ch12.out (ch13.out rfl)).1)
       obtain rfl : f1 = true := (ch2.out (ch3.out (ch12.out (ch13.out rfl)).1))
       obtain rfl : f0 = true := (ch1.out (ch2.out (ch3.out (ch12.out (ch13.out rfl)).1)))
       have e15 : f15 = false := Bool.eq_false_iff.2 fun h => Bool.false_ne_true ((ch15.out h))
       subst e15
       have hS := hB.size
       refine .inl ?_
       unfold w3Upd Oper.wp
       go_simp
       refine (branchR_any (fun j => j < W2.heap.size) bParent _ _ w' (r23 rfl) (fun j h => Nat.lt_of_lt_of_le h hS)).mono ?_
       intro e w1 hO
       obtain ⟨o1, n1, c1, rfl, hr, hb⟩ := hO
       exact w3J.at true true true true true true true true true true true true true true true false (o13) (n13) (c13) (o17) (n17) (c17) (o21) (n21) (c21) (H22) (o23) (n23) (c23) (o1) (n1) (c1) rfl rfl (Lib.hid (by simp)) (Lib.hid (by simp)) (Lib.hid (by simp)) (Lib.hid (by simp)) (Lib.hid (by simp)) (Lib.hid (by simp)) (Lib.hid (by simp)) (Lib.hid (by simp)) (Lib.hid (by simp)) (Lib.hid (by simp)) (Lib.hid (by simp)) (Lib.hid (by simp)) (Lib.hid (by simp)) (hB.trans (hb.mono hS)) (fun h0 => (r13 h0).later hb) (fun h0 => (r17 h0).later hb) (fun h0 => (r21 h0).later hb) (fun h0 => (r22 h0).later hb) (fun h0 => (r23 h0).later hb) (fun h0 => hr)
     · have ho' := ho
       simp at hu ho
       subst hu ho
       simp [Region.binds] at ha
       obtain rfl : f14 = true := by simp only [ha]
       clear ha
       obtain rfl : f13 = true := (ch14.out rfl)
       obtain rfl : f12 = true := (ch13.out (ch14.out rfl))
       obtain rfl : f11 = true := (ch12.out (ch13.out (ch14.out rfl))).2.2
       obtain rfl : f10 = true := (ch11.out (ch12.out (ch13.out (ch14.out rfl))).2.2)
       obtain rfl : f9 = true := (ch10.out (ch11.out (ch12.out (ch13.out (ch14.out rfl))).2.2))
       obtain rfl : f8 = true := (ch9.out (ch10.out (ch11.out (ch12.out (ch13.out (ch14.out rfl))).2.2)))
       obtain rfl : f7 = true := (ch12.out (ch13.out (ch14.out rfl))).2.1
       obtain rfl : f6 = true := (ch7.out (ch12.out (ch13.out (ch14.out rfl))).2.1)
       obtain rfl : f5 = true := (ch6.out (ch7.out (ch12.out (ch13.out (ch14.out rfl))).2.1))
       obtain rfl : f4 = true := (ch5.out (ch6.out (ch7.out (ch12.out (ch13.out (ch14.out rfl))).2.1)))
       obtain rfl : f3 = true := (ch12.out (ch13.out (ch14.out rfl))).1
       obtain rfl : f2 = true := (ch3.out (ch12.out (ch13.out (ch14.out rfl))).1)
       obtain rfl : f1 = true := (ch2.out (ch3.out (ch12.out (ch13.out (ch14.out rfl))).1))
       obtain rfl : f0 = true := (ch1.out (ch2.out (ch3.out (ch12.out (ch13.out (ch14.out rfl))).1)))
       refine .inl ?_
       unfold w3Upd Oper.wp
       go_simp
       exact w3J.at true true true true true true true true true true true true true true true true (o13) (n13) (c13) (o17) (n17) (c17) (o21) (n21) (c21) (H22) (o23) (n23) (c23) (o24) (n24) (c24) rfl rfl (Lib.hid (by simp)) (Lib.hid (by simp)) (Lib.hid (by simp)) (Lib.hid (by simp)) (Lib.hid (by simp)) (Lib.hid (by simp)) (Lib.hid (by simp)) (Lib.hid (by simp)) (Lib.hid (by simp)) (Lib.hid (by simp)) (Lib.hid (by simp)) (Lib.hid (by simp)) (Lib.hid (by simp)) (hB) (r13) (r17) (r21) (r22) (r23) (r24)
 case rest =>
  obtain ⟨lo, ln, lc, rfl, hcc⟩ := hcut
  have HPR := Lib.hid hcc.out.1
  have HBW := Lib.hid hcc.out.2
  clear hcc c0 c1 c2 c3 c4 c5 c6 c7 c8 c9 c10 cl HL3
  obtain ⟨w7, rfl⟩ : ∃ v : World, v = wc := ⟨wc, rfl⟩
  have HD := Lib.hid (HP0.out.below HBW.out HP0.out.lt)
  obtain ⟨c0, c1, c2, c3, c4, c5, c6, c7, c8, c9, c10⟩ := bxc11 HD.out
  have cl := HD.out.lt
  go_wp2_with fail
  clear c0 c1 c2 c3 c4 c5 c6 c7 c8 c9 c10 cl
  go_loopw [4, 28] (fun xv i wr => ∃ (j : Nat) (eo : Option Addr) (ec : Nat) (XL : List TrV), j ≤ dp.length ∧ i = .int .i64 j ∧ xv = .slice eo XL.length ec ∧ Hid (Below w7.heap.size w7 wr ∧ Grow w7.heap.size wr (.slice eo XL.length ec) ((dp.take j).map propT) XL)) (fun _ i _ => dp.length - (intOf i).toNat)
  case atStart => exact ⟨0, none, 0, [], Nat.zero_le _, rfl, rfl, Below.refl _ _, Grow.nil _ _⟩
  case round =>
   obtain ⟨j, eo, ec, XL, hj, rfl, rfl, HJJ⟩ := hrel
   by_cases hjl : j < dp.length
   · have HTJ := Lib.hid (List.take_succ_eq_append_getElem hjl)
     have hbwr := HB2.out.trans ((HBW.out.trans (HJJ.out.1.mono HBW.out.size)).mono HB2.out.size)
     obtain ⟨g2, o2, hgo, hg2, c0, c1⟩ := (H1.out.below hbwr).atPrp hjl
     have hsj := HJJ.out.1.size
     have HXL : Hid (XL.length ≤ 2000) := by
      show _ ≤ _
      have h1 := HJJ.out.2.len
      rw [List.length_map, List.length_take] at h1
      have := HN1.out
      omega
     have HJT : Hid (j < dp.length) := hjl
     have hj20 : j < 2000 := by have := HN1.out; omega
     have hjI : (j : Int) < (dp.length : Int) := by omega
     subst hgo
     clear hbwr
     generalize dp[j] = y at *
     obtain ⟨y1, y2⟩ := y
     simp only at c0 c1
     go_upto_region 8 with fail
     refine wp_world ?_
     intro W11 hW11
     have x6 : Box W11 wr.heap.size [.string y1, .string y2] := by rw [hW11]; exact (Box.new wr [.string y1, .string y2] _ _ rfl).alloc _
     have x7 : Box W11 (wr.heap.size + 1) [.string y1, .slice none 0 0, .slice none 0 0, .string ⟨#[]⟩] := by rw [hW11]; exact Box.new _ [.string y1, .slice none 0 0, .slice none 0 0, .string ⟨#[]⟩] _ _ (by simp)
     have hb11 : Below wr.heap.size wr W11 := by rw [hW11]; exact ((Below.refl _ _).alloc (Nat.le_refl _) _).alloc (by simp) _
     clear hW11 c0 c1
     have HX6 := Lib.hid x6
     have HX7 := Lib.hid x7
     have HB11 := Lib.hid hb11
     have HSW : Hid (wr.heap.size + 1 < W11.heap.size) := x7.lt
     have HXO : Hid (∀ g, (Value.slice eo XL.length ec).ownBlock = some g → g < wr.heap.size) := fun g hg => (HJJ.out.2.lt g hg).2
     have a0 := x6.cell 0 _ rfl
     have a1 := x6.cell 1 _ rfl
     have al := x6.lt
     obtain ⟨b0, b1, b2, b3⟩ := bxc4 x7
     have bf2 := x7.free 2
     have bl := x7.lt
     clear x6 x7 hb11
     obtain ⟨em, hem⟩ : ∃ em, em = y2.toList.isEmpty := ⟨_, rfl⟩
     have HPT : Hid (propT ⟨y1, y2⟩ = .mk y1.data.toList [] (if em then [] else [.mk [] [] [] y2.data.toList]) []) := by show _ = _; rw [hem]; rfl
     have hE : y2.toList.isEmpty = em := hem.symm
     have hE2 : (!y2.toList.isEmpty) = !em := by rw [hE]
     clear hem
     go_upto_if 37 with fail
     go_cut [] from 35 to 42 (fun wx => ∃ ko kn kc, Hid (Box wx (wr.heap.size + 1) [.string y1, .slice none 0 0, .slice ko kn kc, .string ⟨#[]⟩] ∧ Below wr.heap.size wr wx ∧ NodeX (fun j => j < wr.heap.size) wx (propT ⟨y1, y2⟩) (.slice none 0 0) (.slice ko kn kc)))
     case first =>
      cases em with
      | true =>
       have HPN : Hid (propT ⟨y1, y2⟩ = .mk y1.data.toList [] [] []) := HPT.out
       clear HPT
       go_wp2
       go_meet
       case rel => exact ⟨none, 0, 0, HX7.out, HB11.out, by rw [HPN.out]; exact .mk [] SliceX.nil rfl SliceX.nil (by simp)⟩
      | false =>
       have HPN : Hid (propT ⟨y1, y2⟩ = .mk y1.data.toList [] [.mk [] [] [] y2.data.toList] []) := HPT.out
       clear HPT
       go_wp2
       go_meet
       case rel =>
        refine ⟨some ⟨W11.heap.size, 0, none⟩, 1, 1, (HX7.out.set 2 _).alloc _, (HB11.out.setCell (p := ⟨wr.heap.size + 1, 2, none⟩) (by exact (by omega : wr.heap.size ≤ wr.heap.size + 1)) _).alloc (by simpa using HB11.out.size) _, ?_⟩
        rw [HPN.out]
        have h1 := leaf_node (fun j => j < wr.heap.size) y1.data.toList y2.data.toList (W11.setCell ⟨wr.heap.size + 1, 2, none⟩ (.slice (some ⟨W11.heap.size, 0, none⟩) 1 1)) W11.heap.size (by simp) (fun h => by have := HSW.out; omega)
        rw [data_bs] at h1
        exact h1
     case rest =>
      obtain ⟨ko, kn, kc, hcc⟩ := hcut
      have HX7c := Lib.hid hcc.out.1
      have HBc := Lib.hid hcc.out.2.1
      have HNc := Lib.hid hcc.out.2.2
      clear hcc a0 a1 al b0 b1 b2 b3 bf2 bl HX6 HX7 HB11 HPT hE hE2
      have HXG := Lib.hid (HJJ.out.2.below HBc.out)
      have hlt : SliceOf 4 trC (wc.alloc (.cells #[.string y1, .slice none 0 0, .slice ko kn kc, .string ⟨#[]⟩] 25)) (.slice (some ⟨wc.heap.size, 0, none⟩) 1 1) [((propT ⟨y1, y2⟩, .slice none 0 0, .slice ko kn kc) : TrV)] := by
       have h := tr_lit ((propT ⟨y1, y2⟩, .slice none 0 0, .slice ko kn kc) : TrV) wc wc.heap.size rfl
       rw [show (trC ((propT ⟨y1, y2⟩, .slice none 0 0, .slice ko kn kc) : TrV)).toArray = #[.string y1, .slice none 0 0, .slice ko kn kc, .string ⟨#[]⟩] from by show #[Value.string (bs y1.data.toList), _, _, Value.string (bs [])] = _; rw [data_bs]; rfl] at h
       exact h
      have HLT := Lib.hid hlt
      have hone : ∀ u ∈ trC ((propT ⟨y1, y2⟩, .slice none 0 0, .slice ko kn kc) : TrV), u.oneCell' = true := tr_one _ _ _ _ _ _ _ _ _ _
      have HONE := Lib.hid hone
      clear hlt hone
      obtain ⟨b0, b1, b2, b3⟩ := bxc4 HX7c.out
      have bl := HX7c.out.lt
      go_wp2_with (at_builtin; refine wpList_append_slice _ rfl _ _ 23 rfl w7.heap.size 25 Tryz.underlying23 info_node rfl (by decide) trC_len (.slice eo XL.length ec) XL rfl (HXG.out.own.alloc _) _ [((propT ⟨y1, y2⟩, .slice none 0 0, .slice ko kn kc) : TrV)] rfl HLT.out (fun y hy => by obtain rfl := List.mem_singleton.1 hy; exact HONE.out) (by have h1 := HXL.out; simp only [List.length_cons, List.length_nil]; omega) (by decide) (by have h1 := HJJ.out.1.size; have h2 := HBc.out.size; simp; omega) ?_; intro v9 w9 hown9 hgrow9 hloc9; have HO9 := Lib.hid hown9; have HG9 := Lib.hid hgrow9; have HL9 := Lib.hid hloc9; clear hown9 hgrow9 hloc9; obtain ⟨a9, c9, rfl⟩ := HO9.out.shape)
      go_roundw
      case rel =>
       have hal := (Below.refl wc.heap.size wc).alloc (Nat.le_refl _) (.cells #[.string y1, .slice none 0 0, .slice ko kn kc, .string ⟨#[]⟩] 25)
       have hw := HBc.out.alloc HBc.out.size (.cells #[.string y1, .slice none 0 0, .slice ko kn kc, .string ⟨#[]⟩] 25)
       have hgr := HJJ.out.2.snoc hw HO9.out HG9.out HL9.out ((HNc.out.keep (KeptX.refl _ _) (fun j _ hj => hj.elim (fun h => Nat.lt_of_lt_of_le h HJJ.out.1.size) (fun h => HXO.out j h.symm))).later hal)
       refine ⟨j + 1, a9, c9, XL ++ [((propT ⟨y1, y2⟩, .slice none 0 0, .slice ko kn kc) : TrV)], HJT.out, by go_num, by simp, HJJ.out.1.trans ((hw.mono HJJ.out.1.size).trans (below_own HG9.out (fun g hg => (HJJ.out.2.lt g hg).1) (Nat.le_trans HJJ.out.1.size hw.size))), ?_⟩
       rw [HTJ.out, List.map_append, List.map_cons, List.map_nil]
       exact hgr
      case measure => simp [intOf]; have := HJT.out; omega
   · obtain rfl : j = dp.length := by omega
     have hX := HJJ.out.2
     rw [List.take_length] at hX
     obtain ⟨PS, hPS⟩ : ∃ PS, PS = dp.map propT := ⟨_, rfl⟩
     rw [← hPS] at hX
     have HPS := Lib.hid hPS
     have HXR := Lib.hid (hX.rowX (X := fun j => j < W2.heap.size) (fun j h => Nat.lt_of_lt_of_le h HBW.out.size))
     have HPB := Lib.hid HJJ.out.1
     have HWS : Hid (W2.heap.size ≤ wr.heap.size) := Nat.le_trans HBW.out.size HJJ.out.1.size
     have HBR := Lib.hid (HBW.out.trans (HJJ.out.1.mono HBW.out.size))
     have HBZ := Lib.hid (HB2.out.trans (HBR.out.mono HB2.out.size))
     have HPZ := Lib.hid (HP0.out.below HBR.out HP0.out.lt)
     have HRZ := Lib.hid (HR0.out.below HBR.out HR0.out.lt)
     have HSR : Hid (w.heap.size + 1 < W2.heap.size) := HR0.out.lt
     have HL8 : Hid (∀ ts ∈ [parentL hp ⟨px, py, pz⟩, leafT bGroup dg, leafT bArtifact da, leafT bVersion dv, leafT bPackaging dk, branchT bProperties PS, branchT bManagement (depsT dm), depsT dd], ts.length ≤ 100000) := by
      intro ts h
      simp only [List.mem_cons, List.not_mem_nil, or_false] at h
      rcases h with rfl | rfl | rfl | rfl | rfl | rfl | rfl | rfl
      all_goals first | exact Nat.le_trans (leafT_len _ _) (by decide) | exact Nat.le_trans (branchT_len _ _) (by decide) | exact Nat.le_trans (parentL_len _ _) (by decide)
     clear hX hPS HD
     go_upto_region 12 with fail
     refine wp_region_flags0 (w12J w.heap.size (w.heap.size + 1) W2.heap.size hp px py pz dg da dv dk dm dd PS lo ln lc eo XL.length ec a2 dm.length a5 a3 dd.length a6 wr _ _ _ _ _ _ _ _ _ _ _ _ _ _ _ _ _ _ _ _ _ _ _ _ _ _ _ _ _ _ _ _ _ _ _ _ _ _ _ _ _ _ _ _ _ _ _ _) (by kernel_rfl) 26 rfl (by kernel_rfl) (w12J.at false false false false false false false false false false false false false false false false false false false false false false false false false false (none) (0) (0) (none) (0) (0) (none) (0) (0) (none) (0) (0) (none) (0) (0) (none) (0) (0) (none) (0) (0) (none) (0) (0) (0) (none) (0) (0) rfl (by unfold w12Upd; rfl) ?i0 ?i1 ?i2 ?i3 ?i4 ?i5 ?i6 ?i7 ?i8 ?i9 ?i10 ?i11 ?i12 ?i13 ?i14 ?i15 ?i16 ?i17 ?i18 ?i19 ?i20 ?i21 ?i22 ?i23 ?i24 ?i25 ?i26 ?i27 ?i28 ?i29) ?fin ?step
     case i0 => exact Lib.hid (by simp)
     case i1 => exact Lib.hid (by simp)
     case i2 => exact Lib.hid (by simp)
     case i3 => exact Lib.hid (by simp)
     case i4 => exact Lib.hid (by simp)
     case i5 => exact Lib.hid (by simp)
     case i6 => exact Lib.hid (by simp)
     case i7 => exact Lib.hid (by simp)
     case i8 => exact Lib.hid (by simp)
     case i9 => exact Lib.hid (by simp)
     case i10 => exact Lib.hid (by simp)
     case i11 => exact Lib.hid (by simp)
     case i12 => exact Lib.hid (by simp)
     case i13 => exact Lib.hid (by simp)
     case i14 => exact Lib.hid (by simp)
     case i15 => exact Lib.hid (by simp)
     case i16 => exact Lib.hid (by simp)
     case i17 => exact Lib.hid (by simp)
     case i18 => exact fun h0 => belowN (Below.refl _ _) 1
     case i19 => exact by simp
     case i20 => exact by simp
     case i21 => exact by simp
     case i22 => exact by simp
     case i23 => exact by simp
     case i24 => exact by simp
     case i25 => exact by simp
     case i26 => exact by simp
     case i27 => exact by simp
     case i28 => exact by simp
     case i29 => exact by simp
     case fin =>
      intro a' w' hJ
      generalize hl : Array.replicate 26 true = Lz at hJ
      cases hJ with
      | mk f0 f1 f2 f3 f4 f5 f6 f7 f8 f9 f10 f11 f12 f13 f14 f15 f16 f17 f18 f19 f20 f21 f22 f23 f24 f25 o51 n51 c51 o54 n54 c54 o57 n57 c57 o60 n60 c60 o62 n62 c62 o65 n65 c65 o66 n66 c66 o69 n69 c69 H70 o71 n71 c71 _ ch2 ch3 ch5 ch6 ch8 ch9 ch11 ch12 ch14 ch16 ch17 ch18 ch20 ch21 ch22 ch23 ch24 ch25 hB r51 r54 r57 r60 r62 r65 r66 r69 r70 r71 r99 =>
       have hl' : [true, true, true, true, true, true, true, true, true, true, true, true, true, true, true, true, true, true, true, true, true, true, true, true, true, true] = [f0, f1, f2, f3, f4, f5, f6, f7, f8, f9, f10, f11, f12, f13, f14, f15, f16, f17, f18, f19, f20, f21, f22, f23, f24, f25] := congrArg Array.toList hl
       simp only [List.cons.injEq, and_true] at hl'
       obtain ⟨rfl, rfl, rfl, rfl, rfl, rfl, rfl, rfl, rfl, rfl, rfl, rfl, rfl, rfl, rfl, rfl, rfl, rfl, rfl, rfl, rfl, rfl, rfl, rfl, rfl, rfl⟩ := hl'
       clear hl
       unfold w12Upd
       simp only [cond_true]
       have HZ := Lib.hid (r99 rfl)
       clear ch2 ch3 ch5 ch6 ch8 ch9 ch11 ch12 ch14 ch16 ch17 ch18 ch20 ch21 ch22 ch23 ch24 ch25 hB r51 r54 r57 r60 r62 r65 r66 r69 r70 r71 r99
       have HTT : T = .mk bProject [] ([parentL hp ⟨px, py, pz⟩, leafT bGroup dg, leafT bArtifact da, leafT bVersion dv, leafT bPackaging dk, branchT bProperties PS, branchT bManagement (depsT dm), depsT dd].flatten) [] := by
        rw [HT.out, HPS.out]
        simp [writeT, List.append_assoc]
       have HTT := Lib.hid HTT
       go_wp2
       refine bodyPost_ret (results_cell_box rfl _ _ (w.heap.size + 1) [.string (bs bProject), .slice none 0 0, .slice o71 n71 c71, .string ⟨#[]⟩] rfl HZ.out.1 Tryz.underlying25 rfl size_node) rfl ?_
       refine ⟨.slice o71 n71 c71, ?_, ?_, ?_⟩
       · rw [HTT.out]; rfl
       · rw [HTT.out]
         exact (HZ.out.2.1.node bProject).node
       · exact HBZ.out.trans (HZ.out.2.2.mono (Nat.le_succ _))
     case step =>
      intro listed a' w' hJ i hi
      cases hJ with
      | mk f0 f1 f2 f3 f4 f5 f6 f7 f8 f9 f10 f11 f12 f13 f14 f15 f16 f17 f18 f19 f20 f21 f22 f23 f24 f25 o51 n51 c51 o54 n54 c54 o57 n57 c57 o60 n60 c60 o62 n62 c62 o65 n65 c65 o66 n66 c66 o69 n69 c69 H70 o71 n71 c71 _ ch2 ch3 ch5 ch6 ch8 ch9 ch11 ch12 ch14 ch16 ch17 ch18 ch20 ch21 ch22 ch23 ch24 ch25 hB r51 r54 r57 r60 r62 r65 r66 r69 r70 r71 r99 =>
       rw [mem_ready] at hi
       obtain ⟨hu, o, ho, ha⟩ := hi
       have hi8 : i < 26 := (Array.getElem?_eq_some_iff.1 ho).1
       rcases (by omega : i = 0 ∨ i = 1 ∨ i = 2 ∨ i = 3 ∨ i = 4 ∨ i = 5 ∨ i = 6 ∨ i = 7 ∨ i = 8 ∨ i = 9 ∨ i = 10 ∨ i = 11 ∨ i = 12 ∨ i = 13 ∨ i = 14 ∨ i = 15 ∨ i = 16 ∨ i = 17 ∨ i = 18 ∨ i = 19 ∨ i = 20 ∨ i = 21 ∨ i = 22 ∨ i = 23 ∨ i = 24 ∨ i = 25) with rfl | rfl | rfl | rfl | rfl | rfl | rfl | rfl | rfl | rfl | rfl | rfl | rfl | rfl | rfl | rfl | rfl | rfl | rfl | rfl | rfl | rfl | rfl | rfl | rfl | rfl
       · have ho' := ho
         simp at hu ho
         subst hu ho
         clear ha
         have e22 : f22 = false := Bool.eq_false_iff.2 fun h => Bool.false_ne_true ((ch22.out h).1)
         have e23 : f23 = false := Bool.eq_false_iff.2 fun h => Bool.false_ne_true ((ch22.out (ch23.out h)).1)
         have e24 : f24 = false := Bool.eq_false_iff.2 fun h => Bool.false_ne_true ((ch22.out (ch23.out (ch24.out h))).1)
         have e25 : f25 = false := Bool.eq_false_iff.2 fun h => Bool.false_ne_true ((ch22.out (ch23.out (ch24.out (ch25.out h).1))).1)
         subst e22 e23 e24 e25
         refine .inl ?_
         unfold w12Upd Oper.wp
         go_simp
         exact w12J.at true f1 f2 f3 f4 f5 f6 f7 f8 f9 f10 f11 f12 f13 f14 f15 f16 f17 f18 f19 f20 f21 false false false false (o51) (n51) (c51) (o54) (n54) (c54) (o57) (n57) (c57) (o60) (n60) (c60) (o62) (n62) (c62) (o65) (n65) (c65) (o66) (n66) (c66) (o69) (n69) (c69) (H70) (o71) (n71) (c71) rfl rfl (ch2) (ch3) (ch5) (ch6) (ch8) (ch9) (ch11) (ch12) (ch14) (ch16) (ch17) (ch18) (ch20) (ch21) (Lib.hid (by simp)) (Lib.hid (by simp)) (Lib.hid (by simp)) (Lib.hid (by simp)) (hB) (r51) (r54) (r57) (r60) (r62) (r65) (r66) (r69) (by simp) (by simp) (by simp)
       · have ho' := ho
         simp at hu ho
         subst hu ho
         clear ha
         have e2 : f2 = false := Bool.eq_false_iff.2 fun h => Bool.false_ne_true ((ch2.out h))
         have e3 : f3 = false := Bool.eq_false_iff.2 fun h => Bool.false_ne_true ((ch2.out (ch3.out h)))
         have e22 : f22 = false := Bool.eq_false_iff.2 fun h => Bool.false_ne_true ((ch2.out (ch3.out (ch22.out h).2.1)))
         have e23 : f23 = false := Bool.eq_false_iff.2 fun h => Bool.false_ne_true ((ch2.out (ch3.out (ch22.out (ch23.out h)).2.1)))
         have e24 : f24 = false := Bool.eq_false_iff.2 fun h => Bool.false_ne_true ((ch2.out (ch3.out (ch22.out (ch23.out (ch24.out h))).2.1)))
         have e25 : f25 = false := Bool.eq_false_iff.2 fun h => Bool.false_ne_true ((ch2.out (ch3.out (ch22.out (ch23.out (ch24.out (ch25.out h).1))).2.1)))
         subst e2 e3 e22 e23 e24 e25
         refine .inl ?_
         unfold w12Upd Oper.wp
         go_simp
         exact w12J.at f0 true false false f4 f5 f6 f7 f8 f9 f10 f11 f12 f13 f14 f15 f16 f17 f18 f19 f20 f21 false false false false (o51) (n51) (c51) (o54) (n54) (c54) (o57) (n57) (c57) (o60) (n60) (c60) (o62) (n62) (c62) (o65) (n65) (c65) (o66) (n66) (c66) (o69) (n69) (c69) (H70) (o71) (n71) (c71) rfl rfl (Lib.hid (by simp)) (Lib.hid (by simp)) (ch5) (ch6) (ch8) (ch9) (ch11) (ch12) (ch14) (ch16) (ch17) (ch18) (ch20) (ch21) (Lib.hid (by simp)) (Lib.hid (by simp)) (Lib.hid (by simp)) (Lib.hid (by simp)) (hB) (by simp) (r54) (r57) (r60) (r62) (r65) (r66) (r69) (by simp) (by simp) (by simp)
       · have ho' := ho
         simp at hu ho
         subst hu ho
         simp [Region.binds] at ha
         obtain rfl : f1 = true := by simp only [ha]
         clear ha
         have e3 : f3 = false := Bool.eq_false_iff.2 fun h => Bool.false_ne_true ((ch3.out h))
         have e22 : f22 = false := Bool.eq_false_iff.2 fun h => Bool.false_ne_true ((ch3.out (ch22.out h).2.1))
         have e23 : f23 = false := Bool.eq_false_iff.2 fun h => Bool.false_ne_true ((ch3.out (ch22.out (ch23.out h)).2.1))
         have e24 : f24 = false := Bool.eq_false_iff.2 fun h => Bool.false_ne_true ((ch3.out (ch22.out (ch23.out (ch24.out h))).2.1))
         have e25 : f25 = false := Bool.eq_false_iff.2 fun h => Bool.false_ne_true ((ch3.out (ch22.out (ch23.out (ch24.out (ch25.out h).1))).2.1))
         subst e3 e22 e23 e24 e25
         have hB1 := hB rfl
         have k0 := (hB1.cell (p := ⟨w.heap.size, 4, none⟩) (by exact HPZ.out.lt)).trans (HPZ.out.cell 4 _ rfl)
         have kl := Nat.lt_of_lt_of_le HPZ.out.lt hB1.size
         refine .inl ?_
         unfold w12Upd Oper.wp
         go_simp
         exact w12J.at f0 true true false f4 f5 f6 f7 f8 f9 f10 f11 f12 f13 f14 f15 f16 f17 f18 f19 f20 f21 false false false false (o51) (n51) (c51) (o54) (n54) (c54) (o57) (n57) (c57) (o60) (n60) (c60) (o62) (n62) (c62) (o65) (n65) (c65) (o66) (n66) (c66) (o69) (n69) (c69) (H70) (o71) (n71) (c71) rfl rfl (Lib.hid (by simp)) (Lib.hid (by simp)) (ch5) (ch6) (ch8) (ch9) (ch11) (ch12) (ch14) (ch16) (ch17) (ch18) (ch20) (ch21) (Lib.hid (by simp)) (Lib.hid (by simp)) (Lib.hid (by simp)) (Lib.hid (by simp)) (hB) (by simp) (r54) (r57) (r60) (r62) (r65) (r66) (r69) (by simp) (by simp) (by simp)
       · have ho' := ho
         simp at hu ho
         subst hu ho
         simp [Region.binds] at ha
         obtain rfl : f2 = true := by simp only [ha]
         clear ha
         obtain rfl : f1 = true := (ch2.out rfl)
         have e22 : f22 = false := Bool.eq_false_iff.2 fun h => Bool.false_ne_true ((ch22.out h).2.1)
         have e23 : f23 = false := Bool.eq_false_iff.2 fun h => Bool.false_ne_true ((ch22.out (ch23.out h)).2.1)
         have e24 : f24 = false := Bool.eq_false_iff.2 fun h => Bool.false_ne_true ((ch22.out (ch23.out (ch24.out h))).2.1)
         have e25 : f25 = false := Bool.eq_false_iff.2 fun h => Bool.false_ne_true ((ch22.out (ch23.out (ch24.out (ch25.out h).1))).2.1)
         subst e22 e23 e24 e25
         have hS := (hB rfl).size
         refine .inl ?_
         unfold w12Upd Oper.wp
         go_simp
         refine (leafR_any (fun j => j < W2.heap.size) bGroup dg w' (fun j h => Nat.lt_of_lt_of_le (Nat.lt_of_lt_of_le h HWS.out) hS)).mono ?_
         intro e w1 hO
         obtain ⟨o1, n1, c1, rfl, hr, hb⟩ := hO
         exact w12J.at f0 true true true f4 f5 f6 f7 f8 f9 f10 f11 f12 f13 f14 f15 f16 f17 f18 f19 f20 f21 false false false false (o1) (n1) (c1) (o54) (n54) (c54) (o57) (n57) (c57) (o60) (n60) (c60) (o62) (n62) (c62) (o65) (n65) (c65) (o66) (n66) (c66) (o69) (n69) (c69) (H70) (o71) (n71) (c71) rfl rfl (Lib.hid (by simp)) (Lib.hid (by simp)) (ch5) (ch6) (ch8) (ch9) (ch11) (ch12) (ch14) (ch16) (ch17) (ch18) (ch20) (ch21) (Lib.hid (by simp)) (Lib.hid (by simp)) (Lib.hid (by simp)) (Lib.hid (by simp)) (fun h0 => (hB h0).trans (hb.mono hS)) (fun h0 h1 => hr) (fun h0 h1 => (r54 h0 h1).later hb) (fun h0 h1 => (r57 h0 h1).later hb) (fun h0 h1 => (r60 h0 h1).later hb) (fun h0 h1 => (r62 h0 h1).later hb) (fun h0 h1 => (r65 h0 h1).later hb) (fun h0 h1 => (r66 h0 h1).later hb) (fun h0 h1 => (r69 h0 h1).later hb) (by simp) (by simp) (by simp)
       · have ho' := ho
         simp at hu ho
         subst hu ho
         clear ha
         have e5 : f5 = false := Bool.eq_false_iff.2 fun h => Bool.false_ne_true ((ch5.out h))
         have e6 : f6 = false := Bool.eq_false_iff.2 fun h => Bool.false_ne_true ((ch5.out (ch6.out h)))
         have e22 : f22 = false := Bool.eq_false_iff.2 fun h => Bool.false_ne_true ((ch5.out (ch6.out (ch22.out h).2.2.1)))
         have e23 : f23 = false := Bool.eq_false_iff.2 fun h => Bool.false_ne_true ((ch5.out (ch6.out (ch22.out (ch23.out h)).2.2.1)))
         have e24 : f24 = false := Bool.eq_false_iff.2 fun h => Bool.false_ne_true ((ch5.out (ch6.out (ch22.out (ch23.out (ch24.out h))).2.2.1)))
         have e25 : f25 = false := Bool.eq_false_iff.2 fun h => Bool.false_ne_true ((ch5.out (ch6.out (ch22.out (ch23.out (ch24.out (ch25.out h).1))).2.2.1)))
         subst e5 e6 e22 e23 e24 e25
         refine .inl ?_
         unfold w12Upd Oper.wp
         go_simp
         exact w12J.at f0 f1 f2 f3 true false false f7 f8 f9 f10 f11 f12 f13 f14 f15 f16 f17 f18 f19 f20 f21 false false false false (o51) (n51) (c51) (o54) (n54) (c54) (o57) (n57) (c57) (o60) (n60) (c60) (o62) (n62) (c62) (o65) (n65) (c65) (o66) (n66) (c66) (o69) (n69) (c69) (H70) (o71) (n71) (c71) rfl rfl (ch2) (ch3) (Lib.hid (by simp)) (Lib.hid (by simp)) (ch8) (ch9) (ch11) (ch12) (ch14) (ch16) (ch17) (ch18) (ch20) (ch21) (Lib.hid (by simp)) (Lib.hid (by simp)) (Lib.hid (by simp)) (Lib.hid (by simp)) (hB) (r51) (by simp) (r57) (r60) (r62) (r65) (r66) (r69) (by simp) (by simp) (by simp)
       · have ho' := ho
         simp at hu ho
         subst hu ho
         simp [Region.binds] at ha
         obtain rfl : f4 = true := by simp only [ha]
         clear ha
         have e6 : f6 = false := Bool.eq_false_iff.2 fun h => Bool.false_ne_true ((ch6.out h))
         have e22 : f22 = false := Bool.eq_false_iff.2 fun h => Bool.false_ne_true ((ch6.out (ch22.out h).2.2.1))
         have e23 : f23 = false := Bool.eq_false_iff.2 fun h => Bool.false_ne_true ((ch6.out (ch22.out (ch23.out h)).2.2.1))
         have e24 : f24 = false := Bool.eq_false_iff.2 fun h => Bool.false_ne_true ((ch6.out (ch22.out (ch23.out (ch24.out h))).2.2.1))
         have e25 : f25 = false := Bool.eq_false_iff.2 fun h => Bool.false_ne_true ((ch6.out (ch22.out (ch23.out (ch24.out (ch25.out h).1))).2.2.1))
         subst e6 e22 e23 e24 e25
         have hB1 := hB rfl
         have k0 := (hB1.cell (p := ⟨w.heap.size, 5, none⟩) (by exact HPZ.out.lt)).trans (HPZ.out.cell 5 _ rfl)
         have kl := Nat.lt_of_lt_of_le HPZ.out.lt hB1.size
         refine .inl ?_
         unfold w12Upd Oper.wp
         go_simp
         exact w12J.at f0 f1 f2 f3 true true false f7 f8 f9 f10 f11 f12 f13 f14 f15 f16 f17 f18 f19 f20 f21 false false false false (o51) (n51) (c51) (o54) (n54) (c54) (o57) (n57) (c57) (o60) (n60) (c60) (o62) (n62) (c62) (o65) (n65) (c65) (o66) (n66) (c66) (o69) (n69) (c69) (H70) (o71) (n71) (c71) rfl rfl (ch2) (ch3) (Lib.hid (by simp)) (Lib.hid (by simp)) (ch8) (ch9) (ch11) (ch12) (ch14) (ch16) (ch17) (ch18) (ch20) (ch21) (Lib.hid (by simp)) (Lib.hid (by simp)) (Lib.hid (by simp)) (Lib.hid (by simp)) (hB) (r51) (by simp) (r57) (r60) (r62) (r65) (r66) (r69) (by simp) (by simp) (by simp)
       · have ho' := ho
         simp at hu ho
         subst hu ho
         simp [Region.binds] at ha
         obtain rfl : f5 = true := by simp only [ha]
         clear ha
         obtain rfl : f4 = true := (ch5.out rfl)
         have e22 : f22 = false := Bool.eq_false_iff.2 fun h => Bool.false_ne_true ((ch22.out h).2.2.1)
         have e23 : f23 = false := Bool.eq_false_iff.2 fun h => Bool.false_ne_true ((ch22.out (ch23.out h)).2.2.1)
         have e24 : f24 = false := Bool.eq_false_iff.2 fun h => Bool.false_ne_true ((ch22.out (ch23.out (ch24.out h))).2.2.1)
         have e25 : f25 = false := Bool.eq_false_iff.2 fun h => Bool.false_ne_true ((ch22.out (ch23.out (ch24.out (ch25.out h).1))).2.2.1)
         subst e22 e23 e24 e25
         have hS := (hB rfl).size
         refine .inl ?_
         unfold w12Upd Oper.wp
         go_simp
         refine (leafR_any (fun j => j < W2.heap.size) bArtifact da w' (fun j h => Nat.lt_of_lt_of_le (Nat.lt_of_lt_of_le h HWS.out) hS)).mono ?_
         intro e w1 hO
         obtain ⟨o1, n1, c1, rfl, hr, hb⟩ := hO
         exact w12J.at f0 f1 f2 f3 true true true f7 f8 f9 f10 f11 f12 f13 f14 f15 f16 f17 f18 f19 f20 f21 false false false false (o51) (n51) (c51) (o1) (n1) (c1) (o57) (n57) (c57) (o60) (n60) (c60) (o62) (n62) (c62) (o65) (n65) (c65) (o66) (n66) (c66) (o69) (n69) (c69) (H70) (o71) (n71) (c71) rfl rfl (ch2) (ch3) (Lib.hid (by simp)) (Lib.hid (by simp)) (ch8) (ch9) (ch11) (ch12) (ch14) (ch16) (ch17) (ch18) (ch20) (ch21) (Lib.hid (by simp)) (Lib.hid (by simp)) (Lib.hid (by simp)) (Lib.hid (by simp)) (fun h0 => (hB h0).trans (hb.mono hS)) (fun h0 h1 => (r51 h0 h1).later hb) (fun h0 h1 => hr) (fun h0 h1 => (r57 h0 h1).later hb) (fun h0 h1 => (r60 h0 h1).later hb) (fun h0 h1 => (r62 h0 h1).later hb) (fun h0 h1 => (r65 h0 h1).later hb) (fun h0 h1 => (r66 h0 h1).later hb) (fun h0 h1 => (r69 h0 h1).later hb) (by simp) (by simp) (by simp)
       · have ho' := ho
         simp at hu ho
         subst hu ho
         clear ha
         have e8 : f8 = false := Bool.eq_false_iff.2 fun h => Bool.false_ne_true ((ch8.out h))
         have e9 : f9 = false := Bool.eq_false_iff.2 fun h => Bool.false_ne_true ((ch8.out (ch9.out h)))
         have e22 : f22 = false := Bool.eq_false_iff.2 fun h => Bool.false_ne_true ((ch8.out (ch9.out (ch22.out h).2.2.2.1)))
         have e23 : f23 = false := Bool.eq_false_iff.2 fun h => Bool.false_ne_true ((ch8.out (ch9.out (ch22.out (ch23.out h)).2.2.2.1)))
         have e24 : f24 = false := Bool.eq_false_iff.2 fun h => Bool.false_ne_true ((ch8.out (ch9.out (ch22.out (ch23.out (ch24.out h))).2.2.2.1)))
         have e25 : f25 = false := Bool.eq_false_iff.2 fun h => Bool.false_ne_true ((ch8.out (ch9.out (ch22.out (ch23.out (ch24.out (ch25.out h).1))).2.2.2.1)))
         subst e8 e9 e22 e23 e24 e25
         refine .inl ?_
         unfold w12Upd Oper.wp
         go_simp
         exact w12J.at f0 f1 f2 f3 f4 f5 f6 true false false f10 f11 f12 f13 f14 f15 f16 f17 f18 f19 f20 f21 false false false false (o51) (n51) (c51) (o54) (n54) (c54) (o57) (n57) (c57) (o60) (n60) (c60) (o62) (n62) (c62) (o65) (n65) (c65) (o66) (n66) (c66) (o69) (n69) (c69) (H70) (o71) (n71) (c71) rfl rfl (ch2) (ch3) (ch5) (ch6) (Lib.hid (by simp)) (Lib.hid (by simp)) (ch11) (ch12) (ch14) (ch16) (ch17) (ch18) (ch20) (ch21) (Lib.hid (by simp)) (Lib.hid (by simp)) (Lib.hid (by simp)) (Lib.hid (by simp)) (hB) (r51) (r54) (by simp) (r60) (r62) (r65) (r66) (r69) (by simp) (by simp) (by simp)
       · have ho' := ho
         simp at hu ho
         subst hu ho
         simp [Region.binds] at ha
         obtain rfl : f7 = true := by simp only [ha]
         clear ha
         have e9 : f9 = false := Bool.eq_false_iff.2 fun h => Bool.false_ne_true ((ch9.out h))
         have e22 : f22 = false := Bool.eq_false_iff.2 fun h => Bool.false_ne_true ((ch9.out (ch22.out h).2.2.2.1))
         have e23 : f23 = false := Bool.eq_false_iff.2 fun h => Bool.false_ne_true ((ch9.out (ch22.out (ch23.out h)).2.2.2.1))
         have e24 : f24 = false := Bool.eq_false_iff.2 fun h => Bool.false_ne_true ((ch9.out (ch22.out (ch23.out (ch24.out h))).2.2.2.1))
         have e25 : f25 = false := Bool.eq_false_iff.2 fun h => Bool.false_ne_true ((ch9.out (ch22.out (ch23.out (ch24.out (ch25.out h).1))).2.2.2.1))
         subst e9 e22 e23 e24 e25
         have hB1 := hB rfl
         have k0 := (hB1.cell (p := ⟨w.heap.size, 6, none⟩) (by exact HPZ.out.lt)).trans (HPZ.out.cell 6 _ rfl)
         have kl := Nat.lt_of_lt_of_le HPZ.out.lt hB1.size
         refine .inl ?_
         unfold w12Upd Oper.wp
         go_simp
         exact w12J.at f0 f1 f2 f3 f4 f5 f6 true true false f10 f11 f12 f13 f14 f15 f16 f17 f18 f19 f20 f21 false false false false (o51) (n51) (c51) (o54) (n54) (c54) (o57) (n57) (c57) (o60) (n60) (c60) (o62) (n62) (c62) (o65) (n65) (c65) (o66) (n66) (c66) (o69) (n69) (c69) (H70) (o71) (n71) (c71) rfl rfl (ch2) (ch3) (ch5) (ch6) (Lib.hid (by simp)) (Lib.hid (by simp)) (ch11) (ch12) (ch14) (ch16) (ch17) (ch18) (ch20) (ch21) (Lib.hid (by simp)) (Lib.hid (by simp)) (Lib.hid (by simp)) (Lib.hid (by simp)) (hB) (r51) (r54) (by simp) (r60) (r62) (r65) (r66) (r69) (by simp) (by simp) (by simp)
       · have ho' := ho
         simp at hu ho
         subst hu ho
         simp [Region.binds] at ha
         obtain rfl : f8 = true := by simp only [ha]
         clear ha
         obtain rfl : f7 = true := (ch8.out rfl)
         have e22 : f22 = false := Bool.eq_false_iff.2 fun h => Bool.false_ne_true ((ch22.out h).2.2.2.1)
         have e23 : f23 = false := Bool.eq_false_iff.2 fun h => Bool.false_ne_true ((ch22.out (ch23.out h)).2.2.2.1)
         have e24 : f24 = false := Bool.eq_false_iff.2 fun h => Bool.false_ne_true ((ch22.out (ch23.out (ch24.out h))).2.2.2.1)
         have e25 : f25 = false := Bool.eq_false_iff.2 fun h => Bool.false_ne_true ((ch22.out (ch23.out (ch24.out (ch25.out h).1))).2.2.2.1)
         subst e22 e23 e24 e25
         have hS := (hB rfl).size
         refine .inl ?_
         unfold w12Upd Oper.wp
         go_simp
         refine (leafR_any (fun j => j < W2.heap.size) bVersion dv w' (fun j h => Nat.lt_of_lt_of_le (Nat.lt_of_lt_of_le h HWS.out) hS)).mono ?_
         intro e w1 hO
         obtain ⟨o1, n1, c1, rfl, hr, hb⟩ := hO
         exact w12J.at f0 f1 f2 f3 f4 f5 f6 true true true f10 f11 f12 f13 f14 f15 f16 f17 f18 f19 f20 f21 false false false false (o51) (n51) (c51) (o54) (n54) (c54) (o1) (n1) (c1) (o60) (n60) (c60) (o62) (n62) (c62) (o65) (n65) (c65) (o66) (n66) (c66) (o69) (n69) (c69) (H70) (o71) (n71) (c71) rfl rfl (ch2) (ch3) (ch5) (ch6) (Lib.hid (by simp)) (Lib.hid (by simp)) (ch11) (ch12) (ch14) (ch16) (ch17) (ch18) (ch20) (ch21) (Lib.hid (by simp)) (Lib.hid (by simp)) (Lib.hid (by simp)) (Lib.hid (by simp)) (fun h0 => (hB h0).trans (hb.mono hS)) (fun h0 h1 => (r51 h0 h1).later hb) (fun h0 h1 => (r54 h0 h1).later hb) (fun h0 h1 => hr) (fun h0 h1 => (r60 h0 h1).later hb) (fun h0 h1 => (r62 h0 h1).later hb) (fun h0 h1 => (r65 h0 h1).later hb) (fun h0 h1 => (r66 h0 h1).later hb) (fun h0 h1 => (r69 h0 h1).later hb) (by simp) (by simp) (by simp)
       · have ho' := ho
         simp at hu ho
         subst hu ho
         clear ha
         have e11 : f11 = false := Bool.eq_false_iff.2 fun h => Bool.false_ne_true ((ch11.out h))
         have e12 : f12 = false := Bool.eq_false_iff.2 fun h => Bool.false_ne_true ((ch11.out (ch12.out h)))
         have e22 : f22 = false := Bool.eq_false_iff.2 fun h => Bool.false_ne_true ((ch11.out (ch12.out (ch22.out h).2.2.2.2.1)))
         have e23 : f23 = false := Bool.eq_false_iff.2 fun h => Bool.false_ne_true ((ch11.out (ch12.out (ch22.out (ch23.out h)).2.2.2.2.1)))
         have e24 : f24 = false := Bool.eq_false_iff.2 fun h => Bool.false_ne_true ((ch11.out (ch12.out (ch22.out (ch23.out (ch24.out h))).2.2.2.2.1)))
         have e25 : f25 = false := Bool.eq_false_iff.2 fun h => Bool.false_ne_true ((ch11.out (ch12.out (ch22.out (ch23.out (ch24.out (ch25.out h).1))).2.2.2.2.1)))
         subst e11 e12 e22 e23 e24 e25
         refine .inl ?_
         unfold w12Upd Oper.wp
         go_simp
         exact w12J.at f0 f1 f2 f3 f4 f5 f6 f7 f8 f9 true false false f13 f14 f15 f16 f17 f18 f19 f20 f21 false false false false (o51) (n51) (c51) (o54) (n54) (c54) (o57) (n57) (c57) (o60) (n60) (c60) (o62) (n62) (c62) (o65) (n65) (c65) (o66) (n66) (c66) (o69) (n69) (c69) (H70) (o71) (n71) (c71) rfl rfl (ch2) (ch3) (ch5) (ch6) (ch8) (ch9) (Lib.hid (by simp)) (Lib.hid (by simp)) (ch14) (ch16) (ch17) (ch18) (ch20) (ch21) (Lib.hid (by simp)) (Lib.hid (by simp)) (Lib.hid (by simp)) (Lib.hid (by simp)) (hB) (r51) (r54) (r57) (by simp) (r62) (r65) (r66) (r69) (by simp) (by simp) (by simp)
       · have ho' := ho
         simp at hu ho
         subst hu ho
         simp [Region.binds] at ha
         obtain rfl : f10 = true := by simp only [ha]
         clear ha
         have e12 : f12 = false := Bool.eq_false_iff.2 fun h => Bool.false_ne_true ((ch12.out h))
         have e22 : f22 = false := Bool.eq_false_iff.2 fun h => Bool.false_ne_true ((ch12.out (ch22.out h).2.2.2.2.1))
         have e23 : f23 = false := Bool.eq_false_iff.2 fun h => Bool.false_ne_true ((ch12.out (ch22.out (ch23.out h)).2.2.2.2.1))
         have e24 : f24 = false := Bool.eq_false_iff.2 fun h => Bool.false_ne_true ((ch12.out (ch22.out (ch23.out (ch24.out h))).2.2.2.2.1))
         have e25 : f25 = false := Bool.eq_false_iff.2 fun h => Bool.false_ne_true ((ch12.out (ch22.out (ch23.out (ch24.out (ch25.out h).1))).2.2.2.2.1))
         subst e12 e22 e23 e24 e25
         have hB1 := hB rfl
         have k0 := (hB1.cell (p := ⟨w.heap.size, 7, none⟩) (by exact HPZ.out.lt)).trans (HPZ.out.cell 7 _ rfl)
         have kl := Nat.lt_of_lt_of_le HPZ.out.lt hB1.size
         refine .inl ?_
         unfold w12Upd Oper.wp
         go_simp
         exact w12J.at f0 f1 f2 f3 f4 f5 f6 f7 f8 f9 true true false f13 f14 f15 f16 f17 f18 f19 f20 f21 false false false false (o51) (n51) (c51) (o54) (n54) (c54) (o57) (n57) (c57) (o60) (n60) (c60) (o62) (n62) (c62) (o65) (n65) (c65) (o66) (n66) (c66) (o69) (n69) (c69) (H70) (o71) (n71) (c71) rfl rfl (ch2) (ch3) (ch5) (ch6) (ch8) (ch9) (Lib.hid (by simp)) (Lib.hid (by simp)) (ch14) (ch16) (ch17) (ch18) (ch20) (ch21) (Lib.hid (by simp)) (Lib.hid (by simp)) (Lib.hid (by simp)) (Lib.hid (by simp)) (hB) (r51) (r54) (r57) (by simp) (r62) (r65) (r66) (r69) (by simp) (by simp) (by simp)
       · have ho' := ho
         simp at hu ho
         subst hu ho
         simp [Region.binds] at ha
         obtain rfl : f11 = true := by simp only [ha]
         clear ha
         obtain rfl : f10 = true := (ch11.out rfl)
         have e22 : f22 = false := Bool.eq_false_iff.2 fun h => Bool.false_ne_true ((ch22.out h).2.2.2.2.1)
         have e23 : f23 = false := Bool.eq_false_iff.2 fun h => Bool.false_ne_true ((ch22.out (ch23.out h)).2.2.2.2.1)
         have e24 : f24 = false := Bool.eq_false_iff.2 fun h => Bool.false_ne_true ((ch22.out (ch23.out (ch24.out h))).2.2.2.2.1)
         have e25 : f25 = false := Bool.eq_false_iff.2 fun h => Bool.false_ne_true ((ch22.out (ch23.out (ch24.out (ch25.out h).1))).2.2.2.2.1)
         subst e22 e23 e24 e25
         have hS := (hB rfl).size
         refine .inl ?_
         unfold w12Upd Oper.wp
         go_simp
         refine (leafR_any (fun j => j < W2.heap.size) bPackaging dk w' (fun j h => Nat.lt_of_lt_of_le (Nat.lt_of_lt_of_le h HWS.out) hS)).mono ?_
         intro e w1 hO
         obtain ⟨o1, n1, c1, rfl, hr, hb⟩ := hO
         exact w12J.at f0 f1 f2 f3 f4 f5 f6 f7 f8 f9 true true true f13 f14 f15 f16 f17 f18 f19 f20 f21 false false false false (o51) (n51) (c51) (o54) (n54) (c54) (o57) (n57) (c57) (o1) (n1) (c1) (o62) (n62) (c62) (o65) (n65) (c65) (o66) (n66) (c66) (o69) (n69) (c69) (H70) (o71) (n71) (c71) rfl rfl (ch2) (ch3) (ch5) (ch6) (ch8) (ch9) (Lib.hid (by simp)) (Lib.hid (by simp)) (ch14) (ch16) (ch17) (ch18) (ch20) (ch21) (Lib.hid (by simp)) (Lib.hid (by simp)) (Lib.hid (by simp)) (Lib.hid (by simp)) (fun h0 => (hB h0).trans (hb.mono hS)) (fun h0 h1 => (r51 h0 h1).later hb) (fun h0 h1 => (r54 h0 h1).later hb) (fun h0 h1 => (r57 h0 h1).later hb) (fun h0 h1 => hr) (fun h0 h1 => (r62 h0 h1).later hb) (fun h0 h1 => (r65 h0 h1).later hb) (fun h0 h1 => (r66 h0 h1).later hb) (fun h0 h1 => (r69 h0 h1).later hb) (by simp) (by simp) (by simp)
       · have ho' := ho
         simp at hu ho
         subst hu ho
         clear ha
         have e14 : f14 = false := Bool.eq_false_iff.2 fun h => Bool.false_ne_true ((ch14.out h))
         have e22 : f22 = false := Bool.eq_false_iff.2 fun h => Bool.false_ne_true ((ch14.out (ch22.out h).2.2.2.2.2.1))
         have e23 : f23 = false := Bool.eq_false_iff.2 fun h => Bool.false_ne_true ((ch14.out (ch22.out (ch23.out h)).2.2.2.2.2.1))
         have e24 : f24 = false := Bool.eq_false_iff.2 fun h => Bool.false_ne_true ((ch14.out (ch22.out (ch23.out (ch24.out h))).2.2.2.2.2.1))
         have e25 : f25 = false := Bool.eq_false_iff.2 fun h => Bool.false_ne_true ((ch14.out (ch22.out (ch23.out (ch24.out (ch25.out h).1))).2.2.2.2.2.1))
         subst e14 e22 e23 e24 e25
         refine .inl ?_
         unfold w12Upd Oper.wp
         go_simp
         exact w12J.at f0 f1 f2 f3 f4 f5 f6 f7 f8 f9 f10 f11 f12 true false f15 f16 f17 f18 f19 f20 f21 false false false false (o51) (n51) (c51) (o54) (n54) (c54) (o57) (n57) (c57) (o60) (n60) (c60) (o62) (n62) (c62) (o65) (n65) (c65) (o66) (n66) (c66) (o69) (n69) (c69) (H70) (o71) (n71) (c71) rfl rfl (ch2) (ch3) (ch5) (ch6) (ch8) (ch9) (ch11) (ch12) (Lib.hid (by simp)) (ch16) (ch17) (ch18) (ch20) (ch21) (Lib.hid (by simp)) (Lib.hid (by simp)) (Lib.hid (by simp)) (Lib.hid (by simp)) (hB) (r51) (r54) (r57) (r60) (by simp) (r65) (r66) (r69) (by simp) (by simp) (by simp)
       · have ho' := ho
         simp at hu ho
         subst hu ho
         simp [Region.binds] at ha
         obtain rfl : f13 = true := by simp only [ha]
         clear ha
         have e22 : f22 = false := Bool.eq_false_iff.2 fun h => Bool.false_ne_true ((ch22.out h).2.2.2.2.2.1)
         have e23 : f23 = false := Bool.eq_false_iff.2 fun h => Bool.false_ne_true ((ch22.out (ch23.out h)).2.2.2.2.2.1)
         have e24 : f24 = false := Bool.eq_false_iff.2 fun h => Bool.false_ne_true ((ch22.out (ch23.out (ch24.out h))).2.2.2.2.2.1)
         have e25 : f25 = false := Bool.eq_false_iff.2 fun h => Bool.false_ne_true ((ch22.out (ch23.out (ch24.out (ch25.out h).1))).2.2.2.2.2.1)
         subst e22 e23 e24 e25
         have hS := (hB rfl).size
         refine .inl ?_
         unfold w12Upd Oper.wp
         go_simp
         refine (branchR_any (fun j => j < W2.heap.size) bProperties _ _ w' (HXR.out.later (hB rfl)) (fun j h => Nat.lt_of_lt_of_le (Nat.lt_of_lt_of_le h HWS.out) hS)).mono ?_
         intro e w1 hO
         obtain ⟨o1, n1, c1, rfl, hr, hb⟩ := hO
         exact w12J.at f0 f1 f2 f3 f4 f5 f6 f7 f8 f9 f10 f11 f12 true true f15 f16 f17 f18 f19 f20 f21 false false false false (o51) (n51) (c51) (o54) (n54) (c54) (o57) (n57) (c57) (o60) (n60) (c60) (o1) (n1) (c1) (o65) (n65) (c65) (o66) (n66) (c66) (o69) (n69) (c69) (H70) (o71) (n71) (c71) rfl rfl (ch2) (ch3) (ch5) (ch6) (ch8) (ch9) (ch11) (ch12) (Lib.hid (by simp)) (ch16) (ch17) (ch18) (ch20) (ch21) (Lib.hid (by simp)) (Lib.hid (by simp)) (Lib.hid (by simp)) (Lib.hid (by simp)) (fun h0 => (hB h0).trans (hb.mono hS)) (fun h0 h1 => (r51 h0 h1).later hb) (fun h0 h1 => (r54 h0 h1).later hb) (fun h0 h1 => (r57 h0 h1).later hb) (fun h0 h1 => (r60 h0 h1).later hb) (fun h0 h1 => hr) (fun h0 h1 => (r65 h0 h1).later hb) (fun h0 h1 => (r66 h0 h1).later hb) (fun h0 h1 => (r69 h0 h1).later hb) (by simp) (by simp) (by simp)
       · have ho' := ho
         simp at hu ho
         subst hu ho
         clear ha
         have e16 : f16 = false := Bool.eq_false_iff.2 fun h => Bool.false_ne_true ((ch16.out h))
         have e17 : f17 = false := Bool.eq_false_iff.2 fun h => Bool.false_ne_true ((ch16.out (ch17.out h)))
         have e18 : f18 = false := Bool.eq_false_iff.2 fun h => Bool.false_ne_true ((ch16.out (ch17.out (ch18.out h))))
         have e22 : f22 = false := Bool.eq_false_iff.2 fun h => Bool.false_ne_true ((ch16.out (ch17.out (ch18.out (ch22.out h).2.2.2.2.2.2.1))))
         have e23 : f23 = false := Bool.eq_false_iff.2 fun h => Bool.false_ne_true ((ch16.out (ch17.out (ch18.out (ch22.out (ch23.out h)).2.2.2.2.2.2.1))))
         have e24 : f24 = false := Bool.eq_false_iff.2 fun h => Bool.false_ne_true ((ch16.out (ch17.out (ch18.out (ch22.out (ch23.out (ch24.out h))).2.2.2.2.2.2.1))))
         have e25 : f25 = false := Bool.eq_false_iff.2 fun h => Bool.false_ne_true ((ch16.out (ch17.out (ch18.out (ch22.out (ch23.out (ch24.out (ch25.out h).1))).2.2.2.2.2.2.1))))
         subst e16 e17 e18 e22 e23 e24 e25
         refine .inl ?_
         unfold w12Upd Oper.wp
         go_simp
         exact w12J.at f0 f1 f2 f3 f4 f5 f6 f7 f8 f9 f10 f11 f12 f13 f14 true false false false f19 f20 f21 false false false false (o51) (n51) (c51) (o54) (n54) (c54) (o57) (n57) (c57) (o60) (n60) (c60) (o62) (n62) (c62) (o65) (n65) (c65) (o66) (n66) (c66) (o69) (n69) (c69) (H70) (o71) (n71) (c71) rfl rfl (ch2) (ch3) (ch5) (ch6) (ch8) (ch9) (ch11) (ch12) (ch14) (Lib.hid (by simp)) (Lib.hid (by simp)) (Lib.hid (by simp)) (ch20) (ch21) (Lib.hid (by simp)) (Lib.hid (by simp)) (Lib.hid (by simp)) (Lib.hid (by simp)) (hB) (r51) (r54) (r57) (r60) (r62) (by simp) (by simp) (r69) (by simp) (by simp) (by simp)
       · have ho' := ho
         simp at hu ho
         subst hu ho
         simp [Region.binds] at ha
         obtain rfl : f15 = true := by simp only [ha]
         clear ha
         have e17 : f17 = false := Bool.eq_false_iff.2 fun h => Bool.false_ne_true ((ch17.out h))
         have e18 : f18 = false := Bool.eq_false_iff.2 fun h => Bool.false_ne_true ((ch17.out (ch18.out h)))
         have e22 : f22 = false := Bool.eq_false_iff.2 fun h => Bool.false_ne_true ((ch17.out (ch18.out (ch22.out h).2.2.2.2.2.2.1)))
         have e23 : f23 = false := Bool.eq_false_iff.2 fun h => Bool.false_ne_true ((ch17.out (ch18.out (ch22.out (ch23.out h)).2.2.2.2.2.2.1)))
         have e24 : f24 = false := Bool.eq_false_iff.2 fun h => Bool.false_ne_true ((ch17.out (ch18.out (ch22.out (ch23.out (ch24.out h))).2.2.2.2.2.2.1)))
         have e25 : f25 = false := Bool.eq_false_iff.2 fun h => Bool.false_ne_true ((ch17.out (ch18.out (ch22.out (ch23.out (ch24.out (ch25.out h).1))).2.2.2.2.2.2.1)))
         subst e17 e18 e22 e23 e24 e25
         have hB1 := hB rfl
         have k0 := (hB1.cell (p := ⟨w.heap.size, 9, none⟩) (by exact HPZ.out.lt)).trans (HPZ.out.cell 9 _ rfl)
         have kl := Nat.lt_of_lt_of_le HPZ.out.lt hB1.size
         refine .inl ?_
         unfold w12Upd Oper.wp
         go_simp
         exact w12J.at f0 f1 f2 f3 f4 f5 f6 f7 f8 f9 f10 f11 f12 f13 f14 true true false false f19 f20 f21 false false false false (o51) (n51) (c51) (o54) (n54) (c54) (o57) (n57) (c57) (o60) (n60) (c60) (o62) (n62) (c62) (o65) (n65) (c65) (o66) (n66) (c66) (o69) (n69) (c69) (H70) (o71) (n71) (c71) rfl rfl (ch2) (ch3) (ch5) (ch6) (ch8) (ch9) (ch11) (ch12) (ch14) (Lib.hid (by simp)) (Lib.hid (by simp)) (Lib.hid (by simp)) (ch20) (ch21) (Lib.hid (by simp)) (Lib.hid (by simp)) (Lib.hid (by simp)) (Lib.hid (by simp)) (hB) (r51) (r54) (r57) (r60) (r62) (by simp) (by simp) (r69) (by simp) (by simp) (by simp)
       · have ho' := ho
         simp at hu ho
         subst hu ho
         simp [Region.binds] at ha
         obtain rfl : f16 = true := by simp only [ha]
         clear ha
         obtain rfl : f15 = true := (ch16.out rfl)
         have e18 : f18 = false := Bool.eq_false_iff.2 fun h => Bool.false_ne_true ((ch18.out h))
         have e22 : f22 = false := Bool.eq_false_iff.2 fun h => Bool.false_ne_true ((ch18.out (ch22.out h).2.2.2.2.2.2.1))
         have e23 : f23 = false := Bool.eq_false_iff.2 fun h => Bool.false_ne_true ((ch18.out (ch22.out (ch23.out h)).2.2.2.2.2.2.1))
         have e24 : f24 = false := Bool.eq_false_iff.2 fun h => Bool.false_ne_true ((ch18.out (ch22.out (ch23.out (ch24.out h))).2.2.2.2.2.2.1))
         have e25 : f25 = false := Bool.eq_false_iff.2 fun h => Bool.false_ne_true ((ch18.out (ch22.out (ch23.out (ch24.out (ch25.out h).1))).2.2.2.2.2.2.1))
         subst e18 e22 e23 e24 e25
         have hS := (hB rfl).size
         refine .inl ?_
         unfold w12Upd Oper.wp
         go_simp
         refine (depsR_any (fun j => j < W2.heap.size) _ dm w' (H2.out.below (HBZ.out.trans ((hB rfl).mono HBZ.out.size))) (fun j h => Nat.lt_of_lt_of_le (Nat.lt_of_lt_of_le h HWS.out) hS) HN2.out HX2.out).mono ?_
         intro e w1 hO
         obtain ⟨o1, n1, c1, rfl, hr, hb⟩ := hO
         exact w12J.at f0 f1 f2 f3 f4 f5 f6 f7 f8 f9 f10 f11 f12 f13 f14 true true true false f19 f20 f21 false false false false (o51) (n51) (c51) (o54) (n54) (c54) (o57) (n57) (c57) (o60) (n60) (c60) (o62) (n62) (c62) (o1) (n1) (c1) (o66) (n66) (c66) (o69) (n69) (c69) (H70) (o71) (n71) (c71) rfl rfl (ch2) (ch3) (ch5) (ch6) (ch8) (ch9) (ch11) (ch12) (ch14) (Lib.hid (by simp)) (Lib.hid (by simp)) (Lib.hid (by simp)) (ch20) (ch21) (Lib.hid (by simp)) (Lib.hid (by simp)) (Lib.hid (by simp)) (Lib.hid (by simp)) (fun h0 => (hB h0).trans (hb.mono hS)) (fun h0 h1 => (r51 h0 h1).later hb) (fun h0 h1 => (r54 h0 h1).later hb) (fun h0 h1 => (r57 h0 h1).later hb) (fun h0 h1 => (r60 h0 h1).later hb) (fun h0 h1 => (r62 h0 h1).later hb) (fun h0 h1 => hr) (by simp) (fun h0 h1 => (r69 h0 h1).later hb) (by simp) (by simp) (by simp)
       · have ho' := ho
         simp at hu ho
         subst hu ho
         simp [Region.binds] at ha
         obtain rfl : f17 = true := by simp only [ha]
         clear ha
         obtain rfl : f16 = true := (ch17.out rfl)
         obtain rfl : f15 = true := (ch16.out (ch17.out rfl))
         have e22 : f22 = false := Bool.eq_false_iff.2 fun h => Bool.false_ne_true ((ch22.out h).2.2.2.2.2.2.1)
         have e23 : f23 = false := Bool.eq_false_iff.2 fun h => Bool.false_ne_true ((ch22.out (ch23.out h)).2.2.2.2.2.2.1)
         have e24 : f24 = false := Bool.eq_false_iff.2 fun h => Bool.false_ne_true ((ch22.out (ch23.out (ch24.out h))).2.2.2.2.2.2.1)
         have e25 : f25 = false := Bool.eq_false_iff.2 fun h => Bool.false_ne_true ((ch22.out (ch23.out (ch24.out (ch25.out h).1))).2.2.2.2.2.2.1)
         subst e22 e23 e24 e25
         have hS := (hB rfl).size
         refine .inl ?_
         unfold w12Upd Oper.wp
         go_simp
         refine (branchR_any (fun j => j < W2.heap.size) bManagement _ _ w' (r65 rfl rfl) (fun j h => Nat.lt_of_lt_of_le (Nat.lt_of_lt_of_le h HWS.out) hS)).mono ?_
         intro e w1 hO
         obtain ⟨o1, n1, c1, rfl, hr, hb⟩ := hO
         exact w12J.at f0 f1 f2 f3 f4 f5 f6 f7 f8 f9 f10 f11 f12 f13 f14 true true true true f19 f20 f21 false false false false (o51) (n51) (c51) (o54) (n54) (c54) (o57) (n57) (c57) (o60) (n60) (c60) (o62) (n62) (c62) (o65) (n65) (c65) (o1) (n1) (c1) (o69) (n69) (c69) (H70) (o71) (n71) (c71) rfl rfl (ch2) (ch3) (ch5) (ch6) (ch8) (ch9) (ch11) (ch12) (ch14) (Lib.hid (by simp)) (Lib.hid (by simp)) (Lib.hid (by simp)) (ch20) (ch21) (Lib.hid (by simp)) (Lib.hid (by simp)) (Lib.hid (by simp)) (Lib.hid (by simp)) (fun h0 => (hB h0).trans (hb.mono hS)) (fun h0 h1 => (r51 h0 h1).later hb) (fun h0 h1 => (r54 h0 h1).later hb) (fun h0 h1 => (r57 h0 h1).later hb) (fun h0 h1 => (r60 h0 h1).later hb) (fun h0 h1 => (r62 h0 h1).later hb) (fun h0 h1 => (r65 h0 h1).later hb) (fun h0 h1 => hr) (fun h0 h1 => (r69 h0 h1).later hb) (by simp) (by simp) (by simp)
       · have ho' := ho
         simp at hu ho
         subst hu ho
         clear ha
         have e20 : f20 = false := Bool.eq_false_iff.2 fun h => Bool.false_ne_true ((ch20.out h))
         have e21 : f21 = false := Bool.eq_false_iff.2 fun h => Bool.false_ne_true ((ch20.out (ch21.out h)))
         have e22 : f22 = false := Bool.eq_false_iff.2 fun h => Bool.false_ne_true ((ch20.out (ch21.out (ch22.out h).2.2.2.2.2.2.2)))
         have e23 : f23 = false := Bool.eq_false_iff.2 fun h => Bool.false_ne_true ((ch20.out (ch21.out (ch22.out (ch23.out h)).2.2.2.2.2.2.2)))
         have e24 : f24 = false := Bool.eq_false_iff.2 fun h => Bool.false_ne_true ((ch20.out (ch21.out (ch22.out (ch23.out (ch24.out h))).2.2.2.2.2.2.2)))
         have e25 : f25 = false := Bool.eq_false_iff.2 fun h => Bool.false_ne_true ((ch20.out (ch21.out (ch22.out (ch23.out (ch24.out (ch25.out h).1))).2.2.2.2.2.2.2)))
         subst e20 e21 e22 e23 e24 e25
         refine .inl ?_
         unfold w12Upd Oper.wp
         go_simp
         exact w12J.at f0 f1 f2 f3 f4 f5 f6 f7 f8 f9 f10 f11 f12 f13 f14 f15 f16 f17 f18 true false false false false false false (o51) (n51) (c51) (o54) (n54) (c54) (o57) (n57) (c57) (o60) (n60) (c60) (o62) (n62) (c62) (o65) (n65) (c65) (o66) (n66) (c66) (o69) (n69) (c69) (H70) (o71) (n71) (c71) rfl rfl (ch2) (ch3) (ch5) (ch6) (ch8) (ch9) (ch11) (ch12) (ch14) (ch16) (ch17) (ch18) (Lib.hid (by simp)) (Lib.hid (by simp)) (Lib.hid (by simp)) (Lib.hid (by simp)) (Lib.hid (by simp)) (Lib.hid (by simp)) (hB) (r51) (r54) (r57) (r60) (r62) (r65) (r66) (by simp) (by simp) (by simp) (by simp)
       · have ho' := ho
         simp at hu ho
         subst hu ho
         simp [Region.binds] at ha
         obtain rfl : f19 = true := by simp only [ha]
         clear ha
         have e21 : f21 = false := Bool.eq_false_iff.2 fun h => Bool.false_ne_true ((ch21.out h))
         have e22 : f22 = false := Bool.eq_false_iff.2 fun h => Bool.false_ne_true ((ch21.out (ch22.out h).2.2.2.2.2.2.2))
         have e23 : f23 = false := Bool.eq_false_iff.2 fun h => Bool.false_ne_true ((ch21.out (ch22.out (ch23.out h)).2.2.2.2.2.2.2))
         have e24 : f24 = false := Bool.eq_false_iff.2 fun h => Bool.false_ne_true ((ch21.out (ch22.out (ch23.out (ch24.out h))).2.2.2.2.2.2.2))
         have e25 : f25 = false := Bool.eq_false_iff.2 fun h => Bool.false_ne_true ((ch21.out (ch22.out (ch23.out (ch24.out (ch25.out h).1))).2.2.2.2.2.2.2))
         subst e21 e22 e23 e24 e25
         have hB1 := hB rfl
         have k0 := (hB1.cell (p := ⟨w.heap.size, 10, none⟩) (by exact HPZ.out.lt)).trans (HPZ.out.cell 10 _ rfl)
         have kl := Nat.lt_of_lt_of_le HPZ.out.lt hB1.size
         refine .inl ?_
         unfold w12Upd Oper.wp
         go_simp
         exact w12J.at f0 f1 f2 f3 f4 f5 f6 f7 f8 f9 f10 f11 f12 f13 f14 f15 f16 f17 f18 true true false false false false false (o51) (n51) (c51) (o54) (n54) (c54) (o57) (n57) (c57) (o60) (n60) (c60) (o62) (n62) (c62) (o65) (n65) (c65) (o66) (n66) (c66) (o69) (n69) (c69) (H70) (o71) (n71) (c71) rfl rfl (ch2) (ch3) (ch5) (ch6) (ch8) (ch9) (ch11) (ch12) (ch14) (ch16) (ch17) (ch18) (Lib.hid (by simp)) (Lib.hid (by simp)) (Lib.hid (by simp)) (Lib.hid (by simp)) (Lib.hid (by simp)) (Lib.hid (by simp)) (hB) (r51) (r54) (r57) (r60) (r62) (r65) (r66) (by simp) (by simp) (by simp) (by simp)
       · have ho' := ho
         simp at hu ho
         subst hu ho
         simp [Region.binds] at ha
         obtain rfl : f20 = true := by simp only [ha]
         clear ha
         obtain rfl : f19 = true := (ch20.out rfl)
         have e22 : f22 = false := Bool.eq_false_iff.2 fun h => Bool.false_ne_true ((ch22.out h).2.2.2.2.2.2.2)
         have e23 : f23 = false := Bool.eq_false_iff.2 fun h => Bool.false_ne_true ((ch22.out (ch23.out h)).2.2.2.2.2.2.2)
         have e24 : f24 = false := Bool.eq_false_iff.2 fun h => Bool.false_ne_true ((ch22.out (ch23.out (ch24.out h))).2.2.2.2.2.2.2)
         have e25 : f25 = false := Bool.eq_false_iff.2 fun h => Bool.false_ne_true ((ch22.out (ch23.out (ch24.out (ch25.out h).1))).2.2.2.2.2.2.2)
         subst e22 e23 e24 e25
         have hS := (hB rfl).size
         refine .inl ?_
         unfold w12Upd Oper.wp
         go_simp
         refine (depsR_any (fun j => j < W2.heap.size) _ dd w' (H3.out.below (HBZ.out.trans ((hB rfl).mono HBZ.out.size))) (fun j h => Nat.lt_of_lt_of_le (Nat.lt_of_lt_of_le h HWS.out) hS) HN3.out HX3.out).mono ?_
         intro e w1 hO
         obtain ⟨o1, n1, c1, rfl, hr, hb⟩ := hO
         exact w12J.at f0 f1 f2 f3 f4 f5 f6 f7 f8 f9 f10 f11 f12 f13 f14 f15 f16 f17 f18 true true true false false false false (o51) (n51) (c51) (o54) (n54) (c54) (o57) (n57) (c57) (o60) (n60) (c60) (o62) (n62) (c62) (o65) (n65) (c65) (o66) (n66) (c66) (o1) (n1) (c1) (H70) (o71) (n71) (c71) rfl rfl (ch2) (ch3) (ch5) (ch6) (ch8) (ch9) (ch11) (ch12) (ch14) (ch16) (ch17) (ch18) (Lib.hid (by simp)) (Lib.hid (by simp)) (Lib.hid (by simp)) (Lib.hid (by simp)) (Lib.hid (by simp)) (Lib.hid (by simp)) (fun h0 => (hB h0).trans (hb.mono hS)) (fun h0 h1 => (r51 h0 h1).later hb) (fun h0 h1 => (r54 h0 h1).later hb) (fun h0 h1 => (r57 h0 h1).later hb) (fun h0 h1 => (r60 h0 h1).later hb) (fun h0 h1 => (r62 h0 h1).later hb) (fun h0 h1 => (r65 h0 h1).later hb) (fun h0 h1 => (r66 h0 h1).later hb) (fun h0 h1 => hr) (by simp) (by simp) (by simp)
       · have ho' := ho
         simp at hu ho
         subst hu ho
         simp [Region.binds] at ha
         obtain rfl : f0 = true := by simp only [ha]
         obtain rfl : f3 = true := by simp only [ha]
         obtain rfl : f6 = true := by simp only [ha]
         obtain rfl : f9 = true := by simp only [ha]
         obtain rfl : f12 = true := by simp only [ha]
         obtain rfl : f14 = true := by simp only [ha]
         obtain rfl : f18 = true := by simp only [ha]
         obtain rfl : f21 = true := by simp only [ha]
         clear ha
         obtain rfl : f20 = true := (ch21.out rfl)
         obtain rfl : f19 = true := (ch20.out (ch21.out rfl))
         obtain rfl : f17 = true := (ch18.out rfl)
         obtain rfl : f16 = true := (ch17.out (ch18.out rfl))
         obtain rfl : f15 = true := (ch16.out (ch17.out (ch18.out rfl)))
         obtain rfl : f13 = true := (ch14.out rfl)
         obtain rfl : f11 = true := (ch12.out rfl)
         obtain rfl : f10 = true := (ch11.out (ch12.out rfl))
         obtain rfl : f8 = true := (ch9.out rfl)
         obtain rfl : f7 = true := (ch8.out (ch9.out rfl))
         obtain rfl : f5 = true := (ch6.out rfl)
         obtain rfl : f4 = true := (ch5.out (ch6.out rfl))
         obtain rfl : f2 = true := (ch3.out rfl)
         obtain rfl : f1 = true := (ch2.out (ch3.out rfl))
         have e23 : f23 = false := Bool.eq_false_iff.2 fun h => Bool.false_ne_true ((ch23.out h))
         have e24 : f24 = false := Bool.eq_false_iff.2 fun h => Bool.false_ne_true ((ch23.out (ch24.out h)))
         have e25 : f25 = false := Bool.eq_false_iff.2 fun h => Bool.false_ne_true ((ch23.out (ch24.out (ch25.out h).1)))
         subst e23 e24 e25
         have hS := (hB rfl).size
         have hal := fun o => (Below.refl w'.heap.size w').alloc (Nat.le_refl w'.heap.size) o
         refine .inl ?_
         unfold w12Upd Oper.wp
         go_simp
         exact w12J.at true true true true true true true true true true true true true true true true true true true true true true true false false false (o51) (n51) (c51) (o54) (n54) (c54) (o57) (n57) (c57) (o60) (n60) (c60) (o62) (n62) (c62) (o65) (n65) (c65) (o66) (n66) (c66) (o69) (n69) (c69) (w'.heap.size) (o71) (n71) (c71) rfl rfl (Lib.hid (by simp)) (Lib.hid (by simp)) (Lib.hid (by simp)) (Lib.hid (by simp)) (Lib.hid (by simp)) (Lib.hid (by simp)) (Lib.hid (by simp)) (Lib.hid (by simp)) (Lib.hid (by simp)) (Lib.hid (by simp)) (Lib.hid (by simp)) (Lib.hid (by simp)) (Lib.hid (by simp)) (Lib.hid (by simp)) (Lib.hid (by simp)) (Lib.hid (by simp)) (Lib.hid (by simp)) (Lib.hid (by simp)) (fun h0 => (hB h0).trans ((hal _).mono hS)) (fun h0 h1 => (r51 h0 h1).later (hal _)) (fun h0 h1 => (r54 h0 h1).later (hal _)) (fun h0 h1 => (r57 h0 h1).later (hal _)) (fun h0 h1 => (r60 h0 h1).later (hal _)) (fun h0 h1 => (r62 h0 h1).later (hal _)) (fun h0 h1 => (r65 h0 h1).later (hal _)) (fun h0 h1 => (r66 h0 h1).later (hal _)) (fun h0 h1 => (r69 h0 h1).later (hal _)) (fun h0 h1 => rows_lit [.slice lo ln lc, .slice o51 n51 c51, .slice o54 n54 c54, .slice o57 n57 c57, .slice o60 n60 c60, .slice o62 n62 c62, .slice o66 n66 c66, .slice o69 n69 c69] [parentL hp ⟨px, py, pz⟩, leafT bGroup dg, leafT bArtifact da, leafT bVersion dv, leafT bPackaging dk, branchT bProperties PS, branchT bManagement (depsT dm), depsT dd] w' _ _ rfl rfl (by simp [maxLen]) (rows8 (HPR.out.later (HPB.out.trans ((hB rfl).mono HPB.out.size))) (r51 rfl rfl) (r54 rfl rfl) (r57 rfl rfl) (r60 rfl rfl) (r62 rfl rfl) (r66 rfl rfl) (r69 rfl rfl))) (by simp) (by simp)
       · have ho' := ho
         simp at hu ho
         subst hu ho
         simp [Region.binds] at ha
         obtain rfl : f22 = true := by simp only [ha]
         clear ha
         obtain rfl : f21 = true := (ch22.out rfl).2.2.2.2.2.2.2
         obtain rfl : f20 = true := (ch21.out (ch22.out rfl).2.2.2.2.2.2.2)
         obtain rfl : f19 = true := (ch20.out (ch21.out (ch22.out rfl).2.2.2.2.2.2.2))
         obtain rfl : f18 = true := (ch22.out rfl).2.2.2.2.2.2.1
         obtain rfl : f17 = true := (ch18.out (ch22.out rfl).2.2.2.2.2.2.1)
         obtain rfl : f16 = true := (ch17.out (ch18.out (ch22.out rfl).2.2.2.2.2.2.1))
         obtain rfl : f15 = true := (ch16.out (ch17.out (ch18.out (ch22.out rfl).2.2.2.2.2.2.1)))
         obtain rfl : f14 = true := (ch22.out rfl).2.2.2.2.2.1
         obtain rfl : f13 = true := (ch14.out (ch22.out rfl).2.2.2.2.2.1)
         obtain rfl : f12 = true := (ch22.out rfl).2.2.2.2.1
         obtain rfl : f11 = true := (ch12.out (ch22.out rfl).2.2.2.2.1)
         obtain rfl : f10 = true := (ch11.out (ch12.out (ch22.out rfl).2.2.2.2.1))
         obtain rfl : f9 = true := (ch22.out rfl).2.2.2.1
         obtain rfl : f8 = true := (ch9.out (ch22.out rfl).2.2.2.1)
         obtain rfl : f7 = true := (ch8.out (ch9.out (ch22.out rfl).2.2.2.1))
         obtain rfl : f6 = true := (ch22.out rfl).2.2.1
         obtain rfl : f5 = true := (ch6.out (ch22.out rfl).2.2.1)
         obtain rfl : f4 = true := (ch5.out (ch6.out (ch22.out rfl).2.2.1))
         obtain rfl : f3 = true := (ch22.out rfl).2.1
         obtain rfl : f2 = true := (ch3.out (ch22.out rfl).2.1)
         obtain rfl : f1 = true := (ch2.out (ch3.out (ch22.out rfl).2.1))
         obtain rfl : f0 = true := (ch22.out rfl).1
         have e24 : f24 = false := Bool.eq_false_iff.2 fun h => Bool.false_ne_true ((ch24.out h))
         have e25 : f25 = false := Bool.eq_false_iff.2 fun h => Bool.false_ne_true ((ch24.out (ch25.out h).1))
         subst e24 e25
         have hS := (hB rfl).size
         refine .inl ?_
         unfold w12Upd Oper.wp
         go_simp
         refine (allR_any (fun j => j < W2.heap.size) _ _ w' (r70 rfl rfl) (fun j h => Nat.lt_of_lt_of_le (Nat.lt_of_lt_of_le h HWS.out) hS) (by simp) HL8.out).mono ?_
         intro e w1 hO
         obtain ⟨o1, n1, c1, rfl, hr, hb⟩ := hO
         exact w12J.at true true true true true true true true true true true true true true true true true true true true true true true true false false (o51) (n51) (c51) (o54) (n54) (c54) (o57) (n57) (c57) (o60) (n60) (c60) (o62) (n62) (c62) (o65) (n65) (c65) (o66) (n66) (c66) (o69) (n69) (c69) (H70) (o1) (n1) (c1) rfl rfl (Lib.hid (by simp)) (Lib.hid (by simp)) (Lib.hid (by simp)) (Lib.hid (by simp)) (Lib.hid (by simp)) (Lib.hid (by simp)) (Lib.hid (by simp)) (Lib.hid (by simp)) (Lib.hid (by simp)) (Lib.hid (by simp)) (Lib.hid (by simp)) (Lib.hid (by simp)) (Lib.hid (by simp)) (Lib.hid (by simp)) (Lib.hid (by simp)) (Lib.hid (by simp)) (Lib.hid (by simp)) (Lib.hid (by simp)) (fun h0 => (hB h0).trans (hb.mono hS)) (fun h0 h1 => (r51 h0 h1).later hb) (fun h0 h1 => (r54 h0 h1).later hb) (fun h0 h1 => (r57 h0 h1).later hb) (fun h0 h1 => (r60 h0 h1).later hb) (fun h0 h1 => (r62 h0 h1).later hb) (fun h0 h1 => (r65 h0 h1).later hb) (fun h0 h1 => (r66 h0 h1).later hb) (fun h0 h1 => (r69 h0 h1).later hb) (fun h0 h1 => (r70 h0 h1).later hb) (fun h0 h1 => hr) (by simp)
       · have ho' := ho
         simp at hu ho
         subst hu ho
         simp [Region.binds] at ha
         obtain rfl : f23 = true := by simp only [ha]
         clear ha
         obtain rfl : f22 = true := (ch23.out rfl)
         obtain rfl : f21 = true := (ch22.out (ch23.out rfl)).2.2.2.2.2.2.2
         obtain rfl : f20 = true := (ch21.out (ch22.out (ch23.out rfl)).2.2.2.2.2.2.2)
         obtain rfl : f19 = true := (ch20.out (ch21.out (ch22.out (ch23.out rfl)).2.2.2.2.2.2.2))
         obtain rfl : f18 = true := (ch22.out (ch23.out rfl)).2.2.2.2.2.2.1
         obtain rfl : f17 = true := (ch18.out (ch22.out (ch23.out rfl)).2.2.2.2.2.2.1)
         obtain rfl : f16 = true := (ch17.out (ch18.out (ch22.out (ch23.out rfl)).2.2.2.2.2.2.1))
         obtain rfl : f15 = true := (ch16.out (ch17.out (ch18.out (ch22.out (ch23.out rfl)).2.2.2.2.2.2.1)))
         obtain rfl : f14 = true := (ch22.out (ch23.out rfl)).2.2.2.2.2.1
         obtain rfl : f13 = true := (ch14.out (ch22.out (ch23.out rfl)).2.2.2.2.2.1)
         obtain rfl : f12 = true := (ch22.out (ch23.out rfl)).2.2.2.2.1
         obtain rfl : f11 = true := (ch12.out (ch22.out (ch23.out rfl)).2.2.2.2.1)
         obtain rfl : f10 = true := (ch11.out (ch12.out (ch22.out (ch23.out rfl)).2.2.2.2.1))
         obtain rfl : f9 = true := (ch22.out (ch23.out rfl)).2.2.2.1
         obtain rfl : f8 = true := (ch9.out (ch22.out (ch23.out rfl)).2.2.2.1)
         obtain rfl : f7 = true := (ch8.out (ch9.out (ch22.out (ch23.out rfl)).2.2.2.1))
         obtain rfl : f6 = true := (ch22.out (ch23.out rfl)).2.2.1
         obtain rfl : f5 = true := (ch6.out (ch22.out (ch23.out rfl)).2.2.1)
         obtain rfl : f4 = true := (ch5.out (ch6.out (ch22.out (ch23.out rfl)).2.2.1))
         obtain rfl : f3 = true := (ch22.out (ch23.out rfl)).2.1
         obtain rfl : f2 = true := (ch3.out (ch22.out (ch23.out rfl)).2.1)
         obtain rfl : f1 = true := (ch2.out (ch3.out (ch22.out (ch23.out rfl)).2.1))
         obtain rfl : f0 = true := (ch22.out (ch23.out rfl)).1
         have e25 : f25 = false := Bool.eq_false_iff.2 fun h => Bool.false_ne_true ((ch25.out h).1)
         subst e25
         refine .inl ?_
         unfold w12Upd Oper.wp
         go_simp
         exact w12J.at true true true true true true true true true true true true true true true true true true true true true true true true true false (o51) (n51) (c51) (o54) (n54) (c54) (o57) (n57) (c57) (o60) (n60) (c60) (o62) (n62) (c62) (o65) (n65) (c65) (o66) (n66) (c66) (o69) (n69) (c69) (H70) (o71) (n71) (c71) rfl rfl (Lib.hid (by simp)) (Lib.hid (by simp)) (Lib.hid (by simp)) (Lib.hid (by simp)) (Lib.hid (by simp)) (Lib.hid (by simp)) (Lib.hid (by simp)) (Lib.hid (by simp)) (Lib.hid (by simp)) (Lib.hid (by simp)) (Lib.hid (by simp)) (Lib.hid (by simp)) (Lib.hid (by simp)) (Lib.hid (by simp)) (Lib.hid (by simp)) (Lib.hid (by simp)) (Lib.hid (by simp)) (Lib.hid (by simp)) (hB) (r51) (r54) (r57) (r60) (r62) (r65) (r66) (r69) (r70) (r71) (by simp)
       · have ho' := ho
         simp at hu ho
         subst hu ho
         simp [Region.binds] at ha
         obtain rfl : f24 = true := by simp only [ha]
         obtain rfl : f0 = true := by simp only [ha]
         obtain rfl : f1 = true := by simp only [ha]
         obtain rfl : f2 = true := by simp only [ha]
         obtain rfl : f3 = true := by simp only [ha]
         obtain rfl : f4 = true := by simp only [ha]
         obtain rfl : f5 = true := by simp only [ha]
         obtain rfl : f6 = true := by simp only [ha]
         obtain rfl : f7 = true := by simp only [ha]
         obtain rfl : f8 = true := by simp only [ha]
         obtain rfl : f9 = true := by simp only [ha]
         obtain rfl : f10 = true := by simp only [ha]
         obtain rfl : f11 = true := by simp only [ha]
         obtain rfl : f12 = true := by simp only [ha]
         obtain rfl : f13 = true := by simp only [ha]
         obtain rfl : f14 = true := by simp only [ha]
         obtain rfl : f15 = true := by simp only [ha]
         obtain rfl : f16 = true := by simp only [ha]
         obtain rfl : f17 = true := by simp only [ha]
         obtain rfl : f18 = true := by simp only [ha]
         obtain rfl : f19 = true := by simp only [ha]
         obtain rfl : f20 = true := by simp only [ha]
         obtain rfl : f21 = true := by simp only [ha]
         obtain rfl : f22 = true := by simp only [ha]
         obtain rfl : f23 = true := by simp only [ha]
         clear ha
         have hB1 := hB rfl
         have hr71 := r71 rfl rfl
         have hT9 := HRZ.out.below hB1 HRZ.out.lt
         obtain ⟨z0, z1, z2, z3⟩ := bxc4 hT9
         have u0 := hT9.free 0
         have u1 := hT9.free 1
         have u2 := hT9.free 2
         have u3 := hT9.free 3
         have pl := hT9.lt
         refine .inl ?_
         unfold w12Upd Oper.wp
         go_simp
         exact w12J.at true true true true true true true true true true true true true true true true true true true true true true true true true true (o51) (n51) (c51) (o54) (n54) (c54) (o57) (n57) (c57) (o60) (n60) (c60) (o62) (n62) (c62) (o65) (n65) (c65) (o66) (n66) (c66) (o69) (n69) (c69) (H70) (o71) (n71) (c71) rfl rfl (Lib.hid (by simp)) (Lib.hid (by simp)) (Lib.hid (by simp)) (Lib.hid (by simp)) (Lib.hid (by simp)) (Lib.hid (by simp)) (Lib.hid (by simp)) (Lib.hid (by simp)) (Lib.hid (by simp)) (Lib.hid (by simp)) (Lib.hid (by simp)) (Lib.hid (by simp)) (Lib.hid (by simp)) (Lib.hid (by simp)) (Lib.hid (by simp)) (Lib.hid (by simp)) (Lib.hid (by simp)) (Lib.hid (by simp)) (by simp) (by simp) (by simp) (by simp) (by simp) (by simp) (by simp) (by simp) (by simp) (by simp) (by simp) (fun h0 => ⟨(((hT9.set 0 _).set 1 _).set 2 _).set 3 _, hr71.keep (KeptX.grown ((((setCell_grown _ _ _ _).trans (setCell_grown _ _ _ _)).trans (setCell_grown _ _ _ _)).trans (setCell_grown _ _ _ _)) (fun g e => by cases e; exact HSR.out)), ((((hB1.mono (Nat.le_of_lt HRZ.out.lt)).setCell (by simp) _).setCell (by simp) _).setCell (by simp) _).setCell (by simp) _⟩)

end Go.Proofs.YtbbbfjcikhpmbaaGreat
