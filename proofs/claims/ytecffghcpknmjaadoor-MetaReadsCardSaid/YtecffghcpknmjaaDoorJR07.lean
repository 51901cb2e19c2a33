/- What store.Put does; the conditions stand in the theorems. -/
import Derived.Test.YtecffghcpknmjaaDoorJR06
import Derived.Test.YtecffghcpknmjaaDoorJR05
import Derived.Test.YtecffghcpknmjaaDoorG2

namespace Go.Proofs.YtecffghcpknmjaaDoor
open Go Go.RowKit

def putE (es : List (SEnt × Nat)) (g : Gav) : Int := if gavMay g = false then 1 else if hasG es g then 4 else if 1024 ≤ es.length then 2 else 0
def PutOut (F : Nat → Prop) (b : Nat) (es : List (SEnt × Nat)) (r a : Int) (g : Gav) (s : S) (w : World) (e : Ending) (w' : World) : Prop := e = .returned (.int .i64 (putE es g)) ∧ Only F w w' ∧
  ∃ F' es', StoreAt F' w' b es' r a ∧ (∀ k, k < w.heap.size → F' k → F k) ∧ (putE es g ≠ 0 → es' = es) ∧ (putE es g = 0 → ∃ eb, es' = es ++ [(freshE g s, eb)])
theorem PutOut.no {F : Nat → Prop} {b : Nat} {es : List (SEnt × Nat)} {r a : Int} {g : Gav} {s : S} {w w' : World} {x : Int} (h : StoreAt F w b es r a) (hx : putE es g = x) (h0 : x ≠ 0) (hb : Below w.heap.size w w') : PutOut F b es r a g s w (.returned (.int .i64 x)) w' :=
  ⟨by rw [hx], Only.of hb, F, es, h.below hb, fun _ _ => id, fun _ => rfl, fun e => absurd (hx.symm.trans e) h0⟩
/-- The same, and that what nobody asked for stays so. -/
def PutFOut (F : Nat → Prop) (b : Nat) (es : List (SEnt × Nat)) (r a : Int) (g : Gav) (s : S) (w : World) (e : Ending) (w' : World) : Prop := e = .returned (.int .i64 (putE es g)) ∧ Only F w w' ∧
  ∃ F' es', StoreAt F' w' b es' r a ∧ (∀ k, k < w.heap.size → F' k → F k) ∧ (putE es g ≠ 0 → es' = es) ∧ (putE es g = 0 → ∃ eb, es' = es ++ [(freshE g s, eb)]) ∧ (FreshAt w es → FreshAt w' es')
theorem PutFOut.out {F : Nat → Prop} {b : Nat} {es : List (SEnt × Nat)} {r a : Int} {g : Gav} {s : S} {w w' : World} {e : Ending} (h : PutFOut F b es r a g s w e w') : PutOut F b es r a g s w e w' := by
  obtain ⟨h1, h2, F', es', h3, h4, h5, h6, -⟩ := h
  exact ⟨h1, h2, F', es', h3, h4, h5, h6⟩
theorem PutFOut.no {F : Nat → Prop} {b : Nat} {es : List (SEnt × Nat)} {r a : Int} {g : Gav} {s : S} {w w' : World} {x : Int} (h : StoreAt F w b es r a) (hx : putE es g = x) (h0 : x ≠ 0) (hb : Below w.heap.size w w') : PutFOut F b es r a g s w (.returned (.int .i64 x)) w' :=
  ⟨by rw [hx], Only.of hb, F, es, h.below hb, fun _ _ => id, fun _ => rfl, fun e => absurd (hx.symm.trans e) h0, fun h => h.below hb⟩
def NewBox (n : Nat) (w : World) (p : Nat) (cs : List Value) : Prop := n ≤ p ∧ Box w p cs
theorem NewBox.later {n : Nat} {w w' : World} {p : Nat} {cs : List Value} (h : NewBox n w p cs) (hb : Below w.heap.size w w') : NewBox n w' p cs := ⟨h.1, h.2.below hb h.2.lt⟩
theorem BoxS.later {w w' : World} {b : Nat} {cs : List Value} (h : Box w b cs) (hb : Below w.heap.size w w') : Box w' b cs := h.below hb h.lt
theorem MMap.later {K : Type} {kc : K → Value} {w w' : World} {m : Nat} {L : List (MEnt K)} {c : Nat} (h : MMap kc w m L c) (hb : Below w.heap.size w w') : MMap kc w' m L c := h.below hb h.lt
/-- Behind the append. -/
def AppF (V w' : World) (row : Option Nat) (v : Value) (l : List S) : Prop := V.grownBy w' row ∧ Owns 0 9 1 strC w' v l ∧ (v.ownBlock = row ∨ ∃ k, V.heap.size ≤ k ∧ v.ownBlock = some k)
theorem AppF.later {V w w' : World} {row : Option Nat} {v : Value} {l : List S} (h : AppF V w row v l) (hb : Below w.heap.size w w') : AppF V w' row v l := ⟨grown_then h.1 hb, h.2.1.below hb, h.2.2⟩
/-- A map's entry is written, as a step of a region that draws its order. -/
theorem wp_update {P : Program} {op : Oper} {a : Act} {w w' : World} {K : Act → World → Prop} {Q : Exit → Act → World → Prop} (ty : TypeId) (x y z : Operand) (ho : op.op = .mapUpdate ty x y z)
    (m k v : Value) (hm : a.eval x = m) (hk : a.eval y = k) (hv : a.eval z = v) (hr : (Instr.mapUpdate ty m k v).run P w = .ok () w') (h : K (a.put op.dst undef) w') : op.wp P a w K Q := by
  simp only [Oper.wp, execOp, ho, hm, hk, hv, Sem.run_bind, hr, Result.andThen_ok, Sem.run_pure, Oper.upon]
  exact h
def paUpd (b me : Nat) (g : Gav) (s : S) (x0 x1 x2 x3 x4 x5 x6 x7 x8 x9 x10 x11 x12 x13 x14 x15 x16 x17 x18 x19 x20 x21 x22 x23 x24 x33 x34 x35 x36 x37 x38 x39 x40 x41 x42 x43 x44 x45 x46 x47 x48 x49 : Value) (f0 f1 f2 f3 f4 f5 f6 f7 _f8 : Bool) (P : Nat) : Act :=
  ⟨#[x0, x1, x2, x3, x4, x5, x6, x7, x8, x9, x10, x11, x12, x13, x14, x15, x16, x17, x18, x19, x20, x21, x22, x23, x24, cond f0 (.pointer (some ⟨b, 0, none⟩)) undef, cond f1 (.pointer (some ⟨b, 0, none⟩)) undef, cond f2 (.pointer (some ⟨b, 0, none⟩)) undef, cond f3 (.map (some me)) undef, cond f4 (.agg #[.string g.group, .string g.artifact, .string g.version]) undef, cond f5 (.string s) undef, cond f6 (.agg #[.string s, .int .u32 0, .int .i32 0, .int .u32 0, .bool false, .string ⟨#[]⟩, .string ⟨#[]⟩, .string ⟨#[]⟩, .string ⟨#[]⟩, .string ⟨#[]⟩, .string ⟨#[]⟩, .string ⟨#[]⟩, .slice none 0 0, .slice none 0 0, .slice none 0 0, .int .i64 0, .string ⟨#[]⟩, .string ⟨#[]⟩, .string ⟨#[]⟩, .int .i64 0, .int .i64 0, .int .i64 0, .string ⟨#[]⟩]) undef, cond f7 (.pointer (some ⟨P, 0, none⟩)) undef, x33, x34, x35, x36, x37, x38, x39, x40, x41, x42, x43, x44, x45, x46, x47, x48, x49], []⟩
inductive paJ (b me : Nat) (g : Gav) (s : S) (L : List (MEnt Gav)) (cl : Nat) (V : World) (x0 x1 x2 x3 x4 x5 x6 x7 x8 x9 x10 x11 x12 x13 x14 x15 x16 x17 x18 x19 x20 x21 x22 x23 x24 x33 x34 x35 x36 x37 x38 x39 x40 x41 x42 x43 x44 x45 x46 x47 x48 x49 : Value) : Array Bool → Act → World → Prop where
  | mk (f0 f1 f2 f3 f4 f5 f6 f7 f8 : Bool) (P : Nat) (w' : World) (ch1 : Hid (f1 = true → f0 = true)) (ch2 : Hid (f2 = true → f1 = true)) (ch3 : Hid (f3 = true → f2 = true)) (ch6 : Hid (f6 = true → f5 = true)) (ch7 : Hid (f7 = true → f6 = true)) (ch8 : Hid (f8 = true → f3 = true ∧ f4 = true ∧ f7 = true)) (hB : (f8 = false → Below V.heap.size V w')) (bx : (f7 = true → f8 = false → NewBox V.heap.size w' P [.string s, .int .u32 0, .int .i32 0, .int .u32 0, .bool false, .string ⟨#[]⟩, .string ⟨#[]⟩, .string ⟨#[]⟩, .string ⟨#[]⟩, .string ⟨#[]⟩, .string ⟨#[]⟩, .string ⟨#[]⟩, .slice none 0 0, .slice none 0 0, .slice none 0 0, .int .i64 0, .string ⟨#[]⟩, .string ⟨#[]⟩, .string ⟨#[]⟩, .int .i64 0, .int .i64 0, .int .i64 0, .string ⟨#[]⟩])) (fin : (f8 = true → ∃ w1, Below V.heap.size V w1 ∧ NewBox V.heap.size w1 P [.string s, .int .u32 0, .int .i32 0, .int .u32 0, .bool false, .string ⟨#[]⟩, .string ⟨#[]⟩, .string ⟨#[]⟩, .string ⟨#[]⟩, .string ⟨#[]⟩, .string ⟨#[]⟩, .string ⟨#[]⟩, .slice none 0 0, .slice none 0 0, .slice none 0 0, .int .i64 0, .string ⟨#[]⟩, .string ⟨#[]⟩, .string ⟨#[]⟩, .int .i64 0, .int .i64 0, .int .i64 0, .string ⟨#[]⟩] ∧ w' = mSet kGav w1 me (mPut L g (.pointer (some ⟨P, 0, none⟩)) cl) (mCnt L g cl))) : paJ b me g s L cl V x0 x1 x2 x3 x4 x5 x6 x7 x8 x9 x10 x11 x12 x13 x14 x15 x16 x17 x18 x19 x20 x21 x22 x23 x24 x33 x34 x35 x36 x37 x38 x39 x40 x41 x42 x43 x44 x45 x46 x47 x48 x49 #[f0, f1, f2, f3, f4, f5, f6, f7, f8] (paUpd b me g s x0 x1 x2 x3 x4 x5 x6 x7 x8 x9 x10 x11 x12 x13 x14 x15 x16 x17 x18 x19 x20 x21 x22 x23 x24 x33 x34 x35 x36 x37 x38 x39 x40 x41 x42 x43 x44 x45 x46 x47 x48 x49 f0 f1 f2 f3 f4 f5 f6 f7 f8 P) w'
theorem paJ.at {b me : Nat} {g : Gav} {s : S} {L : List (MEnt Gav)} {cl : Nat} {V : World} {x0 x1 x2 x3 x4 x5 x6 x7 x8 x9 x10 x11 x12 x13 x14 x15 x16 x17 x18 x19 x20 x21 x22 x23 x24 x33 x34 x35 x36 x37 x38 x39 x40 x41 x42 x43 x44 x45 x46 x47 x48 x49 : Value} {listed : Array Bool} {atx : Act} {w' : World} (f0 f1 f2 f3 f4 f5 f6 f7 f8 : Bool) (P : Nat) (hl : listed = #[f0, f1, f2, f3, f4, f5, f6, f7, f8]) (ha : atx = paUpd b me g s x0 x1 x2 x3 x4 x5 x6 x7 x8 x9 x10 x11 x12 x13 x14 x15 x16 x17 x18 x19 x20 x21 x22 x23 x24 x33 x34 x35 x36 x37 x38 x39 x40 x41 x42 x43 x44 x45 x46 x47 x48 x49 f0 f1 f2 f3 f4 f5 f6 f7 f8 P) (ch1 : Hid (f1 = true → f0 = true)) (ch2 : Hid (f2 = true → f1 = true)) (ch3 : Hid (f3 = true → f2 = true)) (ch6 : Hid (f6 = true → f5 = true)) (ch7 : Hid (f7 = true → f6 = true)) (ch8 : Hid (f8 = true → f3 = true ∧ f4 = true ∧ f7 = true)) (hB : (f8 = false → Below V.heap.size V w')) (bx : (f7 = true → f8 = false → NewBox V.heap.size w' P [.string s, .int .u32 0, .int .i32 0, .int .u32 0, .bool false, .string ⟨#[]⟩, .string ⟨#[]⟩, .string ⟨#[]⟩, .string ⟨#[]⟩, .string ⟨#[]⟩, .string ⟨#[]⟩, .string ⟨#[]⟩, .slice none 0 0, .slice none 0 0, .slice none 0 0, .int .i64 0, .string ⟨#[]⟩, .string ⟨#[]⟩, .string ⟨#[]⟩, .int .i64 0, .int .i64 0, .int .i64 0, .string ⟨#[]⟩])) (fin : (f8 = true → ∃ w1, Below V.heap.size V w1 ∧ NewBox V.heap.size w1 P [.string s, .int .u32 0, .int .i32 0, .int .u32 0, .bool false, .string ⟨#[]⟩, .string ⟨#[]⟩, .string ⟨#[]⟩, .string ⟨#[]⟩, .string ⟨#[]⟩, .string ⟨#[]⟩, .string ⟨#[]⟩, .slice none 0 0, .slice none 0 0, .slice none 0 0, .int .i64 0, .string ⟨#[]⟩, .string ⟨#[]⟩, .string ⟨#[]⟩, .int .i64 0, .int .i64 0, .int .i64 0, .string ⟨#[]⟩] ∧ w' = mSet kGav w1 me (mPut L g (.pointer (some ⟨P, 0, none⟩)) cl) (mCnt L g cl))) : paJ b me g s L cl V x0 x1 x2 x3 x4 x5 x6 x7 x8 x9 x10 x11 x12 x13 x14 x15 x16 x17 x18 x19 x20 x21 x22 x23 x24 x33 x34 x35 x36 x37 x38 x39 x40 x41 x42 x43 x44 x45 x46 x47 x48 x49 listed atx w' := by
  subst hl ha
  exact .mk f0 f1 f2 f3 f4 f5 f6 f7 f8 P w' ch1 ch2 ch3 ch6 ch7 ch8 hB bx fin
def pbUpd (b mv GB : Nat) (g : Gav) (es : List (SEnt × Nat)) (RV : Value) (x0 x1 x2 x3 x4 x5 x6 x7 x8 x9 x10 x11 x12 x13 x14 x15 x16 x17 x18 x19 x20 x21 x22 x23 x24 x25 x26 x27 x28 x29 x30 x31 x32 : Value) (f0 f1 f2 f3 f4 f5 f6 f7 f8 f9 f10 f11 f12 f13 f14 f15 f16 _f17 : Bool) (R : Nat) (q : Nat) (cap : Nat) : Act :=
  ⟨#[x0, x1, x2, x3, x4, x5, x6, x7, x8, x9, x10, x11, x12, x13, x14, x15, x16, x17, x18, x19, x20, x21, x22, x23, x24, x25, x26, x27, x28, x29, x30, x31, x32, cond f0 (.pointer (some ⟨b, 0, none⟩)) undef, cond f1 (.pointer (some ⟨b, 0, none⟩)) undef, cond f2 (.pointer (some ⟨b, 1, none⟩)) undef, cond f3 (.map (some mv)) undef, cond f4 (.agg #[.string g.group, .string g.artifact, .string g.version]) undef, cond f5 (.agg #[.string g.group, .string g.artifact]) undef, cond f6 (.pointer (some ⟨b, 0, none⟩)) undef, cond f7 (.pointer (some ⟨b, 0, none⟩)) undef, cond f8 (.pointer (some ⟨b, 1, none⟩)) undef, cond f9 (.map (some mv)) undef, cond f10 (.agg #[.string g.group, .string g.artifact, .string g.version]) undef, cond f11 (.agg #[.string g.group, .string g.artifact]) undef, cond f12 (RV) undef, cond f13 (.pointer (some ⟨GB, 2, none⟩)) undef, cond f14 (.string g.version) undef, cond f15 (.slice (some ⟨R, 0, none⟩) 1 1) undef, cond f16 (.slice (some ⟨q, 0, none⟩) (versOf es (idOf g)).length.succ cap) undef], []⟩
inductive pbJ (b me mv GB : Nat) (r a : Int) (g : Gav) (es : List (SEnt × Nat)) (RV : Value) (Vm : List (MEnt Id)) (cv : Nat) (V : World) (x0 x1 x2 x3 x4 x5 x6 x7 x8 x9 x10 x11 x12 x13 x14 x15 x16 x17 x18 x19 x20 x21 x22 x23 x24 x25 x26 x27 x28 x29 x30 x31 x32 : Value) : Array Bool → Act → World → Prop where
  | mk (f0 f1 f2 f3 f4 f5 f6 f7 f8 f9 f10 f11 f12 f13 f14 f15 f16 f17 : Bool) (R : Nat) (q : Nat) (cap : Nat) (w' : World) (ch1 : Hid (f1 = true → f0 = true)) (ch2 : Hid (f2 = true → f1 = true)) (ch3 : Hid (f3 = true → f2 = true)) (ch5 : Hid (f5 = true → f4 = true)) (ch7 : Hid (f7 = true → f6 = true)) (ch8 : Hid (f8 = true → f7 = true)) (ch9 : Hid (f9 = true → f8 = true)) (ch11 : Hid (f11 = true → f10 = true)) (ch12 : Hid (f12 = true → f9 = true ∧ f11 = true)) (ch14 : Hid (f14 = true → f13 = true)) (ch15 : Hid (f15 = true → f14 = true)) (ch16 : Hid (f16 = true → f12 = true ∧ f15 = true)) (ch17 : Hid (f17 = true → f3 = true ∧ f5 = true ∧ f16 = true)) (hB : (f16 = false → Below V.heap.size V w')) (bx : (f15 = true → f16 = false → Box w' R [.string g.version])) (rb : (f17 = false → Box w' b [.map (some me), .map (some mv), .int .i64 r, .int .i64 a])) (rg : (f17 = false → Box w' GB [.string g.group, .string g.artifact, .string g.version])) (rm : (f17 = false → MMap kId w' mv Vm cv)) (ap : (f16 = true → f17 = false → AppF V w' RV.ownBlock (.slice (some ⟨q, 0, none⟩) (versOf es (idOf g)).length.succ cap) (versOf es (idOf g) ++ [g.version]))) (fin : (f17 = true → ∃ w3, AppF V w3 RV.ownBlock (.slice (some ⟨q, 0, none⟩) (versOf es (idOf g)).length.succ cap) (versOf es (idOf g) ++ [g.version]) ∧ w' = mSet kId w3 mv (mPut Vm (idOf g) (.slice (some ⟨q, 0, none⟩) (versOf es (idOf g)).length.succ cap) cv) (mCnt Vm (idOf g) cv))) : pbJ b me mv GB r a g es RV Vm cv V x0 x1 x2 x3 x4 x5 x6 x7 x8 x9 x10 x11 x12 x13 x14 x15 x16 x17 x18 x19 x20 x21 x22 x23 x24 x25 x26 x27 x28 x29 x30 x31 x32 #[f0, f1, f2, f3, f4, f5, f6, f7, f8, f9, f10, f11, f12, f13, f14, f15, f16, f17] (pbUpd b mv GB g es RV x0 x1 x2 x3 x4 x5 x6 x7 x8 x9 x10 x11 x12 x13 x14 x15 x16 x17 x18 x19 x20 x21 x22 x23 x24 x25 x26 x27 x28 x29 x30 x31 x32 f0 f1 f2 f3 f4 f5 f6 f7 f8 f9 f10 f11 f12 f13 f14 f15 f16 f17 R q cap) w'
theorem pbJ.at {b me mv GB : Nat} {r a : Int} {g : Gav} {es : List (SEnt × Nat)} {RV : Value} {Vm : List (MEnt Id)} {cv : Nat} {V : World} {x0 x1 x2 x3 x4 x5 x6 x7 x8 x9 x10 x11 x12 x13 x14 x15 x16 x17 x18 x19 x20 x21 x22 x23 x24 x25 x26 x27 x28 x29 x30 x31 x32 : Value} {listed : Array Bool} {atx : Act} {w' : World} (f0 f1 f2 f3 f4 f5 f6 f7 f8 f9 f10 f11 f12 f13 f14 f15 f16 f17 : Bool) (R : Nat) (q : Nat) (cap : Nat) (hl : listed = #[f0, f1, f2, f3, f4, f5, f6, f7, f8, f9, f10, f11, f12, f13, f14, f15, f16, f17]) (ha : atx = pbUpd b mv GB g es RV x0 x1 x2 x3 x4 x5 x6 x7 x8 x9 x10 x11 x12 x13 x14 x15 x16 x17 x18 x19 x20 x21 x22 x23 x24 x25 x26 x27 x28 x29 x30 x31 x32 f0 f1 f2 f3 f4 f5 f6 f7 f8 f9 f10 f11 f12 f13 f14 f15 f16 f17 R q cap) (ch1 : Hid (f1 = true → f0 = true)) (ch2 : Hid (f2 = true → f1 = true)) (ch3 : Hid (f3 = true → f2 = true)) (ch5 : Hid (f5 = true → f4 = true)) (ch7 : Hid (f7 = true → f6 = true)) (ch8 : Hid (f8 = true → f7 = true)) (ch9 : Hid (f9 = true → f8 = true)) (ch11 : Hid (f11 = true → f10 = true)) (ch12 : Hid (f12 = true → f9 = true ∧ f11 = true)) (ch14 : Hid (f14 = true → f13 = true)) (ch15 : Hid (f15 = true → f14 = true)) (ch16 : Hid (f16 = true → f12 = true ∧ f15 = true)) (ch17 : Hid (f17 = true → f3 = true ∧ f5 = true ∧ f16 = true)) (hB : (f16 = false → Below V.heap.size V w')) (bx : (f15 = true → f16 = false → Box w' R [.string g.version])) (rb : (f17 = false → Box w' b [.map (some me), .map (some mv), .int .i64 r, .int .i64 a])) (rg : (f17 = false → Box w' GB [.string g.group, .string g.artifact, .string g.version])) (rm : (f17 = false → MMap kId w' mv Vm cv)) (ap : (f16 = true → f17 = false → AppF V w' RV.ownBlock (.slice (some ⟨q, 0, none⟩) (versOf es (idOf g)).length.succ cap) (versOf es (idOf g) ++ [g.version]))) (fin : (f17 = true → ∃ w3, AppF V w3 RV.ownBlock (.slice (some ⟨q, 0, none⟩) (versOf es (idOf g)).length.succ cap) (versOf es (idOf g) ++ [g.version]) ∧ w' = mSet kId w3 mv (mPut Vm (idOf g) (.slice (some ⟨q, 0, none⟩) (versOf es (idOf g)).length.succ cap) cv) (mCnt Vm (idOf g) cv))) : pbJ b me mv GB r a g es RV Vm cv V x0 x1 x2 x3 x4 x5 x6 x7 x8 x9 x10 x11 x12 x13 x14 x15 x16 x17 x18 x19 x20 x21 x22 x23 x24 x25 x26 x27 x28 x29 x30 x31 x32 listed atx w' := by
  subst hl ha
  exact .mk f0 f1 f2 f3 f4 f5 f6 f7 f8 f9 f10 f11 f12 f13 f14 f15 f16 f17 R q cap w' ch1 ch2 ch3 ch5 ch7 ch8 ch9 ch11 ch12 ch14 ch15 ch16 ch17 hB bx rb rg rm ap fin
set_option maxRecDepth 100000 in
set_option maxHeartbeats 8000000 in
theorem putF_any (g : Gav) (s : S) (w : World) {F : Nat → Prop} {b : Nat} {es : List (SEnt × Nat)} {r a : Int} (h : StoreAt F w b es r a) (hg : gavSm g) :
    Calls Tryd.prog 26 #[ptr b, .agg #[.string g.group, .string g.artifact, .string g.version], .string s] w (PutFOut F b es r a g s w) := by
  have HST := Lib.hid h
  have HG := Lib.hid hg
  have hlt : b < w.heap.size := by obtain ⟨me, mv, L, cl, V, cv, h⟩ := h; exact h.box.lt
  clear h hg
  unfold ptr
  go_enter Tryd.func26, Tryd.ntmps26
  go_upto_region 1 with fail
  refine wp_world ?_
  intro W hW
  have x0 : Box W w.heap.size [.string g.group, .string g.artifact, .string g.version] := by rw [hW]; exact Box.new w (gavC g) _ _ rfl
  have hb : Below w.heap.size w W := by rw [hW]; exact (Below.refl _ _).alloc (Nat.le_refl _) _
  clear hW
  have HX := Lib.hid x0
  have HB := Lib.hid hb
  clear hb
  have k0 := x0.cell 0 _ rfl
  have k1 := x0.cell 1 _ rfl
  have k2 := x0.cell 2 _ rfl
  have kl := x0.lt
  clear x0
  go_wp2_with fail
  refine (mayGav_any g _ HG.out).mono ?_
  rintro e W1 ⟨rfl, hb1⟩
  have HB1 := Lib.hid (HB.out.trans (hb1.mono HB.out.size))
  have HX1 := Lib.hid (HX.out.below hb1 HX.out.lt)
  clear hb1 HB HX k0 k1 k2 kl
  cases hm : gavMay g with
  | false =>
    have HPE : Hid (putE es g = 1) := by show _ = _; unfold putE; rw [if_pos hm]
    clear hm
    go_wp2_with fail
    go_ret
    exact PutFOut.no HST.out HPE.out (by decide) HB1.out
  | true =>
    have HM := Lib.hid hm
    clear hm
    have HS1 := Lib.hid (HST.out.below HB1.out)
    have k0 := HX1.out.cell 0 _ rfl
    have k1 := HX1.out.cell 1 _ rfl
    have k2 := HX1.out.cell 2 _ rfl
    have kl := HX1.out.lt
    go_wp2_with fail
    refine (has_any g _ HS1.out).mono ?_
    rintro e W2 ⟨rfl, hb2⟩
    have HB2 := Lib.hid (HB1.out.trans (hb2.mono HB1.out.size))
    have HX2 := Lib.hid (HX1.out.below hb2 HX1.out.lt)
    clear hb2 HB1 HX1 HS1 k0 k1 k2 kl
    cases hh : hasG es g with
    | true =>
      have HPE : Hid (putE es g = 4) := by show _ = _; unfold putE; rw [if_neg (by rw [HM.out]; simp), hh, if_pos rfl]
      clear hh
      go_wp2_with fail
      go_ret
      exact PutFOut.no HST.out HPE.out (by decide) HB2.out
    | false =>
      have HNH := Lib.hid hh
      clear hh
      obtain ⟨me, mv, L, cl, V, cv, hst⟩ := HST.out
      have HST2 : Hid (StoreIn F W2 b me mv L cl V cv es r a) := hst.only (Only.of (F := fun _ => False) HB2.out) (fun _ _ => id) fun e he => (hst.ent e he).only (Only.of HB2.out) (fun _ _ => id) (HB2.out.block _ (hst.lt _ (hst.own.2.2.2 e he)))
      have HLT : Hid (∀ k, F k → k < w.heap.size) := hst.lt
      clear hst
      have hl : ∀ ty, (Builtin.len_ #[87] ty #[.map (some me)]).run Tryd.prog W2 = .ok (.int .i64 es.length) W2 := fun ty => by

        rw [len_map HST2.out.ents Tryd.underlying87 ty, HST2.out.len]
      have b0 := HST2.out.box.cell 0 _ rfl
      have bl := HST2.out.box.lt
      by_cases h4 : 1024 ≤ es.length
      · have d4 : decide ((1024 : Int) ≤ (es.length : Int)) = true := decide_eq_true (by omega)
        have d5 : decide (1024 ≤ es.length) = true := decide_eq_true h4
        have HPE : Hid (putE es g = 2) := by show _ = _; unfold putE; rw [if_neg (by rw [HM.out]; simp), HNH.out, if_neg (by simp), if_pos h4]
        clear h4
        go_wp2_with fail
        go_ret
        exact PutFOut.no HST.out HPE.out (by decide) HB2.out
      · have d4 : decide ((1024 : Int) ≤ (es.length : Int)) = false := decide_eq_false (by omega)
        have d5 : decide (1024 ≤ es.length) = false := decide_eq_false h4
        have HPE : Hid (putE es g = 0) := by show _ = _; unfold putE; rw [if_neg (by rw [HM.out]; simp), HNH.out, if_neg (by simp), if_neg h4]
        have HLE : Hid ((versOf es (idOf g)).length ≤ 1024) := by
          show _ ≤ _
          unfold versOf
          have := List.length_filter_le (fun g' => decide (idOf g' = idOf g)) (es.map fun e => e.1.gav)
          rw [List.length_map] at this ⊢
          omega
        clear h4
        go_upto_region 9 with fail
        clear d4 d5 hl b0 bl
        have HSB := Lib.hid HST2.out.box
        have HME := Lib.hid HST2.out.ents
        have HX := HX2
        refine wp_region_flags0 (paJ b me g s L cl W2 _ _ _ _ _ _ _ _ _ _ _ _ _ _ _ _ _ _ _ _ _ _ _ _ _ _ _ _ _ _ _ _ _ _ _ _ _ _ _ _ _ _) (by kernel_rfl) 9 rfl (by kernel_rfl) (paJ.at false false false false false false false false false (0) rfl (by unfold paUpd; rfl) ?i0 ?i1 ?i2 ?i3 ?i4 ?i5 ?i6 ?i7 ?i8) ?fin ?step
        case i0 => exact Lib.hid (by simp)
        case i1 => exact Lib.hid (by simp)
        case i2 => exact Lib.hid (by simp)
        case i3 => exact Lib.hid (by simp)
        case i4 => exact Lib.hid (by simp)
        case i5 => exact Lib.hid (by simp)
        case i6 => exact fun h0 => belowN (Below.refl _ _) 1
        case i7 => exact by simp
        case i8 => exact by simp
        case fin =>
          intro a' w' hJ
          generalize hl : Array.replicate 9 true = Lz at hJ
          cases hJ with
          | mk f0 f1 f2 f3 f4 f5 f6 f7 f8 P _ ch1 ch2 ch3 ch6 ch7 ch8 hB bx fin =>
            have hl' : [true, true, true, true, true, true, true, true, true] = [f0, f1, f2, f3, f4, f5, f6, f7, f8] := congrArg Array.toList hl
            simp only [List.cons.injEq, and_true] at hl'
            obtain ⟨rfl, rfl, rfl, rfl, rfl, rfl, rfl, rfl, rfl⟩ := hl'
            clear hl
            unfold paUpd
            simp only [cond_true]
            obtain ⟨w5, hb5, hx5, hw5⟩ := fin rfl
            clear ch1 ch2 ch3 ch6 ch7 ch8 hB bx fin
            obtain ⟨W6, hW6⟩ : ∃ W6 : World, W6 = w' := ⟨_, rfl⟩
            rw [← hW6]
            have HW5 : Hid (W6 = _) := hW6.trans hw5
            clear hW6 hw5
            have HB5 := Lib.hid hb5
            have HX5 := Lib.hid hx5
            clear hb5 hx5 HSB HME
            obtain ⟨RV, hrv⟩ : ∃ RV, RV = rowV V (idOf g) := ⟨_, rfl⟩
            have hg6 : w5.grownBy W6 (some me) := by rw [HW5.out]; exact mSet_grown _ _ _ _
            have hat : ∀ k, RV.ownBlock = some k → F k ∧ k ≠ b ∧ k ≠ me ∧ k ≠ mv ∧ ∀ e ∈ es, e.2 ≠ k := fun k hk => HST2.out.rowV_at (idOf g) (by rw [← hrv]; exact hk)
            have hne := HST2.out.ne
            have hown := HST2.out.own
            have HSB : Hid (Box W6 b [.map (some me), .map (some mv), .int .i64 r, .int .i64 a]) := (HST2.out.box.below HB5.out HST2.out.box.lt).grown hg6 (fun e => hne.1 (by cases e; rfl))
            have HX : Hid (Box W6 w.heap.size [.string g.group, .string g.artifact, .string g.version]) := (HX2.out.below HB5.out HX2.out.lt).grown hg6 (fun e => by have := HLT.out me hown.2.1; cases e; omega)
            have HMV : Hid (MMap kId W6 mv V cv) := (HST2.out.vers.below HB5.out HST2.out.vers.lt).grown hg6 (fun e => hne.2.2.1 (by cases e; rfl))
            have HRV : Hid (Owns 0 9 1 strC W6 RV (versOf es (idOf g))) := by
              have h1 := HST2.out.rowV_owns (idOf g)
              rw [← hrv] at h1
              exact (h1.below HB5.out).only (Only.grown (F := fun k => k = me) hg6 (by rintro k ⟨⟩; rfl)) (fun k hk e => (hat k hk).2.2.1 e)
            have HLK : Hid (∀ w', MMap kId w' mv V cv → (Instr.lookup 88 (.map (some mv)) (.agg #[.string g.group, .string g.artifact]) false).run Tryd.prog w' = .ok RV w') := fun w' h => by rw [hrv]; exact look_row (idOf g) h
            have HN1 : Hid (some b ≠ RV.ownBlock) := fun e => (hat b e.symm).2.1 rfl
            have HN2 : Hid (some w.heap.size ≠ RV.ownBlock) := fun e => by have := HLT.out _ (hat _ e.symm).1; omega
            have HN3 : Hid (some mv ≠ RV.ownBlock) := fun e => (hat mv e.symm).2.2.2.1 rfl
            have HRVE := Lib.hid hrv
            clear hrv hg6 hat hne hown
            go_upto_region 10 with fail
            refine wp_region_flags0 (pbJ b me mv w.heap.size r a g es RV V cv W6 _ _ _ _ _ _ _ _ _ _ _ _ _ _ _ _ _ _ _ _ _ _ _ _ _ _ _ _ _ _ _ _ _) (by kernel_rfl) 18 rfl (by kernel_rfl) (pbJ.at false false false false false false false false false false false false false false false false false false (0) (0) (0) rfl (by unfold pbUpd; rfl) ?j0 ?j1 ?j2 ?j3 ?j4 ?j5 ?j6 ?j7 ?j8 ?j9 ?j10 ?j11 ?j12 ?j13 ?j14 ?j15 ?j16 ?j17 ?j18 ?j19) ?fin2 ?step2
            case j0 => exact Lib.hid (by simp)
            case j1 => exact Lib.hid (by simp)
            case j2 => exact Lib.hid (by simp)
            case j3 => exact Lib.hid (by simp)
            case j4 => exact Lib.hid (by simp)
            case j5 => exact Lib.hid (by simp)
            case j6 => exact Lib.hid (by simp)
            case j7 => exact Lib.hid (by simp)
            case j8 => exact Lib.hid (by simp)
            case j9 => exact Lib.hid (by simp)
            case j10 => exact Lib.hid (by simp)
            case j11 => exact Lib.hid (by simp)
            case j12 => exact Lib.hid (by simp)
            case j13 => exact fun h0 => belowN (Below.refl _ _) 1
            case j14 => exact by simp
            case j15 => exact fun _ => HSB.out.drewN 1
            case j16 => exact fun _ => HX.out.drewN 1
            case j17 => exact fun _ => HMV.out
            case j18 => exact by simp
            case j19 => exact by simp
            case fin2 =>
              intro a' w' hJ
              generalize hl : Array.replicate 18 true = Lz at hJ
              cases hJ with
              | mk f0 f1 f2 f3 f4 f5 f6 f7 f8 f9 f10 f11 f12 f13 f14 f15 f16 f17 R q cap _ ch1 ch2 ch3 ch5 ch7 ch8 ch9 ch11 ch12 ch14 ch15 ch16 ch17 hB bx rb rg rm ap fin =>
                have hl' : [true, true, true, true, true, true, true, true, true, true, true, true, true, true, true, true, true, true] = [f0, f1, f2, f3, f4, f5, f6, f7, f8, f9, f10, f11, f12, f13, f14, f15, f16, f17] := congrArg Array.toList hl
                simp only [List.cons.injEq, and_true] at hl'
                obtain ⟨rfl, rfl, rfl, rfl, rfl, rfl, rfl, rfl, rfl, rfl, rfl, rfl, rfl, rfl, rfl, rfl, rfl, rfl⟩ := hl'
                clear hl
                unfold pbUpd
                simp only [cond_true]
                obtain ⟨w7, hap, hw7⟩ := fin rfl
                clear ch1 ch2 ch3 ch5 ch7 ch8 ch9 ch11 ch12 ch14 ch15 ch16 ch17 hB bx rb rg rm ap fin
                obtain ⟨W8, hW8⟩ : ∃ W8 : World, W8 = w' := ⟨_, rfl⟩
                rw [← hW8]
                have HAP := Lib.hid hap
                have HW7 : Hid (W8 = _) := hW8.trans hw7
                clear hap hw7 hW8
                go_wp2
                go_ret
                obtain rfl := HRVE.out
                obtain ⟨⟨F', hp, hF⟩, ho⟩ := HST2.out.put HNH.out HB5.out HX5.out.2 HX5.out.1 (w2 := W6) (by unfold ptr; rw [← show W6 = _ from HW5.out]; exact Below.refl _ _) HAP.out.1 HAP.out.2.1 (HAP.out.2.2.imp id fun ⟨k, h1, h2⟩ => ⟨k, by rw [show W6 = _ from HW5.out] at h1; simpa [mSet] using h1, h2⟩) HW7.out
                refine ⟨by rw [HPE.out]; rfl, (Only.of HB2.out).trans ho fun _ _ => id, F', _, ⟨_, _, _, _, _, _, hp⟩, fun k hk hk2 => hF k (Nat.lt_of_lt_of_le hk HB2.out.size) hk2, fun h => absurd HPE.out h, fun _ => ⟨P, rfl⟩, fun hf => HST2.out.put_fresh HB5.out HX5.out.2 HX5.out.1 (w2 := W6) (by unfold ptr; rw [← show W6 = _ from HW5.out]; exact Below.refl _ _) HAP.out.1 HW7.out (hf.below HB2.out)⟩
            case step2 =>
              intro listed a' w' hJ i hi
              cases hJ with
              | mk f0 f1 f2 f3 f4 f5 f6 f7 f8 f9 f10 f11 f12 f13 f14 f15 f16 f17 R q cap _ ch1 ch2 ch3 ch5 ch7 ch8 ch9 ch11 ch12 ch14 ch15 ch16 ch17 hB bx rb rg rm ap fin =>
                rw [mem_ready] at hi
                obtain ⟨hu, o, ho, ha⟩ := hi
                have hi8 : i < 18 := (Array.getElem?_eq_some_iff.1 ho).1
                rcases (by omega : i = 0 ∨ i = 1 ∨ i = 2 ∨ i = 3 ∨ i = 4 ∨ i = 5 ∨ i = 6 ∨ i = 7 ∨ i = 8 ∨ i = 9 ∨ i = 10 ∨ i = 11 ∨ i = 12 ∨ i = 13 ∨ i = 14 ∨ i = 15 ∨ i = 16 ∨ i = 17) with rfl | rfl | rfl | rfl | rfl | rfl | rfl | rfl | rfl | rfl | rfl | rfl | rfl | rfl | rfl | rfl | rfl | rfl
                · have ho' := ho
                  simp at hu ho
                  subst hu ho
                  clear ha
                  have e1 : f1 = false := Bool.eq_false_iff.2 fun h => Bool.false_ne_true ((ch1.out h))
                  have e2 : f2 = false := Bool.eq_false_iff.2 fun h => Bool.false_ne_true ((ch1.out (ch2.out h)))
                  have e3 : f3 = false := Bool.eq_false_iff.2 fun h => Bool.false_ne_true ((ch1.out (ch2.out (ch3.out h))))
                  have e17 : f17 = false := Bool.eq_false_iff.2 fun h => Bool.false_ne_true ((ch1.out (ch2.out (ch3.out (ch17.out h).1))))
                  subst e1 e2 e3 e17
                  refine .inl ?_
                  unfold pbUpd Oper.wp
                  go_simp
                  exact pbJ.at true false false false f4 f5 f6 f7 f8 f9 f10 f11 f12 f13 f14 f15 f16 false (R) (q) (cap) rfl rfl (Lib.hid (by simp)) (Lib.hid (by simp)) (Lib.hid (by simp)) (ch5) (ch7) (ch8) (ch9) (ch11) (ch12) (ch14) (ch15) (ch16) (Lib.hid (by simp)) (hB) (bx) (rb) (rg) (rm) (ap) (by simp)
                · have ho' := ho
                  simp at hu ho
                  subst hu ho
                  simp [Region.binds] at ha
                  obtain rfl : f0 = true := by simp only [ha]
                  clear ha
                  have e2 : f2 = false := Bool.eq_false_iff.2 fun h => Bool.false_ne_true ((ch2.out h))
                  have e3 : f3 = false := Bool.eq_false_iff.2 fun h => Bool.false_ne_true ((ch2.out (ch3.out h)))
                  have e17 : f17 = false := Bool.eq_false_iff.2 fun h => Bool.false_ne_true ((ch2.out (ch3.out (ch17.out h).1)))
                  subst e2 e3 e17
                  have kb := (rb rfl).cell 0 _ rfl
                  have kl := (rb rfl).lt
                  refine .inl ?_
                  unfold pbUpd Oper.wp
                  go_simp
                  exact pbJ.at true true false false f4 f5 f6 f7 f8 f9 f10 f11 f12 f13 f14 f15 f16 false (R) (q) (cap) rfl rfl (Lib.hid (by simp)) (Lib.hid (by simp)) (Lib.hid (by simp)) (ch5) (ch7) (ch8) (ch9) (ch11) (ch12) (ch14) (ch15) (ch16) (Lib.hid (by simp)) (hB) (bx) (rb) (rg) (rm) (ap) (by simp)
                · have ho' := ho
                  simp at hu ho
                  subst hu ho
                  simp [Region.binds] at ha
                  obtain rfl : f1 = true := by simp only [ha]
                  clear ha
                  obtain rfl : f0 = true := (ch1.out rfl)
                  have e3 : f3 = false := Bool.eq_false_iff.2 fun h => Bool.false_ne_true ((ch3.out h))
                  have e17 : f17 = false := Bool.eq_false_iff.2 fun h => Bool.false_ne_true ((ch3.out (ch17.out h).1))
                  subst e3 e17
                  refine .inl ?_
                  unfold pbUpd Oper.wp
                  go_simp
                  exact pbJ.at true true true false f4 f5 f6 f7 f8 f9 f10 f11 f12 f13 f14 f15 f16 false (R) (q) (cap) rfl rfl (Lib.hid (by simp)) (Lib.hid (by simp)) (Lib.hid (by simp)) (ch5) (ch7) (ch8) (ch9) (ch11) (ch12) (ch14) (ch15) (ch16) (Lib.hid (by simp)) (hB) (bx) (rb) (rg) (rm) (ap) (by simp)
                · have ho' := ho
                  simp at hu ho
                  subst hu ho
                  simp [Region.binds] at ha
                  obtain rfl : f2 = true := by simp only [ha]
                  clear ha
                  obtain rfl : f1 = true := (ch2.out rfl)
                  obtain rfl : f0 = true := (ch1.out (ch2.out rfl))
                  have e17 : f17 = false := Bool.eq_false_iff.2 fun h => Bool.false_ne_true ((ch17.out h).1)
                  subst e17
                  have kb := (rb rfl).cell 1 _ rfl
                  have kl := (rb rfl).lt
                  refine .inl ?_
                  unfold pbUpd Oper.wp
                  go_simp
                  exact pbJ.at true true true true f4 f5 f6 f7 f8 f9 f10 f11 f12 f13 f14 f15 f16 false (R) (q) (cap) rfl rfl (Lib.hid (by simp)) (Lib.hid (by simp)) (Lib.hid (by simp)) (ch5) (ch7) (ch8) (ch9) (ch11) (ch12) (ch14) (ch15) (ch16) (Lib.hid (by simp)) (hB) (bx) (rb) (rg) (rm) (ap) (by simp)
                · have ho' := ho
                  simp at hu ho
                  subst hu ho
                  clear ha
                  have e5 : f5 = false := Bool.eq_false_iff.2 fun h => Bool.false_ne_true ((ch5.out h))
                  have e17 : f17 = false := Bool.eq_false_iff.2 fun h => Bool.false_ne_true ((ch5.out (ch17.out h).2.1))
                  subst e5 e17
                  have k0 := (rg rfl).cell 0 _ rfl
                  have k1 := (rg rfl).cell 1 _ rfl
                  have k2 := (rg rfl).cell 2 _ rfl
                  have kl := (rg rfl).lt
                  refine .inl ?_
                  unfold pbUpd Oper.wp
                  go_simp
                  exact pbJ.at f0 f1 f2 f3 true false f6 f7 f8 f9 f10 f11 f12 f13 f14 f15 f16 false (R) (q) (cap) rfl rfl (ch1) (ch2) (ch3) (Lib.hid (by simp)) (ch7) (ch8) (ch9) (ch11) (ch12) (ch14) (ch15) (ch16) (Lib.hid (by simp)) (hB) (bx) (rb) (rg) (rm) (ap) (by simp)
                · have ho' := ho
                  simp at hu ho
                  subst hu ho
                  simp [Region.binds] at ha
                  obtain rfl : f4 = true := by simp only [ha]
                  clear ha
                  have e17 : f17 = false := Bool.eq_false_iff.2 fun h => Bool.false_ne_true ((ch17.out h).2.1)
                  subst e17
                  refine .inl ?_
                  unfold pbUpd Oper.wp
                  go_simp
                  refine (id_any g w').mono ?_
                  intro e w1 hO
                  obtain ⟨rfl, hb⟩ := hO
                  exact pbJ.at f0 f1 f2 f3 true true f6 f7 f8 f9 f10 f11 f12 f13 f14 f15 f16 false (R) (q) (cap) rfl rfl (ch1) (ch2) (ch3) (Lib.hid (by simp)) (ch7) (ch8) (ch9) (ch11) (ch12) (ch14) (ch15) (ch16) (Lib.hid (by simp)) (fun h0 => (hB h0).trans (hb.mono (hB h0).size)) (fun h0 h1 => BoxS.later (bx h0 h1) hb) (fun h0 => BoxS.later (rb h0) hb) (fun h0 => BoxS.later (rg h0) hb) (fun h0 => (rm h0).later hb) (fun h0 h1 => (ap h0 h1).later hb) (by simp)
                · have ho' := ho
                  simp at hu ho
                  subst hu ho
                  clear ha
                  have e7 : f7 = false := Bool.eq_false_iff.2 fun h => Bool.false_ne_true ((ch7.out h))
                  have e8 : f8 = false := Bool.eq_false_iff.2 fun h => Bool.false_ne_true ((ch7.out (ch8.out h)))
                  have e9 : f9 = false := Bool.eq_false_iff.2 fun h => Bool.false_ne_true ((ch7.out (ch8.out (ch9.out h))))
                  have e12 : f12 = false := Bool.eq_false_iff.2 fun h => Bool.false_ne_true ((ch7.out (ch8.out (ch9.out (ch12.out h).1))))
                  have e16 : f16 = false := Bool.eq_false_iff.2 fun h => Bool.false_ne_true ((ch7.out (ch8.out (ch9.out (ch12.out (ch16.out h).1).1))))
                  have e17 : f17 = false := Bool.eq_false_iff.2 fun h => Bool.false_ne_true ((ch7.out (ch8.out (ch9.out (ch12.out (ch16.out (ch17.out h).2.2).1).1))))
                  subst e7 e8 e9 e12 e16 e17
                  refine .inl ?_
                  unfold pbUpd Oper.wp
                  go_simp
                  exact pbJ.at f0 f1 f2 f3 f4 f5 true false false false f10 f11 false f13 f14 f15 false false (R) (q) (cap) rfl rfl (ch1) (ch2) (ch3) (ch5) (Lib.hid (by simp)) (Lib.hid (by simp)) (Lib.hid (by simp)) (ch11) (Lib.hid (by simp)) (ch14) (ch15) (Lib.hid (by simp)) (Lib.hid (by simp)) (hB) (bx) (rb) (rg) (rm) (by simp) (by simp)
                · have ho' := ho
                  simp at hu ho
                  subst hu ho
                  simp [Region.binds] at ha
                  obtain rfl : f6 = true := by simp only [ha]
                  clear ha
                  have e8 : f8 = false := Bool.eq_false_iff.2 fun h => Bool.false_ne_true ((ch8.out h))
                  have e9 : f9 = false := Bool.eq_false_iff.2 fun h => Bool.false_ne_true ((ch8.out (ch9.out h)))
                  have e12 : f12 = false := Bool.eq_false_iff.2 fun h => Bool.false_ne_true ((ch8.out (ch9.out (ch12.out h).1)))
                  have e16 : f16 = false := Bool.eq_false_iff.2 fun h => Bool.false_ne_true ((ch8.out (ch9.out (ch12.out (ch16.out h).1).1)))
                  have e17 : f17 = false := Bool.eq_false_iff.2 fun h => Bool.false_ne_true ((ch8.out (ch9.out (ch12.out (ch16.out (ch17.out h).2.2).1).1)))
                  subst e8 e9 e12 e16 e17
                  have kb := (rb rfl).cell 0 _ rfl
                  have kl := (rb rfl).lt
                  refine .inl ?_
                  unfold pbUpd Oper.wp
                  go_simp
                  exact pbJ.at f0 f1 f2 f3 f4 f5 true true false false f10 f11 false f13 f14 f15 false false (R) (q) (cap) rfl rfl (ch1) (ch2) (ch3) (ch5) (Lib.hid (by simp)) (Lib.hid (by simp)) (Lib.hid (by simp)) (ch11) (Lib.hid (by simp)) (ch14) (ch15) (Lib.hid (by simp)) (Lib.hid (by simp)) (hB) (bx) (rb) (rg) (rm) (by simp) (by simp)
                · have ho' := ho
                  simp at hu ho
                  subst hu ho
                  simp [Region.binds] at ha
                  obtain rfl : f7 = true := by simp only [ha]
                  clear ha
                  obtain rfl : f6 = true := (ch7.out rfl)
                  have e9 : f9 = false := Bool.eq_false_iff.2 fun h => Bool.false_ne_true ((ch9.out h))
                  have e12 : f12 = false := Bool.eq_false_iff.2 fun h => Bool.false_ne_true ((ch9.out (ch12.out h).1))
                  have e16 : f16 = false := Bool.eq_false_iff.2 fun h => Bool.false_ne_true ((ch9.out (ch12.out (ch16.out h).1).1))
                  have e17 : f17 = false := Bool.eq_false_iff.2 fun h => Bool.false_ne_true ((ch9.out (ch12.out (ch16.out (ch17.out h).2.2).1).1))
                  subst e9 e12 e16 e17
                  refine .inl ?_
                  unfold pbUpd Oper.wp
                  go_simp
                  exact pbJ.at f0 f1 f2 f3 f4 f5 true true true false f10 f11 false f13 f14 f15 false false (R) (q) (cap) rfl rfl (ch1) (ch2) (ch3) (ch5) (Lib.hid (by simp)) (Lib.hid (by simp)) (Lib.hid (by simp)) (ch11) (Lib.hid (by simp)) (ch14) (ch15) (Lib.hid (by simp)) (Lib.hid (by simp)) (hB) (bx) (rb) (rg) (rm) (by simp) (by simp)
                · have ho' := ho
                  simp at hu ho
                  subst hu ho
                  simp [Region.binds] at ha
                  obtain rfl : f8 = true := by simp only [ha]
                  clear ha
                  obtain rfl : f7 = true := (ch8.out rfl)
                  obtain rfl : f6 = true := (ch7.out (ch8.out rfl))
                  have e12 : f12 = false := Bool.eq_false_iff.2 fun h => Bool.false_ne_true ((ch12.out h).1)
                  have e16 : f16 = false := Bool.eq_false_iff.2 fun h => Bool.false_ne_true ((ch12.out (ch16.out h).1).1)
                  have e17 : f17 = false := Bool.eq_false_iff.2 fun h => Bool.false_ne_true ((ch12.out (ch16.out (ch17.out h).2.2).1).1)
                  subst e12 e16 e17
                  have kb := (rb rfl).cell 1 _ rfl
                  have kl := (rb rfl).lt
                  refine .inl ?_
                  unfold pbUpd Oper.wp
                  go_simp
                  exact pbJ.at f0 f1 f2 f3 f4 f5 true true true true f10 f11 false f13 f14 f15 false false (R) (q) (cap) rfl rfl (ch1) (ch2) (ch3) (ch5) (Lib.hid (by simp)) (Lib.hid (by simp)) (Lib.hid (by simp)) (ch11) (Lib.hid (by simp)) (ch14) (ch15) (Lib.hid (by simp)) (Lib.hid (by simp)) (hB) (bx) (rb) (rg) (rm) (by simp) (by simp)
                · have ho' := ho
                  simp at hu ho
                  subst hu ho
                  clear ha
                  have e11 : f11 = false := Bool.eq_false_iff.2 fun h => Bool.false_ne_true ((ch11.out h))
                  have e12 : f12 = false := Bool.eq_false_iff.2 fun h => Bool.false_ne_true ((ch11.out (ch12.out h).2))
                  have e16 : f16 = false := Bool.eq_false_iff.2 fun h => Bool.false_ne_true ((ch11.out (ch12.out (ch16.out h).1).2))
                  have e17 : f17 = false := Bool.eq_false_iff.2 fun h => Bool.false_ne_true ((ch11.out (ch12.out (ch16.out (ch17.out h).2.2).1).2))
                  subst e11 e12 e16 e17
                  have k0 := (rg rfl).cell 0 _ rfl
                  have k1 := (rg rfl).cell 1 _ rfl
                  have k2 := (rg rfl).cell 2 _ rfl
                  have kl := (rg rfl).lt
                  refine .inl ?_
                  unfold pbUpd Oper.wp
                  go_simp
                  exact pbJ.at f0 f1 f2 f3 f4 f5 f6 f7 f8 f9 true false false f13 f14 f15 false false (R) (q) (cap) rfl rfl (ch1) (ch2) (ch3) (ch5) (ch7) (ch8) (ch9) (Lib.hid (by simp)) (Lib.hid (by simp)) (ch14) (ch15) (Lib.hid (by simp)) (Lib.hid (by simp)) (hB) (bx) (rb) (rg) (rm) (by simp) (by simp)
                · have ho' := ho
                  simp at hu ho
                  subst hu ho
                  simp [Region.binds] at ha
                  obtain rfl : f10 = true := by simp only [ha]
                  clear ha
                  have e12 : f12 = false := Bool.eq_false_iff.2 fun h => Bool.false_ne_true ((ch12.out h).2)
                  have e16 : f16 = false := Bool.eq_false_iff.2 fun h => Bool.false_ne_true ((ch12.out (ch16.out h).1).2)
                  have e17 : f17 = false := Bool.eq_false_iff.2 fun h => Bool.false_ne_true ((ch12.out (ch16.out (ch17.out h).2.2).1).2)
                  subst e12 e16 e17
                  have hS := (hB rfl).size
                  refine .inl ?_
                  unfold pbUpd Oper.wp
                  go_simp
                  refine (id_any g w').mono ?_
                  intro e w1 hO
                  obtain ⟨rfl, hb⟩ := hO
                  exact pbJ.at f0 f1 f2 f3 f4 f5 f6 f7 f8 f9 true true false f13 f14 f15 false false (R) (q) (cap) rfl rfl (ch1) (ch2) (ch3) (ch5) (ch7) (ch8) (ch9) (Lib.hid (by simp)) (Lib.hid (by simp)) (ch14) (ch15) (Lib.hid (by simp)) (Lib.hid (by simp)) (fun h0 => (hB h0).trans (hb.mono hS)) (fun h0 h1 => BoxS.later (bx h0 h1) hb) (fun h0 => BoxS.later (rb h0) hb) (fun h0 => BoxS.later (rg h0) hb) (fun h0 => (rm h0).later hb) (by simp) (by simp)
                · have ho' := ho
                  simp at hu ho
                  subst hu ho
                  simp [Region.binds] at ha
                  obtain rfl : f9 = true := by simp only [ha]
                  obtain rfl : f11 = true := by simp only [ha]
                  clear ha
                  obtain rfl : f10 = true := (ch11.out rfl)
                  obtain rfl : f8 = true := (ch9.out rfl)
                  obtain rfl : f7 = true := (ch8.out (ch9.out rfl))
                  obtain rfl : f6 = true := (ch7.out (ch8.out (ch9.out rfl)))
                  have e16 : f16 = false := Bool.eq_false_iff.2 fun h => Bool.false_ne_true ((ch16.out h).1)
                  have e17 : f17 = false := Bool.eq_false_iff.2 fun h => Bool.false_ne_true ((ch16.out (ch17.out h).2.2).1)
                  subst e16 e17
                  have kr := HLK.out w' (rm rfl)
                  refine .inl ?_
                  unfold pbUpd Oper.wp
                  go_simp
                  exact pbJ.at f0 f1 f2 f3 f4 f5 true true true true true true true f13 f14 f15 false false (R) (q) (cap) rfl rfl (ch1) (ch2) (ch3) (ch5) (Lib.hid (by simp)) (Lib.hid (by simp)) (Lib.hid (by simp)) (Lib.hid (by simp)) (Lib.hid (by simp)) (ch14) (ch15) (Lib.hid (by simp)) (Lib.hid (by simp)) (hB) (bx) (rb) (rg) (rm) (by simp) (by simp)
                · have ho' := ho
                  simp at hu ho
                  subst hu ho
                  clear ha
                  have e14 : f14 = false := Bool.eq_false_iff.2 fun h => Bool.false_ne_true ((ch14.out h))
                  have e15 : f15 = false := Bool.eq_false_iff.2 fun h => Bool.false_ne_true ((ch14.out (ch15.out h)))
                  have e16 : f16 = false := Bool.eq_false_iff.2 fun h => Bool.false_ne_true ((ch14.out (ch15.out (ch16.out h).2)))
                  have e17 : f17 = false := Bool.eq_false_iff.2 fun h => Bool.false_ne_true ((ch14.out (ch15.out (ch16.out (ch17.out h).2.2).2)))
                  subst e14 e15 e16 e17
                  refine .inl ?_
                  unfold pbUpd Oper.wp
                  go_simp
                  exact pbJ.at f0 f1 f2 f3 f4 f5 f6 f7 f8 f9 f10 f11 f12 true false false false false (R) (q) (cap) rfl rfl (ch1) (ch2) (ch3) (ch5) (ch7) (ch8) (ch9) (ch11) (ch12) (Lib.hid (by simp)) (Lib.hid (by simp)) (Lib.hid (by simp)) (Lib.hid (by simp)) (hB) (by simp) (rb) (rg) (rm) (by simp) (by simp)
                · have ho' := ho
                  simp at hu ho
                  subst hu ho
                  simp [Region.binds] at ha
                  obtain rfl : f13 = true := by simp only [ha]
                  clear ha
                  have e15 : f15 = false := Bool.eq_false_iff.2 fun h => Bool.false_ne_true ((ch15.out h))
                  have e16 : f16 = false := Bool.eq_false_iff.2 fun h => Bool.false_ne_true ((ch15.out (ch16.out h).2))
                  have e17 : f17 = false := Bool.eq_false_iff.2 fun h => Bool.false_ne_true ((ch15.out (ch16.out (ch17.out h).2.2).2))
                  subst e15 e16 e17
                  have k0 := (rg rfl).cell 0 _ rfl
                  have k1 := (rg rfl).cell 1 _ rfl
                  have k2 := (rg rfl).cell 2 _ rfl
                  have kl := (rg rfl).lt
                  refine .inl ?_
                  unfold pbUpd Oper.wp
                  go_simp
                  exact pbJ.at f0 f1 f2 f3 f4 f5 f6 f7 f8 f9 f10 f11 f12 true true false false false (R) (q) (cap) rfl rfl (ch1) (ch2) (ch3) (ch5) (ch7) (ch8) (ch9) (ch11) (ch12) (Lib.hid (by simp)) (Lib.hid (by simp)) (Lib.hid (by simp)) (Lib.hid (by simp)) (hB) (by simp) (rb) (rg) (rm) (by simp) (by simp)
                · have ho' := ho
                  simp at hu ho
                  subst hu ho
                  simp [Region.binds] at ha
                  obtain rfl : f14 = true := by simp only [ha]
                  clear ha
                  obtain rfl : f13 = true := (ch14.out rfl)
                  have e16 : f16 = false := Bool.eq_false_iff.2 fun h => Bool.false_ne_true ((ch16.out h).2)
                  have e17 : f17 = false := Bool.eq_false_iff.2 fun h => Bool.false_ne_true ((ch16.out (ch17.out h).2.2).2)
                  subst e16 e17
                  have hS := (hB rfl).size
                  have hal := fun o => (Below.refl w'.heap.size w').alloc (Nat.le_refl w'.heap.size) o
                  refine .inl ?_
                  unfold pbUpd Oper.wp
                  go_simp
                  exact pbJ.at f0 f1 f2 f3 f4 f5 f6 f7 f8 f9 f10 f11 f12 true true true false false (w'.heap.size) (q) (cap) rfl rfl (ch1) (ch2) (ch3) (ch5) (ch7) (ch8) (ch9) (ch11) (ch12) (Lib.hid (by simp)) (Lib.hid (by simp)) (Lib.hid (by simp)) (Lib.hid (by simp)) (fun h0 => (hB h0).trans ((hal _).mono hS)) (fun h0 h1 => Box.new w' [.string g.version] _ _ rfl) (fun h0 => BoxS.later (rb h0) (hal _)) (fun h0 => BoxS.later (rg h0) (hal _)) (fun h0 => (rm h0).later (hal _)) (by simp) (by simp)
                · have ho' := ho
                  simp at hu ho
                  subst hu ho
                  simp [Region.binds] at ha
                  obtain rfl : f12 = true := by simp only [ha]
                  obtain rfl : f15 = true := by simp only [ha]
                  clear ha
                  obtain rfl : f14 = true := (ch15.out rfl)
                  obtain rfl : f13 = true := (ch14.out (ch15.out rfl))
                  obtain rfl : f11 = true := (ch12.out rfl).2
                  obtain rfl : f10 = true := (ch11.out (ch12.out rfl).2)
                  obtain rfl : f9 = true := (ch12.out rfl).1
                  obtain rfl : f8 = true := (ch9.out (ch12.out rfl).1)
                  obtain rfl : f7 = true := (ch8.out (ch9.out (ch12.out rfl).1))
                  obtain rfl : f6 = true := (ch7.out (ch8.out (ch9.out (ch12.out rfl).1)))
                  have e17 : f17 = false := Bool.eq_false_iff.2 fun h => Bool.false_ne_true ((ch17.out h).2.2)
                  subst e17
                  have hB1 := hB rfl
                  have hbx := bx rfl rfl
                  have hS1 := hB1.size
                  refine .inl ?_
                  unfold pbUpd
                  refine wp_append_one rfl (.tmp 45) (.tmp 48) 29 rfl 0 9 Tryd.underlying29 info_str rfl (by decide) strC_len RV (versOf es (idOf g)) (by simp [Act.eval]) (HRV.out.below hB1) R g.version (by simp [Act.eval]) (fun j u hu => hbx.cell j u hu) (by intro u hu; obtain rfl := List.mem_singleton.1 hu; rfl) (by have := HLE.out; omega) (by decide) (Nat.zero_le _) w'.heap.size rfl ?_
                  intro q2 cap2 w1 hown hgr hloc hlt
                  have hrow := grown_after hB1 hgr
                  exact pbJ.at f0 f1 f2 f3 f4 f5 true true true true true true true true true true true false (R) (q2) (cap2) rfl rfl (ch1) (ch2) (ch3) (ch5) (Lib.hid (by simp)) (Lib.hid (by simp)) (Lib.hid (by simp)) (Lib.hid (by simp)) (Lib.hid (by simp)) (Lib.hid (by simp)) (Lib.hid (by simp)) (Lib.hid (by simp)) (Lib.hid (by simp)) (by simp) (by simp) (fun _ => (rb rfl).grown hgr HN1.out) (fun _ => (rg rfl).grown hgr HN2.out) (fun _ => (rm rfl).grown hgr HN3.out) (fun _ _ => ⟨hrow, hown, hloc.elim (fun e => .inl e.symm) (fun e => .inr ⟨q2, by omega, rfl⟩)⟩) (by simp)
                · have ho' := ho
                  simp at hu ho
                  subst hu ho
                  simp [Region.binds] at ha
                  obtain rfl : f3 = true := by simp only [ha]
                  obtain rfl : f5 = true := by simp only [ha]
                  obtain rfl : f16 = true := by simp only [ha]
                  clear ha
                  obtain rfl : f15 = true := (ch16.out rfl).2
                  obtain rfl : f14 = true := (ch15.out (ch16.out rfl).2)
                  obtain rfl : f13 = true := (ch14.out (ch15.out (ch16.out rfl).2))
                  obtain rfl : f12 = true := (ch16.out rfl).1
                  obtain rfl : f11 = true := (ch12.out (ch16.out rfl).1).2
                  obtain rfl : f10 = true := (ch11.out (ch12.out (ch16.out rfl).1).2)
                  obtain rfl : f9 = true := (ch12.out (ch16.out rfl).1).1
                  obtain rfl : f8 = true := (ch9.out (ch12.out (ch16.out rfl).1).1)
                  obtain rfl : f7 = true := (ch8.out (ch9.out (ch12.out (ch16.out rfl).1).1))
                  obtain rfl : f6 = true := (ch7.out (ch8.out (ch9.out (ch12.out (ch16.out rfl).1).1)))
                  obtain rfl : f4 = true := (ch5.out rfl)
                  obtain rfl : f2 = true := (ch3.out rfl)
                  obtain rfl : f1 = true := (ch2.out (ch3.out rfl))
                  obtain rfl : f0 = true := (ch1.out (ch2.out (ch3.out rfl)))
                  have hap := ap rfl rfl
                  refine .inl ?_
                  unfold pbUpd
                  refine wp_update 88 (.tmp 36) (.tmp 38) (.tmp 49) rfl (.map (some mv)) (.agg #[.string g.group, .string g.artifact]) (.slice (some ⟨q, 0, none⟩) (versOf es (idOf g)).length.succ cap) (by simp [Act.eval]) (by simp [Act.eval]) (by simp [Act.eval]) (set_row (idOf g) (.slice (some ⟨q, 0, none⟩) (versOf es (idOf g)).length.succ cap) (rm rfl)) ?_
                  exact pbJ.at true true true true true true true true true true true true true true true true true true (R) (q) (cap) rfl rfl (Lib.hid (by simp)) (Lib.hid (by simp)) (Lib.hid (by simp)) (Lib.hid (by simp)) (Lib.hid (by simp)) (Lib.hid (by simp)) (Lib.hid (by simp)) (Lib.hid (by simp)) (Lib.hid (by simp)) (Lib.hid (by simp)) (Lib.hid (by simp)) (Lib.hid (by simp)) (Lib.hid (by simp)) (by simp) (by simp) (by simp) (by simp) (by simp) (by simp) (fun _ => ⟨w', hap, rfl⟩)
        case step =>
          intro listed a' w' hJ i hi
          cases hJ with
          | mk f0 f1 f2 f3 f4 f5 f6 f7 f8 P _ ch1 ch2 ch3 ch6 ch7 ch8 hB bx fin =>
            rw [mem_ready] at hi
            obtain ⟨hu, o, ho, ha⟩ := hi
            have hi8 : i < 9 := (Array.getElem?_eq_some_iff.1 ho).1
            rcases (by omega : i = 0 ∨ i = 1 ∨ i = 2 ∨ i = 3 ∨ i = 4 ∨ i = 5 ∨ i = 6 ∨ i = 7 ∨ i = 8) with rfl | rfl | rfl | rfl | rfl | rfl | rfl | rfl | rfl
            · have ho' := ho
              simp at hu ho
              subst hu ho
              clear ha
              have e1 : f1 = false := Bool.eq_false_iff.2 fun h => Bool.false_ne_true ((ch1.out h))
              have e2 : f2 = false := Bool.eq_false_iff.2 fun h => Bool.false_ne_true ((ch1.out (ch2.out h)))
              have e3 : f3 = false := Bool.eq_false_iff.2 fun h => Bool.false_ne_true ((ch1.out (ch2.out (ch3.out h))))
              have e8 : f8 = false := Bool.eq_false_iff.2 fun h => Bool.false_ne_true ((ch1.out (ch2.out (ch3.out (ch8.out h).1))))
              subst e1 e2 e3 e8
              refine .inl ?_
              unfold paUpd Oper.wp
              go_simp
              exact paJ.at true false false false f4 f5 f6 f7 false (P) rfl rfl (Lib.hid (by simp)) (Lib.hid (by simp)) (Lib.hid (by simp)) (ch6) (ch7) (Lib.hid (by simp)) (hB) (bx) (by simp)
            · have ho' := ho
              simp at hu ho
              subst hu ho
              simp [Region.binds] at ha
              obtain rfl : f0 = true := by simp only [ha]
              clear ha
              have e2 : f2 = false := Bool.eq_false_iff.2 fun h => Bool.false_ne_true ((ch2.out h))
              have e3 : f3 = false := Bool.eq_false_iff.2 fun h => Bool.false_ne_true ((ch2.out (ch3.out h)))
              have e8 : f8 = false := Bool.eq_false_iff.2 fun h => Bool.false_ne_true ((ch2.out (ch3.out (ch8.out h).1)))
              subst e2 e3 e8
              have hB1 := hB rfl
              have k0 := (hB1.cell (p := ⟨b, 0, none⟩) (by exact HSB.out.lt)).trans (HSB.out.cell 0 _ rfl)
              have kl := Nat.lt_of_lt_of_le HSB.out.lt hB1.size
              refine .inl ?_
              unfold paUpd Oper.wp
              go_simp
              exact paJ.at true true false false f4 f5 f6 f7 false (P) rfl rfl (Lib.hid (by simp)) (Lib.hid (by simp)) (Lib.hid (by simp)) (ch6) (ch7) (Lib.hid (by simp)) (hB) (bx) (by simp)
            · have ho' := ho
              simp at hu ho
              subst hu ho
              simp [Region.binds] at ha
              obtain rfl : f1 = true := by simp only [ha]
              clear ha
              obtain rfl : f0 = true := (ch1.out rfl)
              have e3 : f3 = false := Bool.eq_false_iff.2 fun h => Bool.false_ne_true ((ch3.out h))
              have e8 : f8 = false := Bool.eq_false_iff.2 fun h => Bool.false_ne_true ((ch3.out (ch8.out h).1))
              subst e3 e8
              refine .inl ?_
              unfold paUpd Oper.wp
              go_simp
              exact paJ.at true true true false f4 f5 f6 f7 false (P) rfl rfl (Lib.hid (by simp)) (Lib.hid (by simp)) (Lib.hid (by simp)) (ch6) (ch7) (Lib.hid (by simp)) (hB) (bx) (by simp)
            · have ho' := ho
              simp at hu ho
              subst hu ho
              simp [Region.binds] at ha
              obtain rfl : f2 = true := by simp only [ha]
              clear ha
              obtain rfl : f1 = true := (ch2.out rfl)
              obtain rfl : f0 = true := (ch1.out (ch2.out rfl))
              have e8 : f8 = false := Bool.eq_false_iff.2 fun h => Bool.false_ne_true ((ch8.out h).1)
              subst e8
              have hB1 := hB rfl
              have k0 := (hB1.cell (p := ⟨b, 0, none⟩) (by exact HSB.out.lt)).trans (HSB.out.cell 0 _ rfl)
              have kl := Nat.lt_of_lt_of_le HSB.out.lt hB1.size
              refine .inl ?_
              unfold paUpd Oper.wp
              go_simp
              exact paJ.at true true true true f4 f5 f6 f7 false (P) rfl rfl (Lib.hid (by simp)) (Lib.hid (by simp)) (Lib.hid (by simp)) (ch6) (ch7) (Lib.hid (by simp)) (hB) (bx) (by simp)
            · have ho' := ho
              simp at hu ho
              subst hu ho
              clear ha
              have e8 : f8 = false := Bool.eq_false_iff.2 fun h => Bool.false_ne_true ((ch8.out h).2.1)
              subst e8
              have hB1 := hB rfl
              have k0 := (hB1.cell (p := ⟨w.heap.size, 0, none⟩) (by exact HX.out.lt)).trans (HX.out.cell 0 _ rfl)
              have k1 := (hB1.cell (p := ⟨w.heap.size, 1, none⟩) (by exact HX.out.lt)).trans (HX.out.cell 1 _ rfl)
              have k2 := (hB1.cell (p := ⟨w.heap.size, 2, none⟩) (by exact HX.out.lt)).trans (HX.out.cell 2 _ rfl)
              have kl := Nat.lt_of_lt_of_le HX.out.lt hB1.size
              refine .inl ?_
              unfold paUpd Oper.wp
              go_simp
              exact paJ.at f0 f1 f2 f3 true f5 f6 f7 false (P) rfl rfl (ch1) (ch2) (ch3) (ch6) (ch7) (Lib.hid (by simp)) (hB) (bx) (by simp)
            · have ho' := ho
              simp at hu ho
              subst hu ho
              clear ha
              have e6 : f6 = false := Bool.eq_false_iff.2 fun h => Bool.false_ne_true ((ch6.out h))
              have e7 : f7 = false := Bool.eq_false_iff.2 fun h => Bool.false_ne_true ((ch6.out (ch7.out h)))
              have e8 : f8 = false := Bool.eq_false_iff.2 fun h => Bool.false_ne_true ((ch6.out (ch7.out (ch8.out h).2.2)))
              subst e6 e7 e8
              refine .inl ?_
              unfold paUpd Oper.wp
              go_simp
              exact paJ.at f0 f1 f2 f3 f4 true false false false (P) rfl rfl (ch1) (ch2) (ch3) (Lib.hid (by simp)) (Lib.hid (by simp)) (Lib.hid (by simp)) (hB) (by simp) (by simp)
            · have ho' := ho
              simp at hu ho
              subst hu ho
              simp [Region.binds] at ha
              obtain rfl : f5 = true := by simp only [ha]
              clear ha
              have e7 : f7 = false := Bool.eq_false_iff.2 fun h => Bool.false_ne_true ((ch7.out h))
              have e8 : f8 = false := Bool.eq_false_iff.2 fun h => Bool.false_ne_true ((ch7.out (ch8.out h).2.2))
              subst e7 e8
              refine .inl ?_
              unfold paUpd Oper.wp
              go_simp
              exact paJ.at f0 f1 f2 f3 f4 true true false false (P) rfl rfl (ch1) (ch2) (ch3) (Lib.hid (by simp)) (Lib.hid (by simp)) (Lib.hid (by simp)) (hB) (by simp) (by simp)
            · have ho' := ho
              simp at hu ho
              subst hu ho
              simp [Region.binds] at ha
              obtain rfl : f6 = true := by simp only [ha]
              clear ha
              obtain rfl : f5 = true := (ch6.out rfl)
              have e8 : f8 = false := Bool.eq_false_iff.2 fun h => Bool.false_ne_true ((ch8.out h).2.2)
              subst e8
              have hS := (hB rfl).size
              have hal := fun o => (Below.refl w'.heap.size w').alloc (Nat.le_refl w'.heap.size) o
              refine .inl ?_
              unfold paUpd Oper.wp
              go_simp
              exact paJ.at f0 f1 f2 f3 f4 true true true false (w'.heap.size) rfl rfl (ch1) (ch2) (ch3) (Lib.hid (by simp)) (Lib.hid (by simp)) (Lib.hid (by simp)) (fun h0 => (hB h0).trans ((hal _).mono hS)) (fun h0 h1 => ⟨hS, Box.new w' [.string s, .int .u32 0, .int .i32 0, .int .u32 0, .bool false, .string ⟨#[]⟩, .string ⟨#[]⟩, .string ⟨#[]⟩, .string ⟨#[]⟩, .string ⟨#[]⟩, .string ⟨#[]⟩, .string ⟨#[]⟩, .slice none 0 0, .slice none 0 0, .slice none 0 0, .int .i64 0, .string ⟨#[]⟩, .string ⟨#[]⟩, .string ⟨#[]⟩, .int .i64 0, .int .i64 0, .int .i64 0, .string ⟨#[]⟩] _ _ rfl⟩) (by simp)
            · have ho' := ho
              simp at hu ho
              subst hu ho
              simp [Region.binds] at ha
              obtain rfl : f3 = true := by simp only [ha]
              obtain rfl : f4 = true := by simp only [ha]
              obtain rfl : f7 = true := by simp only [ha]
              clear ha
              obtain rfl : f6 = true := (ch7.out rfl)
              obtain rfl : f5 = true := (ch6.out (ch7.out rfl))
              obtain rfl : f2 = true := (ch3.out rfl)
              obtain rfl : f1 = true := (ch2.out (ch3.out rfl))
              obtain rfl : f0 = true := (ch1.out (ch2.out (ch3.out rfl)))
              have hB1 := hB rfl
              have hbx := bx rfl rfl
              refine .inl ?_
              unfold paUpd
              refine wp_update 87 (.tmp 28) (.tmp 29) (.tmp 32) rfl (.map (some me)) (.agg #[.string g.group, .string g.artifact, .string g.version]) (.pointer (some ⟨P, 0, none⟩)) (by simp [Act.eval]) (by simp [Act.eval]) (by simp [Act.eval]) (set_ent g (.pointer (some ⟨P, 0, none⟩)) (HME.out.below hB1 HME.out.lt)) ?_
              exact paJ.at true true true true true true true true true (P) rfl rfl (Lib.hid (by simp)) (Lib.hid (by simp)) (Lib.hid (by simp)) (Lib.hid (by simp)) (Lib.hid (by simp)) (Lib.hid (by simp)) (by simp) (by simp) (fun _ => ⟨w', hB1, hbx, rfl⟩)
theorem put_any (g : Gav) (s : S) (w : World) {F : Nat → Prop} {b : Nat} {es : List (SEnt × Nat)} {r a : Int} (h : StoreAt F w b es r a) (hg : gavSm g) :
    Calls Tryd.prog 26 #[ptr b, .agg #[.string g.group, .string g.artifact, .string g.version], .string s] w (PutOut F b es r a g s w) := (putF_any g s w h hg).mono fun _ _ h => h.out

end Go.Proofs.YtecffghcpknmjaaDoor
