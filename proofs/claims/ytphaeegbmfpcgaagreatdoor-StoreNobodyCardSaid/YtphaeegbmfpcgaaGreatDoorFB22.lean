/- What store.Pom answers of a project that there is; the conditions stand in the theorems. -/
import Derived.Test.YtphaeegbmfpcgaaGreatDoorFB21
import Derived.Test.YtphaeegbmfpcgaaGreatDoorFB19
import Derived.Test.YtphaeegbmfpcgaaGreatDoorFB20
import Derived.KernelRfl

namespace Go.Proofs.YtphaeegbmfpcgaaGreatDoor
open Go Go.RowKit

def pkUpd (b eb me : Nat) (g : Gav) (x0 x1 x2 x3 x4 x5 x7 x8 x9 x10 x11 x12 x13 x14 x15 x16 x17 x18 x19 x26 x27 x28 x29 x30 x31 x32 x33 x34 x35 x36 x37 x38 x39 : Value) (f0 f1 f2 f3 f4 f5 f6 _f7 : Bool) (E : Nat) : Act :=
 ⟨#[x0, x1, x2, x3, x4, x5, cond f6 (.pointer (some ⟨E, 0, none⟩)) undef, x7, x8, x9, x10, x11, x12, x13, x14, x15, x16, x17, x18, x19, cond f0 (.pointer (some ⟨b, 0, none⟩)) undef, cond f1 (.pointer (some ⟨b, 0, none⟩)) undef, cond f2 (.pointer (some ⟨b, 0, none⟩)) undef, cond f3 (.map (some me)) undef, cond f4 (.agg #[.string g.group, .string g.artifact, .string g.version]) undef, cond f5 (.pointer (some ⟨eb, 0, none⟩)) undef, x26, x27, x28, x29, x30, x31, x32, x33, x34, x35, x36, x37, x38, x39], []⟩
inductive pkJ (b eb me mv H : Nat) (r a : Int) (g : Gav) (L : List (MEnt Gav)) (cl : Nat) (V : World) (x0 x1 x2 x3 x4 x5 x7 x8 x9 x10 x11 x12 x13 x14 x15 x16 x17 x18 x19 x26 x27 x28 x29 x30 x31 x32 x33 x34 x35 x36 x37 x38 x39 : Value) : Array Bool → Act → World → Prop where
 | mk (f0 f1 f2 f3 f4 f5 f6 f7 : Bool) (E : Nat) (w' : World) (ch1 : Hid (f1 = true → f0 = true)) (ch2 : Hid (f2 = true → f1 = true)) (ch3 : Hid (f3 = true → f2 = true)) (ch5 : Hid (f5 = true → f3 = true ∧ f4 = true)) (ch7 : Hid (f7 = true → f6 = true ∧ f5 = true ∧ f0 = true ∧ f1 = true ∧ f2 = true ∧ f3 = true ∧ f4 = true)) (hB : Below V.heap.size V w') (rs : Box w' H [.pointer (some ⟨b, 0, none⟩)]) (rb : Box w' b [.map (some me), .map (some mv), .int .i64 r, .int .i64 (a + 1)]) (rg : Box w' (H + 1) [.string g.group, .string g.artifact, .string g.version]) (rm : MMap kGav w' me L cl) (rx : (f6 = true → f7 = false → NewBox V.heap.size w' E [.pointer none])) (rz : (f7 = true → NewBox V.heap.size w' E [.pointer (some ⟨eb, 0, none⟩)])) : pkJ b eb me mv H r a g L cl V x0 x1 x2 x3 x4 x5 x7 x8 x9 x10 x11 x12 x13 x14 x15 x16 x17 x18 x19 x26 x27 x28 x29 x30 x31 x32 x33 x34 x35 x36 x37 x38 x39 #[f0, f1, f2, f3, f4, f5, f6, f7] (pkUpd b eb me g x0 x1 x2 x3 x4 x5 x7 x8 x9 x10 x11 x12 x13 x14 x15 x16 x17 x18 x19 x26 x27 x28 x29 x30 x31 x32 x33 x34 x35 x36 x37 x38 x39 f0 f1 f2 f3 f4 f5 f6 f7 E) w'
theorem pkJ.at {b eb me mv H : Nat} {r a : Int} {g : Gav} {L : List (MEnt Gav)} {cl : Nat} {V : World} {x0 x1 x2 x3 x4 x5 x7 x8 x9 x10 x11 x12 x13 x14 x15 x16 x17 x18 x19 x26 x27 x28 x29 x30 x31 x32 x33 x34 x35 x36 x37 x38 x39 : Value} {listed : Array Bool} {atx : Act} {w' : World} (f0 f1 f2 f3 f4 f5 f6 f7 : Bool) (E : Nat) (hl : listed = #[f0, f1, f2, f3, f4, f5, f6, f7]) (ha : atx = pkUpd b eb me g x0 x1 x2 x3 x4 x5 x7 x8 x9 x10 x11 x12 x13 x14 x15 x16 x17 x18 x19 x26 x27 x28 x29 x30 x31 x32 x33 x34 x35 x36 x37 x38 x39 f0 f1 f2 f3 f4 f5 f6 f7 E) (ch1 : Hid (f1 = true → f0 = true)) (ch2 : Hid (f2 = true → f1 = true)) (ch3 : Hid (f3 = true → f2 = true)) (ch5 : Hid (f5 = true → f3 = true ∧ f4 = true)) (ch7 : Hid (f7 = true → f6 = true ∧ f5 = true ∧ f0 = true ∧ f1 = true ∧ f2 = true ∧ f3 = true ∧ f4 = true)) (hB : Below V.heap.size V w') (rs : Box w' H [.pointer (some ⟨b, 0, none⟩)]) (rb : Box w' b [.map (some me), .map (some mv), .int .i64 r, .int .i64 (a + 1)]) (rg : Box w' (H + 1) [.string g.group, .string g.artifact, .string g.version]) (rm : MMap kGav w' me L cl) (rx : (f6 = true → f7 = false → NewBox V.heap.size w' E [.pointer none])) (rz : (f7 = true → NewBox V.heap.size w' E [.pointer (some ⟨eb, 0, none⟩)])) : pkJ b eb me mv H r a g L cl V x0 x1 x2 x3 x4 x5 x7 x8 x9 x10 x11 x12 x13 x14 x15 x16 x17 x18 x19 x26 x27 x28 x29 x30 x31 x32 x33 x34 x35 x36 x37 x38 x39 listed atx w' := by
 subst hl ha
 exact .mk f0 f1 f2 f3 f4 f5 f6 f7 E w' ch1 ch2 ch3 ch5 ch7 hB rs rb rg rm rx rz
def prUpd (eb : Nat) (hp : Bool) (q1 q2 q3 q4 q5 q6 q7 : S) (a1 : Option Addr) (n1 c1 : Nat) (a2 : Option Addr) (n2 c2 : Nat) (a3 : Option Addr) (n3 c3 : Nat) (o0 : Int) (o1 o2 o3 : S) (o4 o5 o6 : Int) (o7 : S) (x0 x1 x2 x3 x4 x5 x6 x7 x8 x9 x10 x11 x12 x13 x14 x15 x16 x17 x18 x19 x20 x21 x22 x23 x24 x25 x26 x27 x28 x29 x30 : Value) (f0 f1 f2 f3 f4 f5 f6 f7 f8 _f9 _f10 : Bool) (u1 : Option Addr) (v1 : Nat) (u2 : Option Addr) (v2 : Nat) (u3 : Option Addr) (v3 : Nat) : Act :=
 ⟨#[x0, x1, x2, x3, x4, x5, x6, x7, x8, x9, x10, x11, x12, x13, x14, x15, x16, x17, x18, x19, x20, x21, x22, x23, x24, x25, x26, x27, x28, x29, x30, cond f0 (.pointer (some ⟨eb, 0, none⟩)) undef, cond f1 (.pointer (some ⟨eb, 0, none⟩)) undef, cond f2 (.pointer (some ⟨eb, 4, none⟩)) undef, cond f3 (.agg #[.bool hp, .string q1, .string q2, .string q3, .string q4, .string q5, .string q6, .string q7, .slice a1 n1 c1, .slice a2 n2 c2, .slice a3 n3 c3]) undef, cond f4 (.agg #[.bool hp, .string q1, .string q2, .string q3, .string q4, .string q5, .string q6, .string q7, .slice u1 0 v1, .slice u2 0 v2, .slice u3 0 v3]) undef, cond f5 (.pointer (some ⟨eb, 0, none⟩)) undef, cond f6 (.pointer (some ⟨eb, 0, none⟩)) undef, cond f7 (.pointer (some ⟨eb, 15, none⟩)) undef, cond f8 (.agg #[.int .i64 o0, .string o1, .string o2, .string o3, .int .i64 o4, .int .i64 o5, .int .i64 o6, .string o7]) undef], []⟩
inductive prJ (eb E H : Nat) (s : S) (hp : Bool) (q1 q2 q3 q4 q5 q6 q7 : S) (a1 : Option Addr) (n1 c1 : Nat) (a2 : Option Addr) (n2 c2 : Nat) (a3 : Option Addr) (n3 c3 : Nat) (o0 : Int) (o1 o2 o3 : S) (o4 o5 o6 : Int) (o7 : S) (V : World) (x0 x1 x2 x3 x4 x5 x6 x7 x8 x9 x10 x11 x12 x13 x14 x15 x16 x17 x18 x19 x20 x21 x22 x23 x24 x25 x26 x27 x28 x29 x30 : Value) : Array Bool → Act → World → Prop where
 | mk (f0 f1 f2 f3 f4 f5 f6 f7 f8 f9 f10 : Bool) (u1 : Option Addr) (v1 : Nat) (u2 : Option Addr) (v2 : Nat) (u3 : Option Addr) (v3 : Nat) (w' : World) (ch1 : Hid (f1 = true → f0 = true)) (ch2 : Hid (f2 = true → f1 = true)) (ch3 : Hid (f3 = true → f2 = true)) (ch4 : Hid (f4 = true → f3 = true)) (ch6 : Hid (f6 = true → f5 = true)) (ch7 : Hid (f7 = true → f6 = true)) (ch8 : Hid (f8 = true → f7 = true)) (ch9 : Hid (f9 = true → f4 = true ∧ f0 = true ∧ f1 = true ∧ f2 = true ∧ f3 = true)) (ch10 : Hid (f10 = true → f8 = true ∧ f9 = true ∧ f0 = true ∧ f1 = true ∧ f2 = true ∧ f3 = true ∧ f4 = true ∧ f5 = true ∧ f6 = true ∧ f7 = true)) (hB : (f9 = false → Below V.heap.size V w')) (rE : Box w' E [.pointer (some ⟨eb, 0, none⟩)]) (re : Box w' eb [.string s, .int .u32 1, .int .i32 0, .int .u32 0, .bool hp, .string q1, .string q2, .string q3, .string q4, .string q5, .string q6, .string q7, .slice a1 n1 c1, .slice a2 n2 c2, .slice a3 n3 c3, .int .i64 o0, .string o1, .string o2, .string o3, .int .i64 o4, .int .i64 o5, .int .i64 o6, .string o7]) (rp : (f9 = false → Box w' (H + 2) [.bool false, .string ⟨#[]⟩, .string ⟨#[]⟩, .string ⟨#[]⟩, .string ⟨#[]⟩, .string ⟨#[]⟩, .string ⟨#[]⟩, .string ⟨#[]⟩, .slice none 0 0, .slice none 0 0, .slice none 0 0])) (rf : (f9 = true → Box w' (H + 2) [.bool hp, .string q1, .string q2, .string q3, .string q4, .string q5, .string q6, .string q7, .slice u1 0 v1, .slice u2 0 v2, .slice u3 0 v3])) (rr : (f10 = false → Box w' (H + 3) [.int .i64 0, .string ⟨#[]⟩, .string ⟨#[]⟩, .string ⟨#[]⟩, .int .i64 0, .int .i64 0, .int .i64 0, .string ⟨#[]⟩])) (rh : (f10 = true → Box w' (H + 3) [.int .i64 o0, .string o1, .string o2, .string o3, .int .i64 o4, .int .i64 o5, .int .i64 o6, .string o7])) (bw : Only (fun k => k = H + 2 ∨ k = H + 3) V w') : prJ eb E H s hp q1 q2 q3 q4 q5 q6 q7 a1 n1 c1 a2 n2 c2 a3 n3 c3 o0 o1 o2 o3 o4 o5 o6 o7 V x0 x1 x2 x3 x4 x5 x6 x7 x8 x9 x10 x11 x12 x13 x14 x15 x16 x17 x18 x19 x20 x21 x22 x23 x24 x25 x26 x27 x28 x29 x30 #[f0, f1, f2, f3, f4, f5, f6, f7, f8, f9, f10] (prUpd eb hp q1 q2 q3 q4 q5 q6 q7 a1 n1 c1 a2 n2 c2 a3 n3 c3 o0 o1 o2 o3 o4 o5 o6 o7 x0 x1 x2 x3 x4 x5 x6 x7 x8 x9 x10 x11 x12 x13 x14 x15 x16 x17 x18 x19 x20 x21 x22 x23 x24 x25 x26 x27 x28 x29 x30 f0 f1 f2 f3 f4 f5 f6 f7 f8 f9 f10 u1 v1 u2 v2 u3 v3) w'
theorem prJ.at {eb E H : Nat} {s : S} {hp : Bool} {q1 q2 q3 q4 q5 q6 q7 : S} {a1 : Option Addr} {n1 c1 : Nat} {a2 : Option Addr} {n2 c2 : Nat} {a3 : Option Addr} {n3 c3 : Nat} {o0 : Int} {o1 o2 o3 : S} {o4 o5 o6 : Int} {o7 : S} {V : World} {x0 x1 x2 x3 x4 x5 x6 x7 x8 x9 x10 x11 x12 x13 x14 x15 x16 x17 x18 x19 x20 x21 x22 x23 x24 x25 x26 x27 x28 x29 x30 : Value} {listed : Array Bool} {atx : Act} {w' : World} (f0 f1 f2 f3 f4 f5 f6 f7 f8 f9 f10 : Bool) (u1 : Option Addr) (v1 : Nat) (u2 : Option Addr) (v2 : Nat) (u3 : Option Addr) (v3 : Nat) (hl : listed = #[f0, f1, f2, f3, f4, f5, f6, f7, f8, f9, f10]) (ha : atx = prUpd eb hp q1 q2 q3 q4 q5 q6 q7 a1 n1 c1 a2 n2 c2 a3 n3 c3 o0 o1 o2 o3 o4 o5 o6 o7 x0 x1 x2 x3 x4 x5 x6 x7 x8 x9 x10 x11 x12 x13 x14 x15 x16 x17 x18 x19 x20 x21 x22 x23 x24 x25 x26 x27 x28 x29 x30 f0 f1 f2 f3 f4 f5 f6 f7 f8 f9 f10 u1 v1 u2 v2 u3 v3) (ch1 : Hid (f1 = true → f0 = true)) (ch2 : Hid (f2 = true → f1 = true)) (ch3 : Hid (f3 = true → f2 = true)) (ch4 : Hid (f4 = true → f3 = true)) (ch6 : Hid (f6 = true → f5 = true)) (ch7 : Hid (f7 = true → f6 = true)) (ch8 : Hid (f8 = true → f7 = true)) (ch9 : Hid (f9 = true → f4 = true ∧ f0 = true ∧ f1 = true ∧ f2 = true ∧ f3 = true)) (ch10 : Hid (f10 = true → f8 = true ∧ f9 = true ∧ f0 = true ∧ f1 = true ∧ f2 = true ∧ f3 = true ∧ f4 = true ∧ f5 = true ∧ f6 = true ∧ f7 = true)) (hB : (f9 = false → Below V.heap.size V w')) (rE : Box w' E [.pointer (some ⟨eb, 0, none⟩)]) (re : Box w' eb [.string s, .int .u32 1, .int .i32 0, .int .u32 0, .bool hp, .string q1, .string q2, .string q3, .string q4, .string q5, .string q6, .string q7, .slice a1 n1 c1, .slice a2 n2 c2, .slice a3 n3 c3, .int .i64 o0, .string o1, .string o2, .string o3, .int .i64 o4, .int .i64 o5, .int .i64 o6, .string o7]) (rp : (f9 = false → Box w' (H + 2) [.bool false, .string ⟨#[]⟩, .string ⟨#[]⟩, .string ⟨#[]⟩, .string ⟨#[]⟩, .string ⟨#[]⟩, .string ⟨#[]⟩, .string ⟨#[]⟩, .slice none 0 0, .slice none 0 0, .slice none 0 0])) (rf : (f9 = true → Box w' (H + 2) [.bool hp, .string q1, .string q2, .string q3, .string q4, .string q5, .string q6, .string q7, .slice u1 0 v1, .slice u2 0 v2, .slice u3 0 v3])) (rr : (f10 = false → Box w' (H + 3) [.int .i64 0, .string ⟨#[]⟩, .string ⟨#[]⟩, .string ⟨#[]⟩, .int .i64 0, .int .i64 0, .int .i64 0, .string ⟨#[]⟩])) (rh : (f10 = true → Box w' (H + 3) [.int .i64 o0, .string o1, .string o2, .string o3, .int .i64 o4, .int .i64 o5, .int .i64 o6, .string o7])) (bw : Only (fun k => k = H + 2 ∨ k = H + 3) V w') : prJ eb E H s hp q1 q2 q3 q4 q5 q6 q7 a1 n1 c1 a2 n2 c2 a3 n3 c3 o0 o1 o2 o3 o4 o5 o6 o7 V x0 x1 x2 x3 x4 x5 x6 x7 x8 x9 x10 x11 x12 x13 x14 x15 x16 x17 x18 x19 x20 x21 x22 x23 x24 x25 x26 x27 x28 x29 x30 listed atx w' := by
 subst hl ha
 exact .mk f0 f1 f2 f3 f4 f5 f6 f7 f8 f9 f10 u1 v1 u2 v2 u3 v3 w' ch1 ch2 ch3 ch4 ch6 ch7 ch8 ch9 ch10 hB rE re rp rf rr rh bw
/-- What Once.Do makes of a project in a store: its cells turn from e0 to e1, the count of texts that were read from r to r'. -/
def DoOk (F : Nat → Prop) (w : World) (b me mv : Nat) (L : List (MEnt Gav)) (cl : Nat) (V : List (MEnt Id)) (cv : Nat) (es : List (SEnt × Nat)) (r a r' : Int) (i eb : Nat) (g : Gav) (e1 : SEnt) : Prop :=
 ∀ (G : Nat → Prop) (W : World) (vs ve vg : Nat), StoreIn (fun k => F k ∨ G k) W b me mv L cl V cv es r a → (∀ k, G k → w.heap.size ≤ k) → Only (fun k => k = b) w W → Box W vs [.pointer (some ⟨b, 0, none⟩)] → Box W ve [.pointer (some ⟨eb, 0, none⟩)] → Box W vg [.string g.group, .string g.artifact, .string g.version] → ¬ (F vs ∨ G vs) → ¬ (F ve ∨ G ve) → ¬ (F vg ∨ G vg) →
  Calls Tryz.prog 30 #[.pointer (some ⟨eb, 1, none⟩), .func (.func 31) #[] #[.pointer (some ⟨vs, 0, none⟩), .pointer (some ⟨ve, 0, none⟩), .pointer (some ⟨vg, 0, none⟩)]] W fun e w' => e = .returned (.tuple #[]) ∧ StoreIn (fun k => F k ∨ G k) w' b me mv L cl V cv (es.set i (e1, eb)) r' a ∧ Only (fun k => k = b ∨ k = eb) W w'
set_option maxRecDepth 100000 in
set_option maxHeartbeats 16000000 in
theorem pom_yes (g : Gav) (w : World) {F : Nat → Prop} {b me mv : Nat} {L : List (MEnt Gav)} {cl : Nat} {V : List (MEnt Id)} {cv : Nat} {es : List (SEnt × Nat)} {r a r' : Int} {i eb : Nat} {e0 e1 : SEnt} (h : StoreIn F w b me mv L cl V cv es r a) (hf : es.find? (fun e => decide (g = e.1.gav)) = some (e0, eb)) (hi : es[i]? = some (e0, eb)) (hge : e1.gav = e0.gav)
    (hz : e1.done = true ∧ e1.pom.props = [] ∧ e1.pom.managed = [] ∧ e1.pom.deps = []) (hdo : DoOk F w b me mv L cl V cv es r (a + 1) r' i eb g e1) (ha0 : 0 ≤ a) (ha1 : a < 4611686018427387904) :
    Calls Tryz.prog 15 #[ptr b, .agg #[.string g.group, .string g.artifact, .string g.version]] w (PomAns F b (es.set i (e1, eb)) r' (a + 1) e1.pom e1.prob w) := by
 have HHG : Hid (hasG es g = true) := by show _ = _; unfold hasG; rw [hf]; rfl
 have hgt := h.get g
 rw [hf] at hgt
 have HLK : Hid (∀ w', MMap kGav w' me L cl → (Instr.lookup 65 (.map (some me)) (.agg #[.string g.group, .string g.artifact, .string g.version]) false).run Tryz.prog w' = .ok (.pointer (some ⟨eb, 0, none⟩)) w') := fun w' h => by rw [look_ent g h, hgt]; rfl
 have HI := Lib.hid hi
 have HGE := Lib.hid hge
 have HZP := Lib.hid hz
 have HFE : Hid (F eb) := h.own.2.2.2 _ (List.mem_of_getElem? hi)
 have hmf : ∀ (fn : Fn) (first cap : Array Value) (w : World), (Instr.makeFunc fn first cap).run Tryz.prog w = .ok (.func fn first cap) w := fun _ _ _ _ => rfl
 have HDO := Lib.hid hdo
 clear hf hi hge hz hgt hdo
 have hw : IntKind.i64.wrap (a + 1) = a + 1 := IntWalk.i64_in _ (by omega)
 have HW := Lib.hid hw
 have HS := Lib.hid h
 clear hw h
 unfold ptr
 go_enter Tryz.func15, Tryz.ntmps15
 go_upto_region 1 with fail
 refine wp_world ?_
 intro W hW
 have x0 : Box W w.heap.size [.pointer (some ⟨b, 0, none⟩)] := by rw [hW]; exact (((Box.new w [.pointer (some ⟨b, 0, none⟩)] _ _ rfl).alloc _).alloc _).alloc _
 have x1 : Box W (w.heap.size + 1) [.string g.group, .string g.artifact, .string g.version] := by rw [hW]; exact ((Box.new _ [.string g.group, .string g.artifact, .string g.version] _ _ (by simp)).alloc _).alloc _
 have x2 : Box W (w.heap.size + 2) [.bool false, .string ⟨#[]⟩, .string ⟨#[]⟩, .string ⟨#[]⟩, .string ⟨#[]⟩, .string ⟨#[]⟩, .string ⟨#[]⟩, .string ⟨#[]⟩, .slice none 0 0, .slice none 0 0, .slice none 0 0] := by rw [hW]; exact (Box.new _ [.bool false, .string ⟨#[]⟩, .string ⟨#[]⟩, .string ⟨#[]⟩, .string ⟨#[]⟩, .string ⟨#[]⟩, .string ⟨#[]⟩, .string ⟨#[]⟩, .slice none 0 0, .slice none 0 0, .slice none 0 0] _ _ (by simp)).alloc _
 have x3 : Box W (w.heap.size + 3) [.int .i64 0, .string ⟨#[]⟩, .string ⟨#[]⟩, .string ⟨#[]⟩, .int .i64 0, .int .i64 0, .int .i64 0, .string ⟨#[]⟩] := by rw [hW]; exact Box.new _ [.int .i64 0, .string ⟨#[]⟩, .string ⟨#[]⟩, .string ⟨#[]⟩, .int .i64 0, .int .i64 0, .int .i64 0, .string ⟨#[]⟩] _ _ (by simp)
 have hb : Below w.heap.size w W := by rw [hW]; exact ((((Below.refl _ w).alloc (Nat.le_refl _) _).alloc (by simp) _).alloc (by simp; omega) _).alloc (by simp; omega) _
 clear hW
 have hS : StoreIn (fun k => F k ∨ (k = w.heap.size + 2 ∨ k = w.heap.size + 3)) W b me mv L cl V cv es r a := HS.out.more hb (fun k hk => hk.elim (fun e => ⟨by rw [e]; omega, by rw [e]; exact x2.lt⟩) (fun e => ⟨by rw [e]; omega, by rw [e]; exact x3.lt⟩))
 have hbl := HS.out.box.lt
 have v0 := x0.cell 0 _ rfl
 have vl := x0.lt
 have b3 := hS.box.cell 3 _ rfl
 have b0 := hS.box.cell 0 _ rfl
 have bl := hS.box.lt
 have ha := add_any ⟨b, 3, none⟩ a 1 (a + 1) W b3 (hS.box.free 3) HW.out
 have hg : W.grownBy (W.setCell ⟨b, 3, none⟩ (.int .i64 (a + 1))) (some b) := setCell_grown _ _ _ _
 have hS1 := hS.counts (r' := r) (a' := a + 1) (Only.grown (F := fun k => k = b) hg (by rintro k ⟨⟩; rfl)) (hS.box.setOne rfl (by simp))
 have HX0 := Lib.hid (x0.grown hg (by simp; omega))
 have HX1 := Lib.hid (x1.grown hg (by simp; omega))
 have HX2 := Lib.hid (x2.grown hg (by simp; omega))
 have HX3 := Lib.hid (x3.grown hg (by simp; omega))
 have HO1 : Hid (Only (fun k => k = b) w _) := ((Only.of (F := fun k => k = b) hb).trans (Only.grown hg (by rintro k ⟨⟩; rfl)) (fun _ _ => id))
 have HS1 := Lib.hid hS1
 have HA := Lib.hid ha
 clear x0 x1 x2 x3 hb hS ha hg hS1 b3
 generalize W.setCell ⟨b, 3, none⟩ (.int .i64 (a + 1)) = W1 at *
 go_wp2_with fail
 refine HA.out.mono ?_
 rintro e w1 ⟨rfl, rfl⟩
 clear v0 vl b0 bl HA HW
 have v0 := HX0.out.cell 0 _ rfl
 have vl := HX0.out.lt
 obtain ⟨g0, g1, g2⟩ := bxc3 HX1.out
 have gl := HX1.out.lt
 go_wp2_with fail
 refine (has_any g _ (⟨_, _, _, _, _, _, HS1.out⟩ : StoreAt _ _ b es r (a + 1))).mono ?_
 rintro e W2 ⟨rfl, hb2⟩
 rw [HHG.out]
 have HS2 : Hid (StoreIn (fun k => F k ∨ (k = w.heap.size + 2 ∨ k = w.heap.size + 3)) W2 b me mv L cl V cv es r (a + 1)) := HS1.out.only (Only.of (F := fun _ => False) hb2) (fun _ _ => id) fun e he => (HS1.out.ent e he).only (Only.of hb2) (fun _ _ => id) (hb2.block _ (HS1.out.lt _ (HS1.out.own.2.2.2 e he)))
 have HY0 := Lib.hid (HX0.out.below hb2 vl)
 have HY1 := Lib.hid (HX1.out.below hb2 gl)
 have HY2 := Lib.hid (HX2.out.below hb2 HX2.out.lt)
 have HY3 := Lib.hid (HX3.out.below hb2 HX3.out.lt)
 have HO2 := Lib.hid (HO1.out.later hb2)
 clear v0 vl g0 g1 g2 gl hb2 HX0 HX1 HX2 HX3 HO1 HS1
 obtain ⟨H, hH⟩ : ∃ H, H = w.heap.size := ⟨_, rfl⟩
 rw [← hH] at HS2 HY0 HY1 HY2 HY3 hbl
 rw [← hH]
 have HHE : Hid (H = w.heap.size) := hH
 have HBL : Hid (b < H) := hbl
 clear hH hbl

 have hdo := HDO.out
 unfold DoOk at hdo
 clear HDO
 have HSB := Lib.hid HS2.out.box
 have HME := Lib.hid HS2.out.ents
 have HN0 : Hid (H < W2.heap.size) := HY0.out.lt
 have HN1 : Hid (b < W2.heap.size) := HSB.out.lt
 have HN2 : Hid (H + 1 < W2.heap.size) := HY1.out.lt
 have HN3 : Hid (me < W2.heap.size) := HME.out.lt
 have HY3b : Hid (H + 3 < W2.heap.size) := HY3.out.lt
 go_upto_region 5 with fail
 refine wp_region_flags0 (pkJ b eb me mv H r a g L cl W2 _ _ _ _ _ _ _ _ _ _ _ _ _ _ _ _ _ _ _ _ _ _ _ _ _ _ _ _ _ _ _ _ _) (by kernel_rfl) 8 rfl (by kernel_rfl) (pkJ.at false false false false false false false false (0) rfl (by unfold pkUpd; rfl) ?i0 ?i1 ?i2 ?i3 ?i4 ?i5 ?i6 ?i7 ?i8 ?i9 ?i10 ?i11) ?fin ?step
 case i0 => exact Lib.hid (by simp)
 case i1 => exact Lib.hid (by simp)
 case i2 => exact Lib.hid (by simp)
 case i3 => exact Lib.hid (by simp)
 case i4 => exact Lib.hid (by simp)
 case i5 => exact belowN (Below.refl _ _) 1
 case i6 => exact HY0.out.drewN 1
 case i7 => exact HSB.out.drewN 1
 case i8 => exact HY1.out.drewN 1
 case i9 => exact HME.out
 case i10 => exact by simp
 case i11 => exact by simp
 case fin =>
  intro a' w' hJ
  generalize hl : Array.replicate 8 true = Lz at hJ
  cases hJ with
  | mk f0 f1 f2 f3 f4 f5 f6 f7 E _ ch1 ch2 ch3 ch5 ch7 hB rs rb rg rm rx rz =>
   have hl' : [true, true, true, true, true, true, true, true] = [f0, f1, f2, f3, f4, f5, f6, f7] := congrArg Array.toList hl
   simp only [List.cons.injEq, and_true] at hl'
   obtain ⟨rfl, rfl, rfl, rfl, rfl, rfl, rfl, rfl⟩ := hl'
   clear hl
   unfold pkUpd
   simp only [cond_true]
   have HZ := Lib.hid (rz rfl)
   have HB5 := Lib.hid hB
   clear ch1 ch2 ch3 ch5 ch7 hB rs rb rg rm rx rz
   have HE5 := Lib.hid HZ.out.2
   obtain ⟨W5, hW5⟩ : ∃ W5 : World, W5 = w' := ⟨_, rfl⟩
   rw [← hW5]
   rw [← hW5] at HE5 HB5 HZ
   clear hW5
   have HNE := Lib.hid HZ.out.1
   clear HZ
   have HS5 : Hid (StoreIn (fun k => F k ∨ (k = H + 2 ∨ k = H + 3)) W5 b me mv L cl V cv es r (a + 1)) := HS2.out.only (Only.of (F := fun _ => False) HB5.out) (fun _ _ => id) fun e he => (HS2.out.ent e he).only (Only.of HB5.out) (fun _ _ => id) (HB5.out.block _ (HS2.out.lt _ (HS2.out.own.2.2.2 e he)))
   have HO5 := Lib.hid (HO2.out.later HB5.out)
   have HY0 := Lib.hid (HY0.out.below HB5.out HY0.out.lt)
   have HY1 := Lib.hid (HY1.out.below HB5.out HY1.out.lt)
   have HY2 := Lib.hid (HY2.out.below HB5.out HY2.out.lt)
   have HY3 := Lib.hid (HY3.out.below HB5.out HY3.out.lt)
   obtain ⟨pvX, mvX, dvX, hEX, -⟩ := HS5.out.ent _ (List.mem_of_getElem? HI.out)
   have e0 := hEX.cell 0 _ rfl
   have el := hEX.lt
   clear hEX
   have x0 := HE5.out.cell 0 _ rfl
   have xl := HE5.out.lt
   have hnF : ∀ k, H ≤ k → k ≠ H + 2 → k ≠ H + 3 → ¬ (F k ∨ (k = H + 2 ∨ k = H + 3)) := fun k hk h2 h3 h => h.elim (fun hF => by have := HS.out.lt k hF; have := HHE.out; omega) (fun h => h.elim h2 h3)
   have HEH : Hid (H + 3 < E) := by have := HY3b.out; have := HNE.out; show _ < _; omega
   have HD := Lib.hid (hdo (fun k => k = H + 2 ∨ k = H + 3) W5 H E (H + 1) HS5.out (by rintro k (rfl | rfl) <;> (have := HHE.out; omega)) HO5.out HY0.out HE5.out HY1.out (hnF H (Nat.le_refl _) (by omega) (by omega)) (hnF E (by have := HEH.out; omega) (by have := HEH.out; omega) (by have := HEH.out; omega)) (hnF (H + 1) (by omega) (by omega) (by omega)))
   clear hnF
   go_wp2_with fail
   refine HD.out.mono ?_
   rintro e W6 ⟨rfl, hS6, ho6⟩
   have hne : ∀ k, w.heap.size ≤ k → ¬ (k = b ∨ k = eb) := fun k hk h => by
    rcases h with rfl | rfl
    · have := HS.out.lt _ HS.out.own.1; omega
    · have := HS.out.lt _ HFE.out; omega
   have HS6 := Lib.hid hS6
   have HO6 : Hid (Only (fun k => k = b ∨ k = eb) w W6) := (HO5.out.mono (fun _ _ => Or.inl)).trans ho6 fun _ _ => id
   have HE6 := Lib.hid (HE5.out.only ho6 (hne E (by have := HEH.out; have := HHE.out; omega)))
   have HY2 := Lib.hid (HY2.out.only ho6 (hne _ (by have := HHE.out; omega)))
   have HY3 := Lib.hid (HY3.out.only ho6 (hne _ (by have := HHE.out; omega)))
   have HFS : Hid (∀ e ∈ es.set i (e1, eb), F e.2) := fun e he => by
    obtain ⟨y, hy, h1, -⟩ := set_mem HI.out HGE.out he
    rw [← h1]; exact HS.out.own.2.2.2 y hy
   have hil := (List.getElem?_eq_some_iff.1 HI.out).1
   obtain ⟨pvY, mvY, dvY, hEY, hKY⟩ := HS6.out.ent (e1, eb) (List.mem_of_getElem? (i := i) (by rw [List.getElem?_set_self hil]))
   obtain ⟨base, hOY⟩ := hKY.own
   obtain ⟨a1, n1, c1, a2, n2, c2, a3, n3, c3, rfl, rfl, rfl⟩ := hOY.flat
   have hP1 := hOY.props.slice prpC_len2
   obtain ⟨L2, hL2⟩ := hOY.managed
   obtain ⟨L3, hL3⟩ := hOY.deps
   have hP2 := hL2.row.slice depC_len8
   have hP3 := hL3.row.slice depC_len8
   have hl2 := hL2.are
   have hl3 := hL3.are
   clear hL2 hL3 hOY hKY hS6 ho6 hne e0 el x0 xl HD HE5 HY0 HY1
   obtain ⟨g', s, dn, ⟨hp, ⟨q1, q2, q3⟩, q4, q5, q6, q7, ps, ms, ds⟩, ⟨o0, ⟨o1, o2, o3⟩, o4, o5, o6, o7⟩⟩ := e1
   obtain ⟨rfl, rfl, rfl, rfl⟩ : dn = true ∧ ps = [] ∧ ms = [] ∧ ds = [] := HZP.out
   obtain rfl := List.map_eq_nil_iff.1 hl2
   obtain rfl := List.map_eq_nil_iff.1 hl3
   have HP1 : Hid (SliceOf 2 prpC W6 (.slice a1 n1 c1) []) := hP1
   have HP2 : Hid (SliceOf 8 depC W6 (.slice a2 n2 c2) []) := hP2
   have HP3 : Hid (SliceOf 8 depC W6 (.slice a3 n3 c3) []) := hP3
   have HEB : Hid (Box W6 eb [.string s, .int .u32 1, .int .i32 0, .int .u32 0, .bool hp, .string q1, .string q2, .string q3, .string q4, .string q5, .string q6, .string q7, .slice a1 n1 c1, .slice a2 n2 c2, .slice a3 n3 c3, .int .i64 o0, .string o1, .string o2, .string o3, .int .i64 o4, .int .i64 o5, .int .i64 o6, .string o7]) := hEY
   have HNB : Hid (eb < H) := by have := HS.out.lt _ HFE.out; have := HHE.out; show _ < _; omega
   have HNE : Hid (H + 3 < E) := HEH
   clear hP1 hP2 hP3 hEY hl2 hl3
   go_upto_region 7 with fail
   refine wp_region_flags0 (prJ eb E H s hp q1 q2 q3 q4 q5 q6 q7 a1 n1 c1 a2 n2 c2 a3 n3 c3 o0 o1 o2 o3 o4 o5 o6 o7 W6 _ _ _ _ _ _ _ _ _ _ _ _ _ _ _ _ _ _ _ _ _ _ _ _ _ _ _ _ _ _ _) (by kernel_rfl) 11 rfl (by kernel_rfl) (prJ.at false false false false false false false false false false false (none) (0) (none) (0) (none) (0) rfl (by unfold prUpd; rfl) ?j0 ?j1 ?j2 ?j3 ?j4 ?j5 ?j6 ?j7 ?j8 ?j9 ?j10 ?j11 ?j12 ?j13 ?j14 ?j15 ?j16) ?fin2 ?step2
   case j0 => exact Lib.hid (by simp)
   case j1 => exact Lib.hid (by simp)
   case j2 => exact Lib.hid (by simp)
   case j3 => exact Lib.hid (by simp)
   case j4 => exact Lib.hid (by simp)
   case j5 => exact Lib.hid (by simp)
   case j6 => exact Lib.hid (by simp)
   case j7 => exact Lib.hid (by simp)
   case j8 => exact Lib.hid (by simp)
   case j9 => exact fun h0 => belowN (Below.refl _ _) 1
   case j10 => exact HE6.out.drewN 1
   case j11 => exact HEB.out.drewN 1
   case j12 => exact fun _ => HY2.out.drewN 1
   case j13 => exact by simp
   case j14 => exact fun _ => HY3.out.drewN 1
   case j15 => exact by simp
   case j16 => exact ⟨rfl, rfl, rfl, Nat.le_refl _, fun _ _ _ => rfl⟩
   case fin2 =>
    intro a' w' hJ
    generalize hl : Array.replicate 11 true = Lz at hJ
    cases hJ with
    | mk f0 f1 f2 f3 f4 f5 f6 f7 f8 f9 f10 u1 v1 u2 v2 u3 v3 _ ch1 ch2 ch3 ch4 ch6 ch7 ch8 ch9 ch10 hB rE re rp rf rr rh bw =>
     have hl' : [true, true, true, true, true, true, true, true, true, true, true] = [f0, f1, f2, f3, f4, f5, f6, f7, f8, f9, f10] := congrArg Array.toList hl
     simp only [List.cons.injEq, and_true] at hl'
     obtain ⟨rfl, rfl, rfl, rfl, rfl, rfl, rfl, rfl, rfl, rfl, rfl⟩ := hl'
     clear hl
     unfold prUpd
     simp only [cond_true]
     have HF1 := Lib.hid (rf rfl)
     have HF2 := Lib.hid (rh rfl)
     have HBW := Lib.hid bw
     clear ch1 ch2 ch3 ch4 ch6 ch7 ch8 ch9 ch10 hB rE re rp rf rr rh bw
     obtain ⟨y0, y1, y2, y3, y4, y5, y6, y7, y8, y9, y10⟩ := bxc11 HF1.out
     obtain ⟨z0, z1, z2, z3, z4, z5, z6, z7⟩ := bxc8 HF2.out
     have yl := HF1.out.lt
     have zl := HF2.out.lt
     go_wp2
     refine bodyPost_ret (v := .tuple #[.agg #[.bool hp, .string q1, .string q2, .string q3, .string q4, .string q5, .string q6, .string q7, .slice u1 0 v1, .slice u2 0 v2, .slice u3 0 v3], .agg #[.int .i64 o0, .string o1, .string o2, .string o3, .int .i64 o4, .int .i64 o5, .int .i64 o6, .string o7]]) (by simp [results, Tryz.results15, go_sem, y0, y1, y2, y3, y4, y5, y6, y7, y8, y9, y10, z0, z1, z2, z3, z4, z5, z6, z7]) rfl ?_
     exact ⟨⟨_, _, _, _, _, _, rfl⟩, ⟨_, _, _, _, _, _, HS.out.back HS6.out HBW.out (fun _ h => h) (by rintro k (rfl | rfl) <;> (have := HHE.out; omega)) HO6.out.size HFS.out⟩, (HO6.out.mono (fun k _ e => e.elim (fun e => by rw [e]; exact HS.out.own.1) (fun e => by rw [e]; exact HFE.out))).trans HBW.out (by rintro k hk (rfl | rfl) <;> (have := HHE.out; omega))⟩
   case step2 =>
    intro listed a' w' hJ i hi
    cases hJ with
    | mk f0 f1 f2 f3 f4 f5 f6 f7 f8 f9 f10 u1 v1 u2 v2 u3 v3 _ ch1 ch2 ch3 ch4 ch6 ch7 ch8 ch9 ch10 hB rE re rp rf rr rh bw =>
     rw [mem_ready] at hi
     obtain ⟨hu, o, ho, ha⟩ := hi
     have hi8 : i < 11 := (Array.getElem?_eq_some_iff.1 ho).1
     rcases (by omega : i = 0 ∨ i = 1 ∨ i = 2 ∨ i = 3 ∨ i = 4 ∨ i = 5 ∨ i = 6 ∨ i = 7 ∨ i = 8 ∨ i = 9 ∨ i = 10) with rfl | rfl | rfl | rfl | rfl | rfl | rfl | rfl | rfl | rfl | rfl
     · have ho' := ho
       simp at hu ho
       subst hu ho
       clear ha
       have e1 : f1 = false := Bool.eq_false_iff.2 fun h => Bool.false_ne_true ((ch1.out h))
       have e2 : f2 = false := Bool.eq_false_iff.2 fun h => Bool.false_ne_true ((ch1.out (ch2.out h)))
       have e3 : f3 = false := Bool.eq_false_iff.2 fun h => Bool.false_ne_true ((ch1.out (ch2.out (ch3.out h))))
       have e4 : f4 = false := Bool.eq_false_iff.2 fun h => Bool.false_ne_true ((ch1.out (ch2.out (ch3.out (ch4.out h)))))
       have e9 : f9 = false := Bool.eq_false_iff.2 fun h => Bool.false_ne_true ((ch1.out (ch2.out (ch3.out (ch4.out (ch9.out h).1)))))
       have e10 : f10 = false := Bool.eq_false_iff.2 fun h => Bool.false_ne_true ((ch1.out (ch2.out (ch3.out (ch4.out (ch9.out (ch10.out h).2.1).1)))))
       subst e1 e2 e3 e4 e9 e10
       have kE := rE.cell 0 _ rfl
       have kl := rE.lt
       refine .inl ?_
       unfold prUpd Oper.wp
       go_simp
       exact prJ.at true false false false false f5 f6 f7 f8 false false (u1) (v1) (u2) (v2) (u3) (v3) rfl rfl (Lib.hid (by simp)) (Lib.hid (by simp)) (Lib.hid (by simp)) (Lib.hid (by simp)) (ch6) (ch7) (ch8) (Lib.hid (by simp)) (Lib.hid (by simp)) (hB) (rE) (re) (rp) (by simp) (rr) (by simp) (bw)
     · have ho' := ho
       simp at hu ho
       subst hu ho
       simp [Region.binds] at ha
       obtain rfl : f0 = true := by simp only [ha]
       clear ha
       have e2 : f2 = false := Bool.eq_false_iff.2 fun h => Bool.false_ne_true ((ch2.out h))
       have e3 : f3 = false := Bool.eq_false_iff.2 fun h => Bool.false_ne_true ((ch2.out (ch3.out h)))
       have e4 : f4 = false := Bool.eq_false_iff.2 fun h => Bool.false_ne_true ((ch2.out (ch3.out (ch4.out h))))
       have e9 : f9 = false := Bool.eq_false_iff.2 fun h => Bool.false_ne_true ((ch2.out (ch3.out (ch4.out (ch9.out h).1))))
       have e10 : f10 = false := Bool.eq_false_iff.2 fun h => Bool.false_ne_true ((ch2.out (ch3.out (ch4.out (ch9.out (ch10.out h).2.1).1))))
       subst e2 e3 e4 e9 e10
       have k0 := re.cell 0 _ rfl
       have kl := re.lt
       refine .inl ?_
       unfold prUpd Oper.wp
       go_simp
       exact prJ.at true true false false false f5 f6 f7 f8 false false (u1) (v1) (u2) (v2) (u3) (v3) rfl rfl (Lib.hid (by simp)) (Lib.hid (by simp)) (Lib.hid (by simp)) (Lib.hid (by simp)) (ch6) (ch7) (ch8) (Lib.hid (by simp)) (Lib.hid (by simp)) (hB) (rE) (re) (rp) (by simp) (rr) (by simp) (bw)
     · have ho' := ho
       simp at hu ho
       subst hu ho
       simp [Region.binds] at ha
       obtain rfl : f1 = true := by simp only [ha]
       clear ha
       obtain rfl : f0 = true := (ch1.out rfl)
       have e3 : f3 = false := Bool.eq_false_iff.2 fun h => Bool.false_ne_true ((ch3.out h))
       have e4 : f4 = false := Bool.eq_false_iff.2 fun h => Bool.false_ne_true ((ch3.out (ch4.out h)))
       have e9 : f9 = false := Bool.eq_false_iff.2 fun h => Bool.false_ne_true ((ch3.out (ch4.out (ch9.out h).1)))
       have e10 : f10 = false := Bool.eq_false_iff.2 fun h => Bool.false_ne_true ((ch3.out (ch4.out (ch9.out (ch10.out h).2.1).1)))
       subst e3 e4 e9 e10
       refine .inl ?_
       unfold prUpd Oper.wp
       go_simp
       exact prJ.at true true true false false f5 f6 f7 f8 false false (u1) (v1) (u2) (v2) (u3) (v3) rfl rfl (Lib.hid (by simp)) (Lib.hid (by simp)) (Lib.hid (by simp)) (Lib.hid (by simp)) (ch6) (ch7) (ch8) (Lib.hid (by simp)) (Lib.hid (by simp)) (hB) (rE) (re) (rp) (by simp) (rr) (by simp) (bw)
     · have ho' := ho
       simp at hu ho
       subst hu ho
       simp [Region.binds] at ha
       obtain rfl : f2 = true := by simp only [ha]
       clear ha
       obtain rfl : f1 = true := (ch2.out rfl)
       obtain rfl : f0 = true := (ch1.out (ch2.out rfl))
       have e4 : f4 = false := Bool.eq_false_iff.2 fun h => Bool.false_ne_true ((ch4.out h))
       have e9 : f9 = false := Bool.eq_false_iff.2 fun h => Bool.false_ne_true ((ch4.out (ch9.out h).1))
       have e10 : f10 = false := Bool.eq_false_iff.2 fun h => Bool.false_ne_true ((ch4.out (ch9.out (ch10.out h).2.1).1))
       subst e4 e9 e10
       have k4 := re.cell 4 _ rfl
       have k5 := re.cell 5 _ rfl
       have k6 := re.cell 6 _ rfl
       have k7 := re.cell 7 _ rfl
       have k8 := re.cell 8 _ rfl
       have k9 := re.cell 9 _ rfl
       have k10 := re.cell 10 _ rfl
       have k11 := re.cell 11 _ rfl
       have k12 := re.cell 12 _ rfl
       have k13 := re.cell 13 _ rfl
       have k14 := re.cell 14 _ rfl
       have kl := re.lt
       refine .inl ?_
       unfold prUpd Oper.wp
       go_simp
       exact prJ.at true true true true false f5 f6 f7 f8 false false (u1) (v1) (u2) (v2) (u3) (v3) rfl rfl (Lib.hid (by simp)) (Lib.hid (by simp)) (Lib.hid (by simp)) (Lib.hid (by simp)) (ch6) (ch7) (ch8) (Lib.hid (by simp)) (Lib.hid (by simp)) (hB) (rE) (re) (rp) (by simp) (rr) (by simp) (bw)
     · have ho' := ho
       simp at hu ho
       subst hu ho
       simp [Region.binds] at ha
       obtain rfl : f3 = true := by simp only [ha]
       clear ha
       obtain rfl : f2 = true := (ch3.out rfl)
       obtain rfl : f1 = true := (ch2.out (ch3.out rfl))
       obtain rfl : f0 = true := (ch1.out (ch2.out (ch3.out rfl)))
       have e9 : f9 = false := Bool.eq_false_iff.2 fun h => Bool.false_ne_true ((ch9.out h).1)
       have e10 : f10 = false := Bool.eq_false_iff.2 fun h => Bool.false_ne_true ((ch9.out (ch10.out h).2.1).1)
       subst e9 e10
       have hS := (hB rfl).size
       refine .inl ?_
       unfold prUpd Oper.wp
       go_simp
       refine (own0 hp q1 q2 q3 q4 q5 q6 q7 a1 a2 a3 n1 n2 n3 c1 c2 c3 w' (HP1.out.below (hB rfl)) (HP2.out.below (hB rfl)) (HP3.out.below (hB rfl))).mono ?_
       intro e w1 hO
       obtain ⟨y1, z1, y2, z2, y3, z3, rfl, hb⟩ := hO
       exact prJ.at true true true true true f5 f6 f7 f8 false false (y1) (z1) (y2) (z2) (y3) (z3) rfl rfl (Lib.hid (by simp)) (Lib.hid (by simp)) (Lib.hid (by simp)) (Lib.hid (by simp)) (ch6) (ch7) (ch8) (Lib.hid (by simp)) (Lib.hid (by simp)) (fun h0 => (hB h0).trans (hb.mono hS)) (BoxS.later rE hb) (BoxS.later re hb) (fun h0 => BoxS.later (rp h0) hb) (by simp) (fun h0 => BoxS.later (rr h0) hb) (by simp) (Only.later bw hb)
     · have ho' := ho
       simp at hu ho
       subst hu ho
       clear ha
       have e6 : f6 = false := Bool.eq_false_iff.2 fun h => Bool.false_ne_true ((ch6.out h))
       have e7 : f7 = false := Bool.eq_false_iff.2 fun h => Bool.false_ne_true ((ch6.out (ch7.out h)))
       have e8 : f8 = false := Bool.eq_false_iff.2 fun h => Bool.false_ne_true ((ch6.out (ch7.out (ch8.out h))))
       have e10 : f10 = false := Bool.eq_false_iff.2 fun h => Bool.false_ne_true ((ch6.out (ch7.out (ch8.out (ch10.out h).1))))
       subst e6 e7 e8 e10
       have kE := rE.cell 0 _ rfl
       have kl := rE.lt
       refine .inl ?_
       unfold prUpd Oper.wp
       go_simp
       exact prJ.at f0 f1 f2 f3 f4 true false false false f9 false (u1) (v1) (u2) (v2) (u3) (v3) rfl rfl (ch1) (ch2) (ch3) (ch4) (Lib.hid (by simp)) (Lib.hid (by simp)) (Lib.hid (by simp)) (ch9) (Lib.hid (by simp)) (hB) (rE) (re) (rp) (rf) (rr) (by simp) (bw)
     · have ho' := ho
       simp at hu ho
       subst hu ho
       simp [Region.binds] at ha
       obtain rfl : f5 = true := by simp only [ha]
       clear ha
       have e7 : f7 = false := Bool.eq_false_iff.2 fun h => Bool.false_ne_true ((ch7.out h))
       have e8 : f8 = false := Bool.eq_false_iff.2 fun h => Bool.false_ne_true ((ch7.out (ch8.out h)))
       have e10 : f10 = false := Bool.eq_false_iff.2 fun h => Bool.false_ne_true ((ch7.out (ch8.out (ch10.out h).1)))
       subst e7 e8 e10
       have k0 := re.cell 0 _ rfl
       have kl := re.lt
       refine .inl ?_
       unfold prUpd Oper.wp
       go_simp
       exact prJ.at f0 f1 f2 f3 f4 true true false false f9 false (u1) (v1) (u2) (v2) (u3) (v3) rfl rfl (ch1) (ch2) (ch3) (ch4) (Lib.hid (by simp)) (Lib.hid (by simp)) (Lib.hid (by simp)) (ch9) (Lib.hid (by simp)) (hB) (rE) (re) (rp) (rf) (rr) (by simp) (bw)
     · have ho' := ho
       simp at hu ho
       subst hu ho
       simp [Region.binds] at ha
       obtain rfl : f6 = true := by simp only [ha]
       clear ha
       obtain rfl : f5 = true := (ch6.out rfl)
       have e8 : f8 = false := Bool.eq_false_iff.2 fun h => Bool.false_ne_true ((ch8.out h))
       have e10 : f10 = false := Bool.eq_false_iff.2 fun h => Bool.false_ne_true ((ch8.out (ch10.out h).1))
       subst e8 e10
       refine .inl ?_
       unfold prUpd Oper.wp
       go_simp
       exact prJ.at f0 f1 f2 f3 f4 true true true false f9 false (u1) (v1) (u2) (v2) (u3) (v3) rfl rfl (ch1) (ch2) (ch3) (ch4) (Lib.hid (by simp)) (Lib.hid (by simp)) (Lib.hid (by simp)) (ch9) (Lib.hid (by simp)) (hB) (rE) (re) (rp) (rf) (rr) (by simp) (bw)
     · have ho' := ho
       simp at hu ho
       subst hu ho
       simp [Region.binds] at ha
       obtain rfl : f7 = true := by simp only [ha]
       clear ha
       obtain rfl : f6 = true := (ch7.out rfl)
       obtain rfl : f5 = true := (ch6.out (ch7.out rfl))
       have e10 : f10 = false := Bool.eq_false_iff.2 fun h => Bool.false_ne_true ((ch10.out h).1)
       subst e10
       have k15 := re.cell 15 _ rfl
       have k16 := re.cell 16 _ rfl
       have k17 := re.cell 17 _ rfl
       have k18 := re.cell 18 _ rfl
       have k19 := re.cell 19 _ rfl
       have k20 := re.cell 20 _ rfl
       have k21 := re.cell 21 _ rfl
       have k22 := re.cell 22 _ rfl
       have kl := re.lt
       refine .inl ?_
       unfold prUpd Oper.wp
       go_simp
       exact prJ.at f0 f1 f2 f3 f4 true true true true f9 false (u1) (v1) (u2) (v2) (u3) (v3) rfl rfl (ch1) (ch2) (ch3) (ch4) (Lib.hid (by simp)) (Lib.hid (by simp)) (Lib.hid (by simp)) (ch9) (Lib.hid (by simp)) (hB) (rE) (re) (rp) (rf) (rr) (by simp) (bw)
     · have ho' := ho
       simp at hu ho
       subst hu ho
       simp [Region.binds] at ha
       obtain rfl : f4 = true := by simp only [ha]
       obtain rfl : f0 = true := by simp only [ha]
       obtain rfl : f1 = true := by simp only [ha]
       obtain rfl : f2 = true := by simp only [ha]
       obtain rfl : f3 = true := by simp only [ha]
       clear ha
       have e10 : f10 = false := Bool.eq_false_iff.2 fun h => Bool.false_ne_true ((ch10.out h).2.1)
       subst e10
       refine .inl ?_
       unfold prUpd
       refine wp_store_box 48 (.tmp 4) (.tmp 35) rfl (H + 2) [.bool false, .string ⟨#[]⟩, .string ⟨#[]⟩, .string ⟨#[]⟩, .string ⟨#[]⟩, .string ⟨#[]⟩, .string ⟨#[]⟩, .string ⟨#[]⟩, .slice none 0 0, .slice none 0 0, .slice none 0 0] [.bool hp, .string q1, .string q2, .string q3, .string q4, .string q5, .string q6, .string q7, .slice u1 0 v1, .slice u2 0 v2, .slice u3 0 v3] (by simp [Act.eval]) (by simp [Act.eval]) (rp rfl) rfl size_pomS (by simp [Value.oneCell']) ?_
       intro wz hz1 hg1
       exact prJ.at true true true true true f5 f6 f7 f8 true false (u1) (v1) (u2) (v2) (u3) (v3) rfl rfl (Lib.hid (by simp)) (Lib.hid (by simp)) (Lib.hid (by simp)) (Lib.hid (by simp)) (ch6) (ch7) (ch8) (Lib.hid (by simp)) (Lib.hid (by simp)) (by simp) (rE.grown hg1 (by have := HNE.out; simp; omega)) (re.grown hg1 (by have := HNB.out; simp; omega)) (by simp) (fun _ => hz1) (fun h => (rr h).grown hg1 (by simp)) (by simp) (bw.trans (Only.grown hg1 (by rintro k ⟨⟩; exact .inl rfl)) (fun _ _ => id))
     · have ho' := ho
       simp at hu ho
       subst hu ho
       simp [Region.binds] at ha
       obtain rfl : f8 = true := by simp only [ha]
       obtain rfl : f9 = true := by simp only [ha]
       obtain rfl : f0 = true := by simp only [ha]
       obtain rfl : f1 = true := by simp only [ha]
       obtain rfl : f2 = true := by simp only [ha]
       obtain rfl : f3 = true := by simp only [ha]
       obtain rfl : f4 = true := by simp only [ha]
       obtain rfl : f5 = true := by simp only [ha]
       obtain rfl : f6 = true := by simp only [ha]
       obtain rfl : f7 = true := by simp only [ha]
       clear ha
       refine .inl ?_
       unfold prUpd
       refine wp_store_box 53 (.tmp 5) (.tmp 39) rfl (H + 3) [.int .i64 0, .string ⟨#[]⟩, .string ⟨#[]⟩, .string ⟨#[]⟩, .int .i64 0, .int .i64 0, .int .i64 0, .string ⟨#[]⟩] [.int .i64 o0, .string o1, .string o2, .string o3, .int .i64 o4, .int .i64 o5, .int .i64 o6, .string o7] (by simp [Act.eval]) (by simp [Act.eval]) (rr rfl) rfl size_prbS (by simp [Value.oneCell']) ?_
       intro wz hz1 hg1
       exact prJ.at true true true true true true true true true true true (u1) (v1) (u2) (v2) (u3) (v3) rfl rfl (Lib.hid (by simp)) (Lib.hid (by simp)) (Lib.hid (by simp)) (Lib.hid (by simp)) (Lib.hid (by simp)) (Lib.hid (by simp)) (Lib.hid (by simp)) (Lib.hid (by simp)) (Lib.hid (by simp)) (by simp) (rE.grown hg1 (by have := HNE.out; simp; omega)) (re.grown hg1 (by have := HNB.out; simp; omega)) (by simp) (fun h => (rf h).grown hg1 (by simp)) (by simp) (fun _ => hz1) (bw.trans (Only.grown hg1 (by rintro k ⟨⟩; exact .inr rfl)) (fun _ _ => id))
 case step =>
  intro listed a' w' hJ i hi
  cases hJ with
  | mk f0 f1 f2 f3 f4 f5 f6 f7 E _ ch1 ch2 ch3 ch5 ch7 hB rs rb rg rm rx rz =>
   rw [mem_ready] at hi
   obtain ⟨hu, o, ho, ha⟩ := hi
   have hi8 : i < 8 := (Array.getElem?_eq_some_iff.1 ho).1
   rcases (by omega : i = 0 ∨ i = 1 ∨ i = 2 ∨ i = 3 ∨ i = 4 ∨ i = 5 ∨ i = 6 ∨ i = 7) with rfl | rfl | rfl | rfl | rfl | rfl | rfl | rfl
   · have ho' := ho
     simp at hu ho
     subst hu ho
     clear ha
     have e1 : f1 = false := Bool.eq_false_iff.2 fun h => Bool.false_ne_true ((ch1.out h))
     have e2 : f2 = false := Bool.eq_false_iff.2 fun h => Bool.false_ne_true ((ch1.out (ch2.out h)))
     have e3 : f3 = false := Bool.eq_false_iff.2 fun h => Bool.false_ne_true ((ch1.out (ch2.out (ch3.out h))))
     have e5 : f5 = false := Bool.eq_false_iff.2 fun h => Bool.false_ne_true ((ch1.out (ch2.out (ch3.out (ch5.out h).1))))
     have e7 : f7 = false := Bool.eq_false_iff.2 fun h => Bool.false_ne_true ((ch1.out (ch2.out (ch3.out (ch5.out (ch7.out h).2.1).1))))
     subst e1 e2 e3 e5 e7
     have kb := rs.cell 0 _ rfl
     have kl := rs.lt
     refine .inl ?_
     unfold pkUpd Oper.wp
     go_simp
     exact pkJ.at true false false false f4 false f6 false (E) rfl rfl (Lib.hid (by simp)) (Lib.hid (by simp)) (Lib.hid (by simp)) (Lib.hid (by simp)) (Lib.hid (by simp)) (hB) (rs) (rb) (rg) (rm) (rx) (by simp)
   · have ho' := ho
     simp at hu ho
     subst hu ho
     simp [Region.binds] at ha
     obtain rfl : f0 = true := by simp only [ha]
     clear ha
     have e2 : f2 = false := Bool.eq_false_iff.2 fun h => Bool.false_ne_true ((ch2.out h))
     have e3 : f3 = false := Bool.eq_false_iff.2 fun h => Bool.false_ne_true ((ch2.out (ch3.out h)))
     have e5 : f5 = false := Bool.eq_false_iff.2 fun h => Bool.false_ne_true ((ch2.out (ch3.out (ch5.out h).1)))
     have e7 : f7 = false := Bool.eq_false_iff.2 fun h => Bool.false_ne_true ((ch2.out (ch3.out (ch5.out (ch7.out h).2.1).1)))
     subst e2 e3 e5 e7
     have kb := rb.cell 0 _ rfl
     have kl := rb.lt
     refine .inl ?_
     unfold pkUpd Oper.wp
     go_simp
     exact pkJ.at true true false false f4 false f6 false (E) rfl rfl (Lib.hid (by simp)) (Lib.hid (by simp)) (Lib.hid (by simp)) (Lib.hid (by simp)) (Lib.hid (by simp)) (hB) (rs) (rb) (rg) (rm) (rx) (by simp)
   · have ho' := ho
     simp at hu ho
     subst hu ho
     simp [Region.binds] at ha
     obtain rfl : f1 = true := by simp only [ha]
     clear ha
     obtain rfl : f0 = true := (ch1.out rfl)
     have e3 : f3 = false := Bool.eq_false_iff.2 fun h => Bool.false_ne_true ((ch3.out h))
     have e5 : f5 = false := Bool.eq_false_iff.2 fun h => Bool.false_ne_true ((ch3.out (ch5.out h).1))
     have e7 : f7 = false := Bool.eq_false_iff.2 fun h => Bool.false_ne_true ((ch3.out (ch5.out (ch7.out h).2.1).1))
     subst e3 e5 e7
     refine .inl ?_
     unfold pkUpd Oper.wp
     go_simp
     exact pkJ.at true true true false f4 false f6 false (E) rfl rfl (Lib.hid (by simp)) (Lib.hid (by simp)) (Lib.hid (by simp)) (Lib.hid (by simp)) (Lib.hid (by simp)) (hB) (rs) (rb) (rg) (rm) (rx) (by simp)
   · have ho' := ho
     simp at hu ho
     subst hu ho
     simp [Region.binds] at ha
     obtain rfl : f2 = true := by simp only [ha]
     clear ha
     obtain rfl : f1 = true := (ch2.out rfl)
     obtain rfl : f0 = true := (ch1.out (ch2.out rfl))
     have e5 : f5 = false := Bool.eq_false_iff.2 fun h => Bool.false_ne_true ((ch5.out h).1)
     have e7 : f7 = false := Bool.eq_false_iff.2 fun h => Bool.false_ne_true ((ch5.out (ch7.out h).2.1).1)
     subst e5 e7
     have kb := rb.cell 0 _ rfl
     have kl := rb.lt
     refine .inl ?_
     unfold pkUpd Oper.wp
     go_simp
     exact pkJ.at true true true true f4 false f6 false (E) rfl rfl (Lib.hid (by simp)) (Lib.hid (by simp)) (Lib.hid (by simp)) (Lib.hid (by simp)) (Lib.hid (by simp)) (hB) (rs) (rb) (rg) (rm) (rx) (by simp)
   · have ho' := ho
     simp at hu ho
     subst hu ho
     clear ha
     have e5 : f5 = false := Bool.eq_false_iff.2 fun h => Bool.false_ne_true ((ch5.out h).2)
     have e7 : f7 = false := Bool.eq_false_iff.2 fun h => Bool.false_ne_true ((ch5.out (ch7.out h).2.1).2)
     subst e5 e7
     obtain ⟨k0, k1, k2⟩ := bxc3 rg
     have kl := rg.lt
     refine .inl ?_
     unfold pkUpd Oper.wp
     go_simp
     exact pkJ.at f0 f1 f2 f3 true false f6 false (E) rfl rfl (ch1) (ch2) (ch3) (Lib.hid (by simp)) (Lib.hid (by simp)) (hB) (rs) (rb) (rg) (rm) (rx) (by simp)
   · have ho' := ho
     simp at hu ho
     subst hu ho
     simp [Region.binds] at ha
     obtain rfl : f3 = true := by simp only [ha]
     obtain rfl : f4 = true := by simp only [ha]
     clear ha
     obtain rfl : f2 = true := (ch3.out rfl)
     obtain rfl : f1 = true := (ch2.out (ch3.out rfl))
     obtain rfl : f0 = true := (ch1.out (ch2.out (ch3.out rfl)))
     have e7 : f7 = false := Bool.eq_false_iff.2 fun h => Bool.false_ne_true ((ch7.out h).2.1)
     subst e7
     have kr := HLK.out w' rm
     refine .inl ?_
     unfold pkUpd Oper.wp
     go_simp
     exact pkJ.at true true true true true true f6 false (E) rfl rfl (Lib.hid (by simp)) (Lib.hid (by simp)) (Lib.hid (by simp)) (Lib.hid (by simp)) (Lib.hid (by simp)) (hB) (rs) (rb) (rg) (rm) (rx) (by simp)
   · have ho' := ho
     simp at hu ho
     subst hu ho
     clear ha
     have e7 : f7 = false := Bool.eq_false_iff.2 fun h => Bool.false_ne_true ((ch7.out h).1)
     subst e7
     have hS := hB.size
     have hal := fun o => (Below.refl w'.heap.size w').alloc (Nat.le_refl w'.heap.size) o
     refine .inl ?_
     unfold pkUpd Oper.wp
     go_simp
     exact pkJ.at f0 f1 f2 f3 f4 f5 true false (w'.heap.size) rfl rfl (ch1) (ch2) (ch3) (ch5) (Lib.hid (by simp)) (hB.trans ((hal _).mono hS)) (BoxS.later rs (hal _)) (BoxS.later rb (hal _)) (BoxS.later rg (hal _)) (rm.later (hal _)) (fun h0 h1 => ⟨hS, Box.new w' [.pointer none] _ _ rfl⟩) (by simp)
   · have ho' := ho
     simp at hu ho
     subst hu ho
     simp [Region.binds] at ha
     obtain rfl : f6 = true := by simp only [ha]
     obtain rfl : f5 = true := by simp only [ha]
     obtain rfl : f0 = true := by simp only [ha]
     obtain rfl : f1 = true := by simp only [ha]
     obtain rfl : f2 = true := by simp only [ha]
     obtain rfl : f3 = true := by simp only [ha]
     obtain rfl : f4 = true := by simp only [ha]
     clear ha
     have hx := rx rfl rfl
     have hn := hx.1
     have k0 := hx.2.cell 0 _ rfl
     have f0 := hx.2.free 0
     have kl := hx.2.lt
     have x3 := hx.2.setOne (o := 0) (u := .pointer (some ⟨eb, 0, none⟩)) rfl (by simp)
     refine .inl ?_
     unfold pkUpd Oper.wp
     go_simp
     exact pkJ.at true true true true true true true true (E) rfl rfl (Lib.hid (by simp)) (Lib.hid (by simp)) (Lib.hid (by simp)) (Lib.hid (by simp)) (Lib.hid (by simp)) (hB.setCell (by exact hn) _) (rs.grown (setCell_grown _ _ _ _) (by have := HN0.out; simp; omega)) (rb.grown (setCell_grown _ _ _ _) (by have := HN1.out; simp; omega)) (rg.grown (setCell_grown _ _ _ _) (by have := HN2.out; simp; omega)) (rm.grown (setCell_grown _ _ _ _) (by have := HN3.out; simp; omega)) (by simp) (fun _ => ⟨hn, x3⟩)

end Go.Proofs.YtphaeegbmfpcgaaGreatDoor

/- The law's reading of a text, and its examples, walked; the conditions stand in the theorems. -/
namespace Go.Proofs.YtphaeegbmfpcgaaGreatDoor
open Go Go.RowKit

def pex1 : Tr := .mk [112, 114, 111, 106, 101, 99, 116] [] [.mk [97, 114, 116, 105, 102, 97, 99, 116, 73, 100] [] [.mk [] [] [] [97]] []] []
theorem pex1_mild : Mild pex1 := (Mild.of (by decide) (by decide) (by decide) (List.forall_mem_cons.2 ⟨(Mild.of (by decide) (by decide) (by decide) (List.forall_mem_cons.2 ⟨(Mild.of (by decide) (by decide) (by decide) (fun k hk => by cases hk)), (fun k hk => by cases hk)⟩)), (fun k hk => by cases hk)⟩))

end Go.Proofs.YtphaeegbmfpcgaaGreatDoor

/- store.Reads, Asks; the store's example is as the document says; the conditions stand in the theorems. -/

namespace Go.Proofs.YtphaeegbmfpcgaaGreatDoor
open Go Go.RowKit

theorem reads_any (w : World) {F : Nat → Prop} {b : Nat} {es : List (SEnt × Nat)} {r a : Int} (h : StoreAt F w b es r a) :
    Calls Tryz.prog 19 #[ptr b] w fun e w' => e = .returned (.int .i64 r) ∧ Below w.heap.size w w' := by
 obtain ⟨me, mv, L, cl, V, cv, h⟩ := h
 have b0 := h.box.cell 0 _ rfl
 have bl := h.box.lt
 have HL := Lib.hid (load_any ⟨b, 2, none⟩ r w (h.box.cell 2 _ rfl))
 clear h
 unfold ptr
 go_enter Tryz.func19, Tryz.ntmps19
 go_wp2_with fail
 refine HL.out.mono ?_
 rintro e w1 ⟨rfl, rfl⟩
 go_wp2
 go_ret
 exact ⟨rfl, Below.refl _ _⟩
theorem asks_any (w : World) {F : Nat → Prop} {b : Nat} {es : List (SEnt × Nat)} {r a : Int} (h : StoreAt F w b es r a) :
    Calls Tryz.prog 20 #[ptr b] w fun e w' => e = .returned (.int .i64 a) ∧ Below w.heap.size w w' := by
 obtain ⟨me, mv, L, cl, V, cv, h⟩ := h
 have b0 := h.box.cell 0 _ rfl
 have bl := h.box.lt
 have HL := Lib.hid (load_any ⟨b, 3, none⟩ a w (h.box.cell 3 _ rfl))
 clear h
 unfold ptr
 go_enter Tryz.func20, Tryz.ntmps20
 go_wp2_with fail
 refine HL.out.mono ?_
 rintro e w1 ⟨rfl, rfl⟩
 go_wp2
 go_ret
 exact ⟨rfl, Below.refl _ _⟩
theorem eqs_prbS : Tryz.prog.stoodInHeld 53 = false := by kernel_rfl
theorem eqg_prbS : Tryz.prog.eqGuardType Tryz.prog.depth 53 = false := by kernel_rfl
def gavL : Gav := ⟨⟨#[103]⟩, ⟨#[97]⟩, ⟨#[49]⟩⟩
def gavN : Gav := ⟨⟨#[103]⟩, ⟨#[97]⟩, ⟨#[50]⟩⟩
def textL : S := ⟨#[60, 112, 114, 111, 106, 101, 99, 116, 62, 60, 97, 114, 116, 105, 102, 97, 99, 116, 73, 100, 62, 97, 60, 47, 97, 114, 116, 105, 102, 97, 99, 116, 73, 100, 62, 60, 47, 112, 114, 111, 106, 101, 99, 116, 62]⟩
theorem pex1_lists : (readV pex1).props = [] ∧ (readV pex1).managed = [] ∧ (readV pex1).deps = [] := ⟨by kernel_rfl, by kernel_rfl, by kernel_rfl⟩
theorem gavNL : gavN ≠ gavL := by decide
theorem pex1_builtS : buildR textL.data.toList = .ok pex1 [] := by kernel_rfl
theorem pex1_readS : readE pex1 = none := by kernel_rfl
theorem pex1_artS : (readV pex1).artifact = ⟨#[97]⟩ := by kernel_rfl
theorem eql_prbS (w : World) : (binOp .eql 53 (.agg #[.int .i64 0, .string ⟨#[]⟩, .string ⟨#[]⟩, .string ⟨#[]⟩, .int .i64 0, .int .i64 0, .int .i64 0, .string ⟨#[]⟩]) (.agg #[.int .i64 0, .string ⟨#[]⟩, .string ⟨#[]⟩, .string ⟨#[]⟩, .int .i64 0, .int .i64 0, .int .i64 0, .string ⟨#[]⟩])).run Tryz.prog w = .ok (.bool true) w := by
 have h := eqs_prbS
 simp [go_sem, h]
attribute [local go_sem ↓] eqg_prbS eql_prbS in
set_option maxRecDepth 100000 in
set_option maxHeartbeats 16000000 in
theorem storeLives_any (m : Int) (w : World) (hm : w.cell? ⟨0, 0, none⟩ = some (.int .i64 m)) : Calls Tryz.prog 14 #[] w fun e w' => e = .returned (.bool true) ∧ Below w.heap.size w w' := by
 have hw0 : 0 < w.heap.size := World.block_lt_of_cell? w _ hm
 have HM := Lib.hid hm
 have HW0 := Lib.hid hw0
 clear hm hw0
 go_enter Tryz.func14, Tryz.ntmps14
 go_wp2_with fail
 refine (new_any w).mono ?_
 rintro e w1 ⟨b, F, rfl, hS, hF, hb1⟩
 have HS1 := Lib.hid hS
 have HF := Lib.hid hF
 have HB1 := Lib.hid hb1
 clear hS hF hb1
 unfold ptr
 go_upto_region 3 with fail
 refine wp_world ?_
 intro W hW
 have x1 : Box W w1.heap.size [.string ⟨#[103]⟩, .string ⟨#[97]⟩, .string ⟨#[49]⟩] := by rw [hW]; exact Box.new w1 [.string ⟨#[103]⟩, .string ⟨#[97]⟩, .string ⟨#[49]⟩] _ _ rfl
 have hb : Below w1.heap.size w1 W := by rw [hW]; exact (Below.refl _ w1).alloc (Nat.le_refl _) _
 clear hW
 have HS2 := Lib.hid (HS1.out.below hb)
 have HB2 := Lib.hid (HB1.out.trans (hb.mono HB1.out.size))
 have HFK : Hid (¬ F w1.heap.size) := fun h => by
  obtain ⟨_, _, _, _, _, _, h1⟩ := HS1.out
  have := h1.lt _ h; omega
 have HK1 : Hid (w.heap.size ≤ w1.heap.size) := HB1.out.size
 obtain ⟨K, hK⟩ : ∃ K, K = w1.heap.size := ⟨_, rfl⟩
 rw [← hK] at x1 HFK HK1
 rw [← hK]
 clear hb hK HS1 HB1
 have HX := Lib.hid x1
 obtain ⟨k0, k1, k2⟩ := bxc3 x1
 have kl := x1.lt
 clear x1
 go_wp2_with fail
 refine (put_any gavL textL W HS2.out ⟨by decide, by decide, by decide⟩).mono ?_
 rintro e w2 ⟨rfl, ho, F2, es2, hS, hF2, -, hes⟩
 have hpe : putE [] gavL = 0 := by kernel_rfl
 obtain ⟨eb, rfl⟩ := hes hpe
 rw [hpe]
 have HS3 := Lib.hid hS
 have HF3 : Hid (∀ k, k < W.heap.size → F2 k → F k) := hF2
 have HX3 := Lib.hid (HX.out.only ho HFK.out)
 have HB3 := Lib.hid (HB2.out.trans (ho.below HB2.out.size HF.out))
 have HKL : Hid (K < W.heap.size) := kl
 clear ho hS hF2 hes hpe k0 k1 k2 kl HX HS2 HB2
 have HN3 : Hid (¬ F2 K) := fun h => HFK.out (HF3.out K HKL.out h)
 have HF4 : Hid (∀ k, F2 k → w.heap.size ≤ k) := fun k hk => by
  by_cases h : k < W.heap.size
  · exact HF.out k (HF3.out k h hk)
  · have := HKL.out; have := HK1.out; omega
 obtain ⟨k0, k1, k2⟩ := bxc3 HX3.out
 have kl := HX3.out.lt
 obtain ⟨me, mv, L, cl, V, cv, hin⟩ := HS3.out
 have HIN := Lib.hid hin
 clear hin HS3
 go_wp2_with fail
 refine (pom_yes gavL w2 (i := 0) (eb := eb) (e0 := freshE gavL textL) (e1 := ⟨gavL, textL, true, readV pex1, probZ⟩) (r' := 1) HIN.out rfl rfl rfl ⟨rfl, pex1_lists⟩ ?_ (by decide) (by decide)).mono ?_
 · intro G X vs ve vg hS hG ho h1 h2 h3 n1 n2 n3
   have hb0 : (0 : Nat) ≠ b := fun e => by have := HF4.out b HIN.out.own.1; have := HW0.out; omega
   refine do_fresh (F := fun k => F2 k ∨ G k) (r := 0) (t := pex1) (q := []) (m := m) hS rfl h1 h2 h3 n1 n2 n3 (fun h => ?_) (by decide) (by decide) (by decide) pex1_builtS pex1_mild pex1_readS ?_
   · have hw0 := HW0.out
     have h9 := HB3.out.size
     rcases h with h | h
     · have := HF4.out 0 h; omega
     · have := hG 0 h; omega
   · have h9 := HB3.out.size
     have hw0 := HW0.out
     exact (World.cell?_of_block (by exact ho.block 0 (by omega) hb0)).trans ((HB3.out.cell (by exact HW0.out)).trans HM.out)
 obtain ⟨p, hp, hpa, hpl⟩ : ∃ p, readV pex1 = p ∧ p.artifact = ⟨#[97]⟩ ∧ p.props = [] ∧ p.managed = [] ∧ p.deps = [] := ⟨_, rfl, pex1_artS, pex1_lists⟩
 rw [hp]
 rintro e w3 ⟨⟨a11, c11, a12, c12, a13, c13, rfl⟩, hS3, ho3⟩
 dsimp only [probZ, probC, gavZ, noS]
 rw [hpa]
 have HS4 : Hid (StoreAt F2 w3 b [(⟨gavL, textL, true, p, probZ⟩, eb)] 1 1) := hS3
 have HPL := Lib.hid hpl
 have HX4 := Lib.hid (HX3.out.only ho3 HN3.out)
 have HB4 := Lib.hid (HB3.out.trans (ho3.below HB3.out.size HF4.out))
 clear k0 k1 k2 kl HX3 HIN HB3 HF3 hS3 ho3 hpl hp hpa
 go_upto_region 5 with fail
 refine wp_world ?_
 intro W4 hW4
 have y1 : Box W4 w3.heap.size [.bool p.hasParent, .string p.parent.group, .string p.parent.artifact, .string p.parent.version, .string p.group, .string ⟨#[97]⟩, .string p.version, .string p.packaging, .slice a11 0 c11, .slice a12 0 c12, .slice a13 0 c13] := by rw [hW4]; exact (Box.new w3 [.bool p.hasParent, .string p.parent.group, .string p.parent.artifact, .string p.parent.version, .string p.group, .string ⟨#[97]⟩, .string p.version, .string p.packaging, .slice a11 0 c11, .slice a12 0 c12, .slice a13 0 c13] _ _ rfl).alloc _
 have y2 : Box W4 (w3.heap.size + 1) [.int .i64 0, .string ⟨#[]⟩, .string ⟨#[]⟩, .string ⟨#[]⟩, .int .i64 0, .int .i64 0, .int .i64 0, .string ⟨#[]⟩] := by rw [hW4]; exact Box.new _ [.int .i64 0, .string ⟨#[]⟩, .string ⟨#[]⟩, .string ⟨#[]⟩, .int .i64 0, .int .i64 0, .int .i64 0, .string ⟨#[]⟩] _ _ (by simp)
 have hb4 : Below w3.heap.size w3 W4 := by rw [hW4]; exact ((Below.refl _ w3).alloc (Nat.le_refl _) _).alloc (by simp) _
 clear hW4
 have HL3 : Hid (∀ k, F2 k → k < w3.heap.size) := by
  obtain ⟨_, _, _, _, _, _, h1⟩ := HS4.out
  exact h1.lt
 have HS5 := Lib.hid (HS4.out.below hb4)
 have HX5 := Lib.hid (HX4.out.below hb4 HX4.out.lt)
 have HB5 := Lib.hid (HB4.out.trans (hb4.mono HB4.out.size))
 have HY1 := Lib.hid y1
 have HY2 := Lib.hid y2
 clear y1 y2 hb4 HS4 HX4 HB4
 obtain ⟨k0, k1, k2⟩ := bxc3 HX5.out
 have kl := HX5.out.lt
 obtain ⟨me, mv, L, cl, V, cv, hin⟩ := HS5.out
 have HIN := Lib.hid hin
 clear hin HS5
 go_wp2_with fail
 refine (pom_yes gavL W4 (i := 0) (eb := eb) (e0 := ⟨gavL, textL, true, p, probZ⟩) (e1 := ⟨gavL, textL, true, p, probZ⟩) (r' := 1) HIN.out rfl rfl rfl ⟨rfl, HPL.out⟩ ?_ (by decide) (by decide)).mono ?_
 · intro G X vs ve vg hS hG ho h1 h2 h3 n1 n2 n3
   obtain ⟨pv1, mv1, dv1, hE, -⟩ := hS.ent _ (List.mem_singleton.2 rfl)
   refine (do_done eb _ X (hE.cell 1 _ rfl)).mono ?_
   rintro e w' ⟨rfl, rfl⟩
   exact ⟨rfl, hS, Only.refl _ _⟩
 rintro e w5 ⟨⟨b11, d11, b12, d12, b13, d13, rfl⟩, hS6, ho6⟩
 have HS6 : Hid (StoreAt F2 w5 b [(⟨gavL, textL, true, p, probZ⟩, eb)] 1 2) := hS6
 have HX6 := Lib.hid (HX5.out.only ho6 HN3.out)
 have HY3 := Lib.hid (HY1.out.only ho6 (fun h => by have := HL3.out _ h; omega))
 have HY4 := Lib.hid (HY2.out.only ho6 (fun h => by have := HL3.out _ h; omega))
 have HB6 := Lib.hid (HB5.out.trans (ho6.below HB5.out.size HF4.out))
 clear k0 k1 k2 kl HX5 HIN HB5 hS6 ho6 HY1 HY2
 obtain ⟨me, mv, L, cl, V, cv, hin⟩ := HS6.out
 have HIN := Lib.hid hin
 clear hin HS6
 go_wp2_with fail
 refine (pom_no gavN w5 HIN.out (by simp [hasG, gavNL]) (by decide) (by decide)).mono ?_
 rintro e w6 ⟨⟨b21, d21, b22, d22, b23, d23, rfl⟩, hS7, ho7⟩
 dsimp only [pomZ, probC, gavZ, gavN, noS]
 have HS7 : Hid (StoreAt F2 w6 b [(⟨gavL, textL, true, p, probZ⟩, eb)] 1 3) := hS7
 have HY5 := Lib.hid (HY3.out.only ho7 (fun h => by have := HL3.out _ h; omega))
 have HY6 := Lib.hid (HY4.out.only ho7 (fun h => by have := HL3.out _ h; omega))
 have HB7 := Lib.hid (HB6.out.trans (ho7.below HB6.out.size HF4.out))
 clear HX6 HIN HB6 hS7 ho7 HY3 HY4
 go_upto_region 7 with fail
 refine wp_world ?_
 intro W7 hW7
 have z2 : Box W7 (w6.heap.size + 1) [.int .i64 25, .string ⟨#[103]⟩, .string ⟨#[97]⟩, .string ⟨#[50]⟩, .int .i64 0, .int .i64 0, .int .i64 0, .string ⟨#[]⟩] := by rw [hW7]; exact Box.new _ [.int .i64 25, .string ⟨#[103]⟩, .string ⟨#[97]⟩, .string ⟨#[50]⟩, .int .i64 0, .int .i64 0, .int .i64 0, .string ⟨#[]⟩] _ _ (by simp)
 have hb7 : Below w6.heap.size w6 W7 := by rw [hW7]; exact ((Below.refl _ w6).alloc (Nat.le_refl _) _).alloc (by simp) _
 clear hW7
 have HS8 := Lib.hid (HS7.out.below hb7)
 have HB8 := Lib.hid (HB7.out.trans (hb7.mono HB7.out.size))
 have y := HY5.out.below hb7 HY5.out.lt
 have q := HY6.out.below hb7 HY6.out.lt
 clear hb7 HS7 HB7 HY5 HY6
 have y5 := y.cell 5 _ rfl
 have yl := y.lt
 obtain ⟨q0, q1, q2, q3, q4, q5, q6, q7⟩ := bxc8 q
 have ql := q.lt
 have z0 := z2.cell 0 _ rfl
 have zl := z2.lt
 clear y q z2
 go_wp2_with fail
 refine (reads_any _ HS8.out).mono ?_
 rintro e w8 ⟨rfl, hb8⟩
 have HS9 := Lib.hid (HS8.out.below hb8)
 have HB9 := Lib.hid (HB8.out.trans (hb8.mono HB8.out.size))
 clear hb8 HS8 HB8 y5 yl q0 q1 q2 q3 q4 q5 q6 q7 ql z0 zl
 go_wp2_with fail
 refine (asks_any _ HS9.out).mono ?_
 rintro e w9 ⟨rfl, hb9⟩
 go_wp2
 go_ret
 exact ⟨rfl, HB9.out.trans (hb9.mono HB9.out.size)⟩

end Go.Proofs.YtphaeegbmfpcgaaGreatDoor
