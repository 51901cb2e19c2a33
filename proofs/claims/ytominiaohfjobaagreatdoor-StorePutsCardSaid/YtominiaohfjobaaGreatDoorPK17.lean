/- What store.Pom answers of a project that there is; the conditions stand in the theorems. -/
import Derived.Test.YtominiaohfjobaaGreatDoorPK16
import Derived.Test.YtominiaohfjobaaGreatDoorPK15
import Derived.KernelRfl
set_option maxRecDepth 100000
set_option maxHeartbeats 64000000
namespace Go.Proofs.YtominiaohfjobaaGreatDoor
open Go Go.RowKit
def iV (b eb me:Nat) (g:bp) (x0 x1 x2 x3 x4 x5 x7 x8 x9 x10 x11 x12 x13 x14 x15 x16 x17 x18 x19 x26 x27 x28 x29 x30 x31 x32 x33 x34 x35 x36 x37 x38 x39:Value) (f0 f1 f2 f3 f4 f5 f6 _f7:Bool) (E:Nat):Act :=
 ⟨#[x0,x1,x2,x3,x4,x5,cond f6 (.pointer (some ⟨E,0,none⟩)) undef,x7,x8,x9,x10,x11,x12,x13,x14,x15,x16,x17,x18,x19,cond f0 (.pointer (some ⟨b,0,none⟩)) undef,cond f1 (.pointer (some ⟨b,0,none⟩)) undef,cond f2 (.pointer (some ⟨b,0,none⟩)) undef,cond f3 (.map (some me)) undef,cond f4 (.agg #[.string g.group,.string g.artifact,.string g.version]) undef,cond f5 (.pointer (some ⟨eb,0,none⟩)) undef,x26,x27,x28,x29,x30,x31,x32,x33,x34,x35,x36,x37,x38,x39],[]⟩
inductive wg (b eb me mv H:Nat) (r a:Int) (g:bp) (L:List (aF bp)) (cl:Nat) (V:World) (x0 x1 x2 x3 x4 x5 x7 x8 x9 x10 x11 x12 x13 x14 x15 x16 x17 x18 x19 x26 x27 x28 x29 x30 x31 x32 x33 x34 x35 x36 x37 x38 x39:Value):Array Bool→Act→World→Prop where
 | mk (f0 f1 f2 f3 f4 f5 f6 f7:Bool) (E:Nat) (w':World) (ch1:Hid (f1=true→f0=true)) (ch2:Hid (f2=true→f1=true)) (ch3:Hid (f3=true→f2=true)) (ch5:Hid (f5=true→f3=true∧f4=true)) (ch7:Hid (f7=true→f6=true∧f5=true∧f0=true∧f1=true∧f2=true∧f3=true∧f4=true)) (hB:Below V.heap.size V w') (rs:ak w' H [.pointer (some ⟨b,0,none⟩)]) (rb:ak w' b [.map (some me),.map (some mv),.int .i64 r,.int .i64 (a+1)]) (rg:ak w' (H+1) [.string g.group,.string g.artifact,.string g.version]) (rm:de fY w' me L cl) (rx:(f6=true→f7=false→gm V.heap.size w' E [.pointer none])) (rz:(f7=true→gm V.heap.size w' E [.pointer (some ⟨eb,0,none⟩)])):wg b eb me mv H r a g L cl V x0 x1 x2 x3 x4 x5 x7 x8 x9 x10 x11 x12 x13 x14 x15 x16 x17 x18 x19 x26 x27 x28 x29 x30 x31 x32 x33 x34 x35 x36 x37 x38 x39 #[f0,f1,f2,f3,f4,f5,f6,f7] (iV b eb me g x0 x1 x2 x3 x4 x5 x7 x8 x9 x10 x11 x12 x13 x14 x15 x16 x17 x18 x19 x26 x27 x28 x29 x30 x31 x32 x33 x34 x35 x36 x37 x38 x39 f0 f1 f2 f3 f4 f5 f6 f7 E) w'
theorem wg.at {b eb me mv H:Nat} {r a:Int} {g:bp} {L:List (aF bp)} {cl:Nat} {V:World} {x0 x1 x2 x3 x4 x5 x7 x8 x9 x10 x11 x12 x13 x14 x15 x16 x17 x18 x19 x26 x27 x28 x29 x30 x31 x32 x33 x34 x35 x36 x37 x38 x39:Value} {A:Array Bool} {D:Act} {w':World} (f0 f1 f2 f3 f4 f5 f6 f7:Bool) (E:Nat) (I:A=#[f0,f1,f2,f3,f4,f5,f6,f7]) (ha:D=iV b eb me g x0 x1 x2 x3 x4 x5 x7 x8 x9 x10 x11 x12 x13 x14 x15 x16 x17 x18 x19 x26 x27 x28 x29 x30 x31 x32 x33 x34 x35 x36 x37 x38 x39 f0 f1 f2 f3 f4 f5 f6 f7 E) (ch1:Hid (f1=true→f0=true)) (ch2:Hid (f2=true→f1=true)) (ch3:Hid (f3=true→f2=true)) (ch5:Hid (f5=true→f3=true∧f4=true)) (ch7:Hid (f7=true→f6=true∧f5=true∧f0=true∧f1=true∧f2=true∧f3=true∧f4=true)) (hB:Below V.heap.size V w') (rs:ak w' H [.pointer (some ⟨b,0,none⟩)]) (rb:ak w' b [.map (some me),.map (some mv),.int .i64 r,.int .i64 (a+1)]) (rg:ak w' (H+1) [.string g.group,.string g.artifact,.string g.version]) (rm:de fY w' me L cl) (rx:(f6=true→f7=false→gm V.heap.size w' E [.pointer none])) (rz:(f7=true→gm V.heap.size w' E [.pointer (some ⟨eb,0,none⟩)])):wg b eb me mv H r a g L cl V x0 x1 x2 x3 x4 x5 x7 x8 x9 x10 x11 x12 x13 x14 x15 x16 x17 x18 x19 x26 x27 x28 x29 x30 x31 x32 x33 x34 x35 x36 x37 x38 x39 A D w':=by
 subst I ha;exact .mk f0 f1 f2 f3 f4 f5 f6 f7 E w' ch1 ch2 ch3 ch5 ch7 hB rs rb rg rm rx rz
def fT (eb:Nat) (hp:Bool) (q1 q2 q3 q4 q5 q6 q7:S) (a1:Option Addr) (n1 c1:Nat) (a2:Option Addr) (n2 c2:Nat) (a3:Option Addr) (n3 c3:Nat) (o0:Int) (o1 o2 o3:S) (o4 o5 o6:Int) (o7:S) (x0 x1 x2 x3 x4 x5 x6 x7 x8 x9 x10 x11 x12 x13 x14 x15 x16 x17 x18 x19 x20 x21 x22 x23 x24 x25 x26 x27 x28 x29 x30:Value) (f0 f1 f2 f3 f4 f5 f6 f7 f8 _f9 _f10:Bool) (u1:Option Addr) (v1:Nat) (u2:Option Addr) (v2:Nat) (u3:Option Addr) (v3:Nat):Act :=
 ⟨#[x0,x1,x2,x3,x4,x5,x6,x7,x8,x9,x10,x11,x12,x13,x14,x15,x16,x17,x18,x19,x20,x21,x22,x23,x24,x25,x26,x27,x28,x29,x30,cond f0 (.pointer (some ⟨eb,0,none⟩)) undef,cond f1 (.pointer (some ⟨eb,0,none⟩)) undef,cond f2 (.pointer (some ⟨eb,4,none⟩)) undef,cond f3 (.agg #[.bool hp,.string q1,.string q2,.string q3,.string q4,.string q5,.string q6,.string q7,.slice a1 n1 c1,.slice a2 n2 c2,.slice a3 n3 c3]) undef,cond f4 (.agg #[.bool hp,.string q1,.string q2,.string q3,.string q4,.string q5,.string q6,.string q7,.slice u1 0 v1,.slice u2 0 v2,.slice u3 0 v3]) undef,cond f5 (.pointer (some ⟨eb,0,none⟩)) undef,cond f6 (.pointer (some ⟨eb,0,none⟩)) undef,cond f7 (.pointer (some ⟨eb,15,none⟩)) undef,cond f8 (.agg #[.int .i64 o0,.string o1,.string o2,.string o3,.int .i64 o4,.int .i64 o5,.int .i64 o6,.string o7]) undef],[]⟩
inductive tf (eb E H:Nat) (s:S) (hp:Bool) (q1 q2 q3 q4 q5 q6 q7:S) (a1:Option Addr) (n1 c1:Nat) (a2:Option Addr) (n2 c2:Nat) (a3:Option Addr) (n3 c3:Nat) (o0:Int) (o1 o2 o3:S) (o4 o5 o6:Int) (o7:S) (V:World) (x0 x1 x2 x3 x4 x5 x6 x7 x8 x9 x10 x11 x12 x13 x14 x15 x16 x17 x18 x19 x20 x21 x22 x23 x24 x25 x26 x27 x28 x29 x30:Value):Array Bool→Act→World→Prop where
 | mk (f0 f1 f2 f3 f4 f5 f6 f7 f8 f9 f10:Bool) (u1:Option Addr) (v1:Nat) (u2:Option Addr) (v2:Nat) (u3:Option Addr) (v3:Nat) (w':World) (ch1:Hid (f1=true→f0=true)) (ch2:Hid (f2=true→f1=true)) (ch3:Hid (f3=true→f2=true)) (ch4:Hid (f4=true→f3=true)) (ch6:Hid (f6=true→f5=true)) (ch7:Hid (f7=true→f6=true)) (ch8:Hid (f8=true→f7=true)) (ch9:Hid (f9=true→f4=true∧f0=true∧f1=true∧f2=true∧f3=true)) (ch10:Hid (f10=true→f8=true∧f9=true∧f0=true∧f1=true∧f2=true∧f3=true∧f4=true∧f5=true∧f6=true∧f7=true)) (hB:(f9=false→Below V.heap.size V w')) (rE:ak w' E [.pointer (some ⟨eb,0,none⟩)]) (re:ak w' eb [.string s,.int .u32 1,.int .i32 0,.int .u32 0,.bool hp,.string q1,.string q2,.string q3,.string q4,.string q5,.string q6,.string q7,.slice a1 n1 c1,.slice a2 n2 c2,.slice a3 n3 c3,.int .i64 o0,.string o1,.string o2,.string o3,.int .i64 o4,.int .i64 o5,.int .i64 o6,.string o7]) (rp:(f9=false→ak w' (H+2) [.bool false,.string ⟨#[]⟩,.string ⟨#[]⟩,.string ⟨#[]⟩,.string ⟨#[]⟩,.string ⟨#[]⟩,.string ⟨#[]⟩,.string ⟨#[]⟩,.slice none 0 0,.slice none 0 0,.slice none 0 0])) (rf:(f9=true→ak w' (H+2) [.bool hp,.string q1,.string q2,.string q3,.string q4,.string q5,.string q6,.string q7,.slice u1 0 v1,.slice u2 0 v2,.slice u3 0 v3])) (rr:(f10=false→ak w' (H+3) [.int .i64 0,.string ⟨#[]⟩,.string ⟨#[]⟩,.string ⟨#[]⟩,.int .i64 0,.int .i64 0,.int .i64 0,.string ⟨#[]⟩])) (rh:(f10=true→ak w' (H+3) [.int .i64 o0,.string o1,.string o2,.string o3,.int .i64 o4,.int .i64 o5,.int .i64 o6,.string o7])) (bw:aV (fun k=>k=H+2∨k=H+3) V w'):tf eb E H s hp q1 q2 q3 q4 q5 q6 q7 a1 n1 c1 a2 n2 c2 a3 n3 c3 o0 o1 o2 o3 o4 o5 o6 o7 V x0 x1 x2 x3 x4 x5 x6 x7 x8 x9 x10 x11 x12 x13 x14 x15 x16 x17 x18 x19 x20 x21 x22 x23 x24 x25 x26 x27 x28 x29 x30 #[f0,f1,f2,f3,f4,f5,f6,f7,f8,f9,f10] (fT eb hp q1 q2 q3 q4 q5 q6 q7 a1 n1 c1 a2 n2 c2 a3 n3 c3 o0 o1 o2 o3 o4 o5 o6 o7 x0 x1 x2 x3 x4 x5 x6 x7 x8 x9 x10 x11 x12 x13 x14 x15 x16 x17 x18 x19 x20 x21 x22 x23 x24 x25 x26 x27 x28 x29 x30 f0 f1 f2 f3 f4 f5 f6 f7 f8 f9 f10 u1 v1 u2 v2 u3 v3) w'
theorem tf.at {eb E H:Nat} {s:S} {hp:Bool} {q1 q2 q3 q4 q5 q6 q7:S} {a1:Option Addr} {n1 c1:Nat} {a2:Option Addr} {n2 c2:Nat} {a3:Option Addr} {n3 c3:Nat} {o0:Int} {o1 o2 o3:S} {o4 o5 o6:Int} {o7:S} {V:World} {x0 x1 x2 x3 x4 x5 x6 x7 x8 x9 x10 x11 x12 x13 x14 x15 x16 x17 x18 x19 x20 x21 x22 x23 x24 x25 x26 x27 x28 x29 x30:Value} {A:Array Bool} {D:Act} {w':World} (f0 f1 f2 f3 f4 f5 f6 f7 f8 f9 f10:Bool) (u1:Option Addr) (v1:Nat) (u2:Option Addr) (v2:Nat) (u3:Option Addr) (v3:Nat) (I:A=#[f0,f1,f2,f3,f4,f5,f6,f7,f8,f9,f10]) (ha:D=fT eb hp q1 q2 q3 q4 q5 q6 q7 a1 n1 c1 a2 n2 c2 a3 n3 c3 o0 o1 o2 o3 o4 o5 o6 o7 x0 x1 x2 x3 x4 x5 x6 x7 x8 x9 x10 x11 x12 x13 x14 x15 x16 x17 x18 x19 x20 x21 x22 x23 x24 x25 x26 x27 x28 x29 x30 f0 f1 f2 f3 f4 f5 f6 f7 f8 f9 f10 u1 v1 u2 v2 u3 v3) (ch1:Hid (f1=true→f0=true)) (ch2:Hid (f2=true→f1=true)) (ch3:Hid (f3=true→f2=true)) (ch4:Hid (f4=true→f3=true)) (ch6:Hid (f6=true→f5=true)) (ch7:Hid (f7=true→f6=true)) (ch8:Hid (f8=true→f7=true)) (ch9:Hid (f9=true→f4=true∧f0=true∧f1=true∧f2=true∧f3=true)) (ch10:Hid (f10=true→f8=true∧f9=true∧f0=true∧f1=true∧f2=true∧f3=true∧f4=true∧f5=true∧f6=true∧f7=true)) (hB:(f9=false→Below V.heap.size V w')) (rE:ak w' E [.pointer (some ⟨eb,0,none⟩)]) (re:ak w' eb [.string s,.int .u32 1,.int .i32 0,.int .u32 0,.bool hp,.string q1,.string q2,.string q3,.string q4,.string q5,.string q6,.string q7,.slice a1 n1 c1,.slice a2 n2 c2,.slice a3 n3 c3,.int .i64 o0,.string o1,.string o2,.string o3,.int .i64 o4,.int .i64 o5,.int .i64 o6,.string o7]) (rp:(f9=false→ak w' (H+2) [.bool false,.string ⟨#[]⟩,.string ⟨#[]⟩,.string ⟨#[]⟩,.string ⟨#[]⟩,.string ⟨#[]⟩,.string ⟨#[]⟩,.string ⟨#[]⟩,.slice none 0 0,.slice none 0 0,.slice none 0 0])) (rf:(f9=true→ak w' (H+2) [.bool hp,.string q1,.string q2,.string q3,.string q4,.string q5,.string q6,.string q7,.slice u1 0 v1,.slice u2 0 v2,.slice u3 0 v3])) (rr:(f10=false→ak w' (H+3) [.int .i64 0,.string ⟨#[]⟩,.string ⟨#[]⟩,.string ⟨#[]⟩,.int .i64 0,.int .i64 0,.int .i64 0,.string ⟨#[]⟩])) (rh:(f10=true→ak w' (H+3) [.int .i64 o0,.string o1,.string o2,.string o3,.int .i64 o4,.int .i64 o5,.int .i64 o6,.string o7])) (bw:aV (fun k=>k=H+2∨k=H+3) V w'):tf eb E H s hp q1 q2 q3 q4 q5 q6 q7 a1 n1 c1 a2 n2 c2 a3 n3 c3 o0 o1 o2 o3 o4 o5 o6 o7 V x0 x1 x2 x3 x4 x5 x6 x7 x8 x9 x10 x11 x12 x13 x14 x15 x16 x17 x18 x19 x20 x21 x22 x23 x24 x25 x26 x27 x28 x29 x30 A D w':=by
 subst I ha;exact .mk f0 f1 f2 f3 f4 f5 f6 f7 f8 f9 f10 u1 v1 u2 v2 u3 v3 w' ch1 ch2 ch3 ch4 ch6 ch7 ch8 ch9 ch10 hB rE re rp rf rr rh bw
def BI (F:Nat→Prop) (w:World) (b me mv:Nat) (L:List (aF bp)) (cl:Nat) (V:List (aF Id)) (cv:Nat) (es:List (bF × Nat)) (r a r':Int) (i eb:Nat) (g:bp) (e1:bF):Prop :=
 ∀ (G:Nat→Prop) (W:World) (A D vg:Nat),aU (fun k=>F k∨G k) W b me mv L cl V cv es r a→(∀ k,G k→w.heap.size≤k)→aV (fun k=>k=b) w W→ak W A [.pointer (some ⟨b,0,none⟩)]→ak W D [.pointer (some ⟨eb,0,none⟩)]→ak W vg [.string g.group,.string g.artifact,.string g.version] → ¬ (F A∨G A) → ¬ (F D∨G D) → ¬ (F vg∨G vg) →
  Calls Tryz.prog 35 #[.pointer (some ⟨eb,1,none⟩),.func (.func 36) #[] #[.pointer (some ⟨A,0,none⟩),.pointer (some ⟨D,0,none⟩),.pointer (some ⟨vg,0,none⟩)]] W fun e w'=>e = .returned (.tuple #[])∧aU (fun k=>F k∨G k) w' b me mv L cl V cv (es.set i (e1,eb)) r' a∧aV (fun k=>k=b∨k=eb) W w'
theorem uU (g:bp) (w:World) {F:Nat→Prop} {b me mv:Nat} {L:List (aF bp)} {cl:Nat} {V:List (aF Id)} {cv:Nat} {es:List (bF × Nat)} {r a r':Int} {i eb:Nat} {e0 e1:bF} (h:aU F w b me mv L cl V cv es r a) (hf:es.find? (fun e=>decide (g=e.1.gav))=some (e0,eb)) (hi:es[i]? = some (e0,eb)) (em:e1.gav=e0.gav)
    (hz:e1.done=true∧e1.pom.props=[]∧e1.pom.managed=[]∧e1.pom.deps=[]) (bo:BI F w b me mv L cl V cv es r (a+1) r' i eb g e1) (ou:0≤a) (oo:a<4611686018427387904) :
    Calls Tryz.prog 19 #[jr b,.agg #[.string g.group,.string g.artifact,.string g.version]] w (zA F b (es.set i (e1,eb)) r' (a+1) e1.pom e1.prob w):=by
 have ih:Hid (je es g=true):=by show _=_; unfold je; rw [hf]; rfl
 have dl:=h.get g;rw [hf] at dl;have h9:Hid (∀ w',de fY w' me L cl→(Instr.lookup 68 (.map (some me)) (.agg #[.string g.group,.string g.artifact,.string g.version]) false).run Tryz.prog w' = .ok (.pointer (some ⟨eb,0,none⟩)) w'):=fun w' h=>by rw [sA g h,dl]; rfl
 have HI:=zH hi;have iv:=zH em;have hU:=zH hz;have d8:Hid (F eb):=h.own.2.2.2 _ (List.mem_of_getElem? hi);have oj : ∀ (fn:Fn) (first cap:Array Value) (w:World),(Instr.makeFunc fn first cap).run Tryz.prog w = .ok (.func fn first cap) w:=fun _ _ _ _=>rfl;have hj:=zH bo;clear hf hi em hz dl bo;have hw:IntKind.i64.wrap (a+1)=a+1:=IntWalk.i64_in _ (by omega);have HW:=zH hw;have HS:=zH h;clear hw h;unfold jr;go_enter Tryz.func19,Tryz.ntmps19
 go_upto_region 1 with fail
 refine ai fun W hW=>?_
 have x0:ak W w.heap.size [.pointer (some ⟨b,0,none⟩)]:=by rw [hW]; exact (((ak.new w [.pointer (some ⟨b,0,none⟩)] _ _ rfl).alloc _).alloc _).alloc _
 have x1:ak W (w.heap.size+1) [.string g.group,.string g.artifact,.string g.version]:=by rw [hW]; exact ((ak.new _ [.string g.group,.string g.artifact,.string g.version] _ _ (by simp)).alloc _).alloc _
 have x2:ak W (w.heap.size+2) [.bool false,.string ⟨#[]⟩,.string ⟨#[]⟩,.string ⟨#[]⟩,.string ⟨#[]⟩,.string ⟨#[]⟩,.string ⟨#[]⟩,.string ⟨#[]⟩,.slice none 0 0,.slice none 0 0,.slice none 0 0]:=by rw [hW]; exact (ak.new _ [.bool false,.string ⟨#[]⟩,.string ⟨#[]⟩,.string ⟨#[]⟩,.string ⟨#[]⟩,.string ⟨#[]⟩,.string ⟨#[]⟩,.string ⟨#[]⟩,.slice none 0 0,.slice none 0 0,.slice none 0 0] _ _ (by simp)).alloc _
 have x3:ak W (w.heap.size+3) [.int .i64 0,.string ⟨#[]⟩,.string ⟨#[]⟩,.string ⟨#[]⟩,.int .i64 0,.int .i64 0,.int .i64 0,.string ⟨#[]⟩]:=by rw [hW]; exact ak.new _ [.int .i64 0,.string ⟨#[]⟩,.string ⟨#[]⟩,.string ⟨#[]⟩,.int .i64 0,.int .i64 0,.int .i64 0,.string ⟨#[]⟩] _ _ (by simp)
 have hb:Below w.heap.size w W:=by rw [hW]; exact ((((Below.refl _ w).alloc (Nat.le_refl _) _).alloc (by simp) _).alloc (by simp; omega) _).alloc (by simp; omega) _
 clear hW;have hS:aU (fun k=>F k∨(k=w.heap.size+2∨k=w.heap.size+3)) W b me mv L cl V cv es r a:=HS.out.more hb (fun k hk=>hk.elim (fun e=>⟨by rw [e]; omega,by rw [e]; exact x2.lt⟩) (fun e=>⟨by rw [e]; omega,by rw [e]; exact x3.lt⟩));have dr:=HS.out.box.lt;have v0:=x0.cell 0 _ rfl;have vl:=x0.lt;have b3:=hS.box.cell 3 _ rfl;have b0:=hS.box.cell 0 _ rfl;have bl:=hS.box.lt;have ha:=ru ⟨b,3,none⟩ a 1 (a+1) W b3 (hS.box.free 3) HW.out;have hg:W.grownBy (W.setCell ⟨b,3,none⟩ (.int .i64 (a+1))) (some b):=ab _ _ _ _;have ex:=hS.counts (r':=r) (a':=a+1) (aV.grown (F:=fun k=>k=b) hg (by rintro k ⟨⟩; rfl)) (hS.box.setOne rfl (by simp));have cm:=zH (x0.grown hg (by simp; omega));have cf:=zH (x1.grown hg (by simp; omega));have d7:=zH (x2.grown hg (by simp; omega));have d6:=zH (x3.grown hg (by simp; omega));have g7:Hid (aV (fun k=>k=b) w _):=((aV.of (F:=fun k=>k=b) hb).trans (aV.grown hg (by rintro k ⟨⟩; rfl)) (fun _ _=>id));have a6:=zH ex;have HA:=zH ha;clear x0 x1 x2 x3 hb hS ha hg ex b3;generalize W.setCell ⟨b,3,none⟩ (.int .i64 (a+1))=W1 at *;go_wp2_with fail
 refine HA.out.mono ?_
 rintro e w1 ⟨rfl,rfl⟩;clear v0 vl b0 bl HA HW;have v0:=cm.out.cell 0 _ rfl;have vl:=cm.out.lt;obtain ⟨g0,g1,g2⟩:=ej cf.out;have gl:=cf.out.lt;go_wp2_with fail
 refine (qW g _ (⟨_,_,_,_,_,_,a6.out⟩:bR _ _ b es r (a+1))).mono ?_
 rintro e W2 ⟨rfl,U⟩;rw [ih.out];have a0:Hid (aU (fun k=>F k∨(k=w.heap.size+2∨k=w.heap.size+3)) W2 b me mv L cl V cv es r (a+1)):=a6.out.only (aV.of (F:=fun _=>False) U) (fun _ _=>id) fun e he=>(a6.out.ent e he).only (aV.of U) (fun _ _=>id) (U.block _ (a6.out.lt _ (a6.out.own.2.2.2 e he)));have ad:=zH (cm.out.below U vl);have ac:=zH (cf.out.below U gl);have al:=zH (d7.out.below U d7.out.lt);have aa:=zH (d6.out.below U d6.out.lt);have h4:=zH (g7.out.later U);clear v0 vl g0 g1 g2 gl U cm cf d7 d6 g7 a6;obtain ⟨H,hH⟩ : ∃ H,H=w.heap.size:=⟨_,rfl⟩;rw [← hH] at a0 ad ac al aa dr;rw [← hH];have ag:Hid (H=w.heap.size):=hH;have pb:Hid (b<H):=dr;clear hH dr
 have bo:=hj.out;unfold BI at bo;clear hj;have gc:=zH a0.out.box;have g9:=zH a0.out.ents;have h8:Hid (H<W2.heap.size):=ad.out.lt;have h7:Hid (b<W2.heap.size):=gc.out.lt;have h6:Hid (H+1<W2.heap.size):=ac.out.lt;have h5:Hid (me<W2.heap.size):=g9.out.lt;have hI:Hid (H+3<W2.heap.size):=aa.out.lt;go_upto_region 5 with fail
 refine bm (wg b eb me mv H r a g L cl W2 _ _ _ _ _ _ _ _ _ _ _ _ _ _ _ _ _ _ _ _ _ _ _ _ _ _ _ _ _ _ _ _ _) (by kernel_rfl) 8 rfl (by kernel_rfl) (wg.at false false false false false false false false (0) rfl (by unfold iV; rfl) ?i0 ?i1 ?i2 ?i3 ?i4 ?i5 ?i6 ?i7 ?i8 ?i9 ?i10 ?i11) ?fin ?step
 case i0=>exact zH (by simp)
 case i1=>exact zH (by simp)
 case i2=>exact zH (by simp)
 case i3=>exact zH (by simp)
 case i4=>exact zH (by simp)
 case i5=>exact aY (Below.refl _ _) 1
 case i6=>exact ad.out.drewN 1
 case i7=>exact gc.out.drewN 1
 case i8=>exact ac.out.drewN 1
 case i9=>exact g9.out
 case i10=>exact by simp
 case i11=>exact by simp
 case fin =>
  intro a' w' hJ;generalize hl:Array.replicate 8 true=Lz at hJ;cases hJ with
  | mk f0 f1 f2 f3 f4 f5 f6 f7 E _ ch1 ch2 ch3 ch5 ch7 hB rs rb rg rm rx rz =>
   have bg:[true,true,true,true,true,true,true,true]=[f0,f1,f2,f3,f4,f5,f6,f7]:=congrArg Array.toList hl;simp only [List.cons.injEq,and_true] at bg;obtain ⟨rfl,rfl,rfl,rfl,rfl,rfl,rfl,rfl⟩:=bg;clear hl;unfold iV;simp only [cond_true];have HZ:=zH (rz rfl);have Z:=zH hB;clear ch1 ch2 ch3 ch5 ch7 hB rs rb rg rm rx rz;have a7:=zH HZ.out.2;obtain ⟨W5,d0⟩ : ∃ W5:World,W5=w':=⟨_,rfl⟩;rw [← d0];rw [← d0] at a7 Z HZ;clear d0;have co:=zH HZ.out.1;clear HZ;have g4:Hid (aU (fun k=>F k∨(k=H+2∨k=H+3)) W5 b me mv L cl V cv es r (a+1)):=a0.out.only (aV.of (F:=fun _=>False) Z.out) (fun _ _=>id) fun e he=>(a0.out.ent e he).only (aV.of Z.out) (fun _ _=>id) (Z.out.block _ (a0.out.lt _ (a0.out.own.2.2.2 e he)));have g6:=zH (h4.out.later Z.out);have ad:=zH (ad.out.below Z.out ad.out.lt);have ac:=zH (ac.out.below Z.out ac.out.lt);have al:=zH (al.out.below Z.out al.out.lt);have aa:=zH (aa.out.below Z.out aa.out.lt);obtain ⟨nl,nu,pa,d4,-⟩:=g4.out.ent _ (List.mem_of_getElem? HI.out);have e0:=d4.cell 0 _ rfl;have el:=d4.lt;clear d4;have x0:=a7.out.cell 0 _ rfl;have xl:=a7.out.lt;have b9 : ∀ k,H≤k→k≠H+2→k≠H+3 → ¬ (F k∨(k=H+2∨k=H+3)):=fun k hk h2 h3 h=>h.elim (fun hF=>by have:=HS.out.lt k hF; have:=ag.out; omega) (fun h=>h.elim h2 h3);have b4:Hid (H+3<E):=by have:=hI.out; have:=co.out; show _<_; omega
   have HD:=zH (bo (fun k=>k=H+2∨k=H+3) W5 H E (H+1) g4.out (by rintro k (rfl | rfl) <;> (have:=ag.out; omega)) g6.out ad.out a7.out ac.out (b9 H (Nat.le_refl _) (by omega) (by omega)) (b9 E (by have:=b4.out; omega) (by have:=b4.out; omega) (by have:=b4.out; omega)) (b9 (H+1) (by omega) (by omega) (by omega)));clear b9;go_wp2_with fail
   refine HD.out.mono ?_
   rintro e W6 ⟨rfl,en,bc⟩
   have b8 : ∀ k,w.heap.size≤k → ¬ (k=b∨k=eb):=fun k hk h=>by
    rcases h with rfl | rfl
    · have:=HS.out.lt _ HS.out.own.1; omega
    · have:=HS.out.lt _ d8.out; omega
   have gv:=zH en;have g5:Hid (aV (fun k=>k=b∨k=eb) w W6):=(g6.out.mono (fun _ _=>Or.inl)).trans bc fun _ _=>id;have kn:=zH (a7.out.only bc (b8 E (by have:=b4.out; have:=ag.out; omega)));have al:=zH (al.out.only bc (b8 _ (by have:=ag.out; omega)));have aa:=zH (aa.out.only bc (b8 _ (by have:=ag.out; omega)))
   have ka:Hid (∀ e ∈ es.set i (e1,eb),F e.2):=fun e he=>by
    obtain ⟨y,hy,h1,-⟩:=mY HI.out iv.out he;rw [← h1]; exact HS.out.own.2.2.2 y hy
   have hP:=(List.getElem?_eq_some_iff.1 HI.out).1;obtain ⟨nc,nm,ow,ga,fz⟩:=gv.out.ent (e1,eb) (List.mem_of_getElem? (i:=i) (by rw [List.getElem?_set_self hP]));obtain ⟨base,b2⟩:=fz.own;obtain ⟨a1,n1,c1,a2,n2,c2,a3,n3,c3,rfl,rfl,rfl⟩:=b2.flat;have fv:=b2.props.slice ic;obtain ⟨L2,d3⟩:=b2.managed;obtain ⟨L3,d2⟩:=b2.deps;have eV:=d3.row.slice il;have eU:=d2.row.slice il;have ei:=d3.are;have eg:=d2.are;clear d3 d2 b2 fz en bc b8 e0 el x0 xl HD a7 ad ac;obtain ⟨g',s,dn,⟨hp,⟨q1,q2,q3⟩,q4,q5,q6,q7,ps,ms,ds⟩,⟨o0,⟨o1,o2,o3⟩,o4,o5,o6,o7⟩⟩:=e1;obtain ⟨rfl,rfl,rfl,rfl⟩:dn=true∧ps=[]∧ms=[]∧ds=[]:=hU.out;obtain rfl:=List.map_eq_nil_iff.1 ei;obtain rfl:=List.map_eq_nil_iff.1 eg;have hZ:Hid (af 2 gM W6 (.slice a1 n1 c1) []):=fv;have hY:Hid (af 8 gQ W6 (.slice a2 n2 c2) []):=eV;have hX:Hid (af 8 gQ W6 (.slice a3 n3 c3) []):=eU;have km:Hid (ak W6 eb [.string s,.int .u32 1,.int .i32 0,.int .u32 0,.bool hp,.string q1,.string q2,.string q3,.string q4,.string q5,.string q6,.string q7,.slice a1 n1 c1,.slice a2 n2 c2,.slice a3 n3 c3,.int .i64 o0,.string o1,.string o2,.string o3,.int .i64 o4,.int .i64 o5,.int .i64 o6,.string o7]):=ga;have g8:Hid (eb<H):=by have:=HS.out.lt _ d8.out; have:=ag.out; show _<_; omega
   have co:Hid (H+3<E):=b4;clear fv eV eU ga ei eg;go_upto_region 7 with fail
   refine bm (tf eb E H s hp q1 q2 q3 q4 q5 q6 q7 a1 n1 c1 a2 n2 c2 a3 n3 c3 o0 o1 o2 o3 o4 o5 o6 o7 W6 _ _ _ _ _ _ _ _ _ _ _ _ _ _ _ _ _ _ _ _ _ _ _ _ _ _ _ _ _ _ _) (by kernel_rfl) 11 rfl (by kernel_rfl) (tf.at false false false false false false false false false false false (none) (0) (none) (0) (none) (0) rfl (by unfold fT; rfl) ?j0 ?j1 ?j2 ?j3 ?j4 ?j5 ?j6 ?j7 ?j8 ?j9 ?j10 ?j11 ?j12 ?j13 ?j14 ?j15 ?j16) ?fin2 ?step2
   case j0=>exact zH (by simp)
   case j1=>exact zH (by simp)
   case j2=>exact zH (by simp)
   case j3=>exact zH (by simp)
   case j4=>exact zH (by simp)
   case j5=>exact zH (by simp)
   case j6=>exact zH (by simp)
   case j7=>exact zH (by simp)
   case j8=>exact zH (by simp)
   case j9=>exact fun h0=>aY (Below.refl _ _) 1
   case j10=>exact kn.out.drewN 1
   case j11=>exact km.out.drewN 1
   case j12=>exact fun _=>al.out.drewN 1
   case j13=>exact by simp
   case j14=>exact fun _=>aa.out.drewN 1
   case j15=>exact by simp
   case j16=>exact ⟨rfl,rfl,rfl,Nat.le_refl _,fun _ _ _=>rfl⟩
   case fin2 =>
    intro a' w' hJ;generalize hl:Array.replicate 11 true=Lz at hJ;cases hJ with
    | mk f0 f1 f2 f3 f4 f5 f6 f7 f8 f9 f10 u1 v1 u2 v2 u3 v3 _ ch1 ch2 ch3 ch4 ch6 ch7 ch8 ch9 ch10 hB rE re rp rf rr rh bw =>
     have bg:[true,true,true,true,true,true,true,true,true,true,true]=[f0,f1,f2,f3,f4,f5,f6,f7,f8,f9,f10]:=congrArg Array.toList hl;simp only [List.cons.injEq,and_true] at bg;obtain ⟨rfl,rfl,rfl,rfl,rfl,rfl,rfl,rfl,rfl,rfl,rfl⟩:=bg;clear hl;unfold fT;simp only [cond_true];have hd:=zH (rf rfl);have hc:=zH (rh rfl);have hq:=zH bw;clear ch1 ch2 ch3 ch4 ch6 ch7 ch8 ch9 ch10 hB rE re rp rf rr rh bw;obtain ⟨y0,y1,y2,y3,y4,y5,y6,y7,y8,y9,hL⟩:=rH hd.out;obtain ⟨z0,z1,z2,z3,z4,z5,z6,z7⟩:=xD hc.out;have yl:=hd.out.lt;have zl:=hc.out.lt;go_wp2
     refine bodyPost_ret (v:=.tuple #[.agg #[.bool hp,.string q1,.string q2,.string q3,.string q4,.string q5,.string q6,.string q7,.slice u1 0 v1,.slice u2 0 v2,.slice u3 0 v3],.agg #[.int .i64 o0,.string o1,.string o2,.string o3,.int .i64 o4,.int .i64 o5,.int .i64 o6,.string o7]]) (by simp [results,Tryz.results19,go_sem,y0,y1,y2,y3,y4,y5,y6,y7,y8,y9,hL,z0,z1,z2,z3,z4,z5,z6,z7]) rfl ?_
     exact ⟨⟨_,_,_,_,_,_,rfl⟩,⟨_,_,_,_,_,_,HS.out.back gv.out hq.out (fun _ h=>h) (by rintro k (rfl | rfl) <;> (have:=ag.out; omega)) g5.out.size ka.out⟩,(g5.out.mono (fun k _ e=>e.elim (fun e=>by rw [e]; exact HS.out.own.1) (fun e=>by rw [e]; exact d8.out))).trans hq.out (by rintro k hk (rfl | rfl) <;> (have:=ag.out; omega))⟩
   case step2 =>
    intro c9 a' w' hJ i hi;cases hJ with
    | mk f0 f1 f2 f3 f4 f5 f6 f7 f8 f9 f10 u1 v1 u2 v2 u3 v3 _ ch1 ch2 ch3 ch4 ch6 ch7 ch8 ch9 ch10 hB rE re rp rf rr rh bw =>
     rw [mem_ready] at hi;obtain ⟨A,o,ho,ha⟩:=hi;have hR:i<11:=(Array.getElem?_eq_some_iff.1 ho).1;rcases (by omega:i=0∨i=1∨i=2∨i=3∨i=4∨i=5∨i=6∨i=7∨i=8∨i=9∨i=10) with rfl | rfl | rfl | rfl | rfl | rfl | rfl | rfl | rfl | rfl | rfl
     · have I:=ho
       simp at A ho;subst A ho;clear ha;have e1:f1=false:=zN fun h=>((ch1.out h));have e2:f2=false:=zN fun h=>((ch1.out (ch2.out h)));have e3:f3=false:=zN fun h=>((ch1.out (ch2.out (ch3.out h))));have e4:f4=false:=zN fun h=>((ch1.out (ch2.out (ch3.out (ch4.out h)))));have e9:f9=false:=zN fun h=>((ch1.out (ch2.out (ch3.out (ch4.out (ch9.out h).1)))));have D:f10=false:=zN fun h=>((ch1.out (ch2.out (ch3.out (ch4.out (ch9.out (ch10.out h).2.1).1)))));subst e1 e2 e3 e4 e9 D;have kE:=rE.cell 0 _ rfl;have kl:=rE.lt;refine .inl ?_
       unfold fT Oper.wp;go_simp
       exact tf.at true false false false false f5 f6 f7 f8 false false (u1) (v1) (u2) (v2) (u3) (v3) rfl rfl (zH (by simp)) (zH (by simp)) (zH (by simp)) (zH (by simp)) (ch6) (ch7) (ch8) (zH (by simp)) (zH (by simp)) (hB) (rE) (re) (rp) (by simp) (rr) (by simp) (bw)
     · have I:=ho
       simp at A ho;subst A ho;simp [Region.binds] at ha
       obtain rfl:f0=true:=by simp only [ha]
       clear ha;have e2:f2=false:=zN fun h=>((ch2.out h));have e3:f3=false:=zN fun h=>((ch2.out (ch3.out h)));have e4:f4=false:=zN fun h=>((ch2.out (ch3.out (ch4.out h))));have e9:f9=false:=zN fun h=>((ch2.out (ch3.out (ch4.out (ch9.out h).1))));have D:f10=false:=zN fun h=>((ch2.out (ch3.out (ch4.out (ch9.out (ch10.out h).2.1).1))));subst e2 e3 e4 e9 D;have k0:=re.cell 0 _ rfl;have kl:=re.lt;refine .inl ?_
       unfold fT Oper.wp;go_simp
       exact tf.at true true false false false f5 f6 f7 f8 false false (u1) (v1) (u2) (v2) (u3) (v3) rfl rfl (zH (by simp)) (zH (by simp)) (zH (by simp)) (zH (by simp)) (ch6) (ch7) (ch8) (zH (by simp)) (zH (by simp)) (hB) (rE) (re) (rp) (by simp) (rr) (by simp) (bw)
     · have I:=ho
       simp at A ho;subst A ho;simp [Region.binds] at ha
       obtain rfl:f1=true:=by simp only [ha]
       clear ha;obtain rfl:f0=true:=(ch1.out rfl);have e3:f3=false:=zN fun h=>((ch3.out h));have e4:f4=false:=zN fun h=>((ch3.out (ch4.out h)));have e9:f9=false:=zN fun h=>((ch3.out (ch4.out (ch9.out h).1)));have D:f10=false:=zN fun h=>((ch3.out (ch4.out (ch9.out (ch10.out h).2.1).1)));subst e3 e4 e9 D;refine .inl ?_
       unfold fT Oper.wp;go_simp
       exact tf.at true true true false false f5 f6 f7 f8 false false (u1) (v1) (u2) (v2) (u3) (v3) rfl rfl (zH (by simp)) (zH (by simp)) (zH (by simp)) (zH (by simp)) (ch6) (ch7) (ch8) (zH (by simp)) (zH (by simp)) (hB) (rE) (re) (rp) (by simp) (rr) (by simp) (bw)
     · have I:=ho
       simp at A ho;subst A ho;simp [Region.binds] at ha
       obtain rfl:f2=true:=by simp only [ha]
       clear ha;obtain rfl:f1=true:=(ch2.out rfl);obtain rfl:f0=true:=(ch1.out (ch2.out rfl));have e4:f4=false:=zN fun h=>((ch4.out h));have e9:f9=false:=zN fun h=>((ch4.out (ch9.out h).1));have D:f10=false:=zN fun h=>((ch4.out (ch9.out (ch10.out h).2.1).1));subst e4 e9 D;have k4:=re.cell 4 _ rfl;have k5:=re.cell 5 _ rfl;have k6:=re.cell 6 _ rfl;have k7:=re.cell 7 _ rfl;have k8:=re.cell 8 _ rfl;have k9:=re.cell 9 _ rfl;have oi:=re.cell 10 _ rfl;have oc:=re.cell 11 _ rfl;have oa:=re.cell 12 _ rfl;have n9:=re.cell 13 _ rfl;have n8:=re.cell 14 _ rfl;have kl:=re.lt;refine .inl ?_
       unfold fT Oper.wp;go_simp
       exact tf.at true true true true false f5 f6 f7 f8 false false (u1) (v1) (u2) (v2) (u3) (v3) rfl rfl (zH (by simp)) (zH (by simp)) (zH (by simp)) (zH (by simp)) (ch6) (ch7) (ch8) (zH (by simp)) (zH (by simp)) (hB) (rE) (re) (rp) (by simp) (rr) (by simp) (bw)
     · have I:=ho
       simp at A ho;subst A ho;simp [Region.binds] at ha
       obtain rfl:f3=true:=by simp only [ha]
       clear ha;obtain rfl:f2=true:=(ch3.out rfl);obtain rfl:f1=true:=(ch2.out (ch3.out rfl));obtain rfl:f0=true:=(ch1.out (ch2.out (ch3.out rfl)));have e9:f9=false:=zN fun h=>((ch9.out h).1);have D:f10=false:=zN fun h=>((ch9.out (ch10.out h).2.1).1);subst e9 D;have hS:=(hB rfl).size;refine .inl ?_
       unfold fT Oper.wp;go_simp
       refine (BW hp q1 q2 q3 q4 q5 q6 q7 a1 a2 a3 n1 n2 n3 c1 c2 c3 w' (hZ.out.below (hB rfl)) (hY.out.below (hB rfl)) (hX.out.below (hB rfl))).mono ?_
       intro e w1 hO;obtain ⟨y1,z1,y2,z2,y3,z3,rfl,hb⟩:=hO;exact tf.at true true true true true f5 f6 f7 f8 false false (y1) (z1) (y2) (z2) (y3) (z3) rfl rfl (zH (by simp)) (zH (by simp)) (zH (by simp)) (zH (by simp)) (ch6) (ch7) (ch8) (zH (by simp)) (zH (by simp)) (fun h0=>(hB h0).trans (hb.mono hS)) (BoxS.later rE hb) (BoxS.later re hb) (fun h0=>BoxS.later (rp h0) hb) (by simp) (fun h0=>BoxS.later (rr h0) hb) (by simp) (aV.later bw hb)
     · have I:=ho
       simp at A ho;subst A ho;clear ha;have e6:f6=false:=zN fun h=>((ch6.out h));have J:f7=false:=zN fun h=>((ch6.out (ch7.out h)));have e8:f8=false:=zN fun h=>((ch6.out (ch7.out (ch8.out h))));have D:f10=false:=zN fun h=>((ch6.out (ch7.out (ch8.out (ch10.out h).1))));subst e6 J e8 D;have kE:=rE.cell 0 _ rfl;have kl:=rE.lt;refine .inl ?_
       unfold fT Oper.wp;go_simp
       exact tf.at f0 f1 f2 f3 f4 true false false false f9 false (u1) (v1) (u2) (v2) (u3) (v3) rfl rfl (ch1) (ch2) (ch3) (ch4) (zH (by simp)) (zH (by simp)) (zH (by simp)) (ch9) (zH (by simp)) (hB) (rE) (re) (rp) (rf) (rr) (by simp) (bw)
     · have I:=ho
       simp at A ho;subst A ho;simp [Region.binds] at ha
       obtain rfl:f5=true:=by simp only [ha]
       clear ha;have J:f7=false:=zN fun h=>((ch7.out h));have e8:f8=false:=zN fun h=>((ch7.out (ch8.out h)));have D:f10=false:=zN fun h=>((ch7.out (ch8.out (ch10.out h).1)));subst J e8 D;have k0:=re.cell 0 _ rfl;have kl:=re.lt;refine .inl ?_
       unfold fT Oper.wp;go_simp
       exact tf.at f0 f1 f2 f3 f4 true true false false f9 false (u1) (v1) (u2) (v2) (u3) (v3) rfl rfl (ch1) (ch2) (ch3) (ch4) (zH (by simp)) (zH (by simp)) (zH (by simp)) (ch9) (zH (by simp)) (hB) (rE) (re) (rp) (rf) (rr) (by simp) (bw)
     · have I:=ho
       simp at A ho;subst A ho;simp [Region.binds] at ha
       obtain rfl:f6=true:=by simp only [ha]
       clear ha;obtain rfl:f5=true:=(ch6.out rfl);have e8:f8=false:=zN fun h=>((ch8.out h));have D:f10=false:=zN fun h=>((ch8.out (ch10.out h).1));subst e8 D;refine .inl ?_
       unfold fT Oper.wp;go_simp
       exact tf.at f0 f1 f2 f3 f4 true true true false f9 false (u1) (v1) (u2) (v2) (u3) (v3) rfl rfl (ch1) (ch2) (ch3) (ch4) (zH (by simp)) (zH (by simp)) (zH (by simp)) (ch9) (zH (by simp)) (hB) (rE) (re) (rp) (rf) (rr) (by simp) (bw)
     · have I:=ho
       simp at A ho;subst A ho;simp [Region.binds] at ha
       obtain rfl:f7=true:=by simp only [ha]
       clear ha;obtain rfl:f6=true:=(ch7.out rfl);obtain rfl:f5=true:=(ch6.out (ch7.out rfl));have D:f10=false:=zN fun h=>((ch10.out h).1);subst D;have n7:=re.cell 15 _ rfl;have n6:=re.cell 16 _ rfl;have n5:=re.cell 17 _ rfl;have n4:=re.cell 18 _ rfl;have n0:=re.cell 19 _ rfl;have nz:=re.cell 20 _ rfl;have nx:=re.cell 21 _ rfl;have nv:=re.cell 22 _ rfl;have kl:=re.lt;refine .inl ?_
       unfold fT Oper.wp;go_simp
       exact tf.at f0 f1 f2 f3 f4 true true true true f9 false (u1) (v1) (u2) (v2) (u3) (v3) rfl rfl (ch1) (ch2) (ch3) (ch4) (zH (by simp)) (zH (by simp)) (zH (by simp)) (ch9) (zH (by simp)) (hB) (rE) (re) (rp) (rf) (rr) (by simp) (bw)
     · have I:=ho
       simp at A ho;subst A ho;simp [Region.binds] at ha
       obtain rfl:f4=true:=by simp only [ha]
       obtain rfl:f0=true:=by simp only [ha]
       obtain rfl:f1=true:=by simp only [ha]
       obtain rfl:f2=true:=by simp only [ha]
       obtain rfl:f3=true:=by simp only [ha]
       clear ha;have D:f10=false:=zN fun h=>((ch10.out h).2.1);subst D;refine .inl ?_
       unfold fT;refine fy 55 (.tmp 4) (.tmp 35) rfl (H+2) [.bool false,.string ⟨#[]⟩,.string ⟨#[]⟩,.string ⟨#[]⟩,.string ⟨#[]⟩,.string ⟨#[]⟩,.string ⟨#[]⟩,.string ⟨#[]⟩,.slice none 0 0,.slice none 0 0,.slice none 0 0] [.bool hp,.string q1,.string q2,.string q3,.string q4,.string q5,.string q6,.string q7,.slice u1 0 v1,.slice u2 0 v2,.slice u3 0 v3] (by simp [Act.eval]) (by simp [Act.eval]) (rp rfl) rfl gY (by simp [Value.oneCell']) ?_
       intro wz dg O;exact tf.at true true true true true f5 f6 f7 f8 true false (u1) (v1) (u2) (v2) (u3) (v3) rfl rfl (zH (by simp)) (zH (by simp)) (zH (by simp)) (zH (by simp)) (ch6) (ch7) (ch8) (zH (by simp)) (zH (by simp)) (by simp) (rE.grown O (by have:=co.out; simp; omega)) (re.grown O (by have:=g8.out; simp; omega)) (by simp) (fun _=>dg) (fun h=>(rr h).grown O (by simp)) (by simp) (bw.trans (aV.grown O (by rintro k ⟨⟩; exact .inl rfl)) (fun _ _=>id))
     · have I:=ho
       simp at A ho;subst A ho;simp [Region.binds] at ha
       obtain rfl:f8=true:=by simp only [ha]
       obtain rfl:f9=true:=by simp only [ha]
       obtain rfl:f0=true:=by simp only [ha]
       obtain rfl:f1=true:=by simp only [ha]
       obtain rfl:f2=true:=by simp only [ha]
       obtain rfl:f3=true:=by simp only [ha]
       obtain rfl:f4=true:=by simp only [ha]
       obtain rfl:f5=true:=by simp only [ha]
       obtain rfl:f6=true:=by simp only [ha]
       obtain rfl:f7=true:=by simp only [ha]
       clear ha;refine .inl ?_
       unfold fT;refine fy 60 (.tmp 5) (.tmp 39) rfl (H+3) [.int .i64 0,.string ⟨#[]⟩,.string ⟨#[]⟩,.string ⟨#[]⟩,.int .i64 0,.int .i64 0,.int .i64 0,.string ⟨#[]⟩] [.int .i64 o0,.string o1,.string o2,.string o3,.int .i64 o4,.int .i64 o5,.int .i64 o6,.string o7] (by simp [Act.eval]) (by simp [Act.eval]) (rr rfl) rfl pA (by simp [Value.oneCell']) ?_
       intro wz dg O;exact tf.at true true true true true true true true true true true (u1) (v1) (u2) (v2) (u3) (v3) rfl rfl (zH (by simp)) (zH (by simp)) (zH (by simp)) (zH (by simp)) (zH (by simp)) (zH (by simp)) (zH (by simp)) (zH (by simp)) (zH (by simp)) (by simp) (rE.grown O (by have:=co.out; simp; omega)) (re.grown O (by have:=g8.out; simp; omega)) (by simp) (fun h=>(rf h).grown O (by simp)) (by simp) (fun _=>dg) (bw.trans (aV.grown O (by rintro k ⟨⟩; exact .inr rfl)) (fun _ _=>id))
 case step =>
  intro c9 a' w' hJ i hi;cases hJ with
  | mk f0 f1 f2 f3 f4 f5 f6 f7 E _ ch1 ch2 ch3 ch5 ch7 hB rs rb rg rm rx rz =>
   rw [mem_ready] at hi;obtain ⟨A,o,ho,ha⟩:=hi;have hR:i<8:=(Array.getElem?_eq_some_iff.1 ho).1;rcases (by omega:i=0∨i=1∨i=2∨i=3∨i=4∨i=5∨i=6∨i=7) with rfl | rfl | rfl | rfl | rfl | rfl | rfl | rfl
   · have I:=ho
     simp at A ho;subst A ho;clear ha;have e1:f1=false:=zN fun h=>((ch1.out h));have e2:f2=false:=zN fun h=>((ch1.out (ch2.out h)));have e3:f3=false:=zN fun h=>((ch1.out (ch2.out (ch3.out h))));have e5:f5=false:=zN fun h=>((ch1.out (ch2.out (ch3.out (ch5.out h).1))));have J:f7=false:=zN fun h=>((ch1.out (ch2.out (ch3.out (ch5.out (ch7.out h).2.1).1))));subst e1 e2 e3 e5 J;have kb:=rs.cell 0 _ rfl;have kl:=rs.lt;refine .inl ?_
     unfold iV Oper.wp;go_simp
     exact wg.at true false false false f4 false f6 false (E) rfl rfl (zH (by simp)) (zH (by simp)) (zH (by simp)) (zH (by simp)) (zH (by simp)) (hB) (rs) (rb) (rg) (rm) (rx) (by simp)
   · have I:=ho
     simp at A ho;subst A ho;simp [Region.binds] at ha
     obtain rfl:f0=true:=by simp only [ha]
     clear ha;have e2:f2=false:=zN fun h=>((ch2.out h));have e3:f3=false:=zN fun h=>((ch2.out (ch3.out h)));have e5:f5=false:=zN fun h=>((ch2.out (ch3.out (ch5.out h).1)));have J:f7=false:=zN fun h=>((ch2.out (ch3.out (ch5.out (ch7.out h).2.1).1)));subst e2 e3 e5 J;have kb:=rb.cell 0 _ rfl;have kl:=rb.lt;refine .inl ?_
     unfold iV Oper.wp;go_simp
     exact wg.at true true false false f4 false f6 false (E) rfl rfl (zH (by simp)) (zH (by simp)) (zH (by simp)) (zH (by simp)) (zH (by simp)) (hB) (rs) (rb) (rg) (rm) (rx) (by simp)
   · have I:=ho
     simp at A ho;subst A ho;simp [Region.binds] at ha
     obtain rfl:f1=true:=by simp only [ha]
     clear ha;obtain rfl:f0=true:=(ch1.out rfl);have e3:f3=false:=zN fun h=>((ch3.out h));have e5:f5=false:=zN fun h=>((ch3.out (ch5.out h).1));have J:f7=false:=zN fun h=>((ch3.out (ch5.out (ch7.out h).2.1).1));subst e3 e5 J;refine .inl ?_
     unfold iV Oper.wp;go_simp
     exact wg.at true true true false f4 false f6 false (E) rfl rfl (zH (by simp)) (zH (by simp)) (zH (by simp)) (zH (by simp)) (zH (by simp)) (hB) (rs) (rb) (rg) (rm) (rx) (by simp)
   · have I:=ho
     simp at A ho;subst A ho;simp [Region.binds] at ha
     obtain rfl:f2=true:=by simp only [ha]
     clear ha;obtain rfl:f1=true:=(ch2.out rfl);obtain rfl:f0=true:=(ch1.out (ch2.out rfl));have e5:f5=false:=zN fun h=>((ch5.out h).1);have J:f7=false:=zN fun h=>((ch5.out (ch7.out h).2.1).1);subst e5 J;have kb:=rb.cell 0 _ rfl;have kl:=rb.lt;refine .inl ?_
     unfold iV Oper.wp;go_simp
     exact wg.at true true true true f4 false f6 false (E) rfl rfl (zH (by simp)) (zH (by simp)) (zH (by simp)) (zH (by simp)) (zH (by simp)) (hB) (rs) (rb) (rg) (rm) (rx) (by simp)
   · have I:=ho
     simp at A ho;subst A ho;clear ha;have e5:f5=false:=zN fun h=>((ch5.out h).2);have J:f7=false:=zN fun h=>((ch5.out (ch7.out h).2.1).2);subst e5 J;obtain ⟨k0,k1,k2⟩:=ej rg;have kl:=rg.lt;refine .inl ?_
     unfold iV Oper.wp;go_simp
     exact wg.at f0 f1 f2 f3 true false f6 false (E) rfl rfl (ch1) (ch2) (ch3) (zH (by simp)) (zH (by simp)) (hB) (rs) (rb) (rg) (rm) (rx) (by simp)
   · have I:=ho
     simp at A ho;subst A ho;simp [Region.binds] at ha
     obtain rfl:f3=true:=by simp only [ha]
     obtain rfl:f4=true:=by simp only [ha]
     clear ha;obtain rfl:f2=true:=(ch3.out rfl);obtain rfl:f1=true:=(ch2.out (ch3.out rfl));obtain rfl:f0=true:=(ch1.out (ch2.out (ch3.out rfl)));have J:f7=false:=zN fun h=>((ch7.out h).2.1);subst J;have kr:=h9.out w' rm;refine .inl ?_
     unfold iV Oper.wp;go_simp
     exact wg.at true true true true true true f6 false (E) rfl rfl (zH (by simp)) (zH (by simp)) (zH (by simp)) (zH (by simp)) (zH (by simp)) (hB) (rs) (rb) (rg) (rm) (rx) (by simp)
   · have I:=ho
     simp at A ho;subst A ho;clear ha;have J:f7=false:=zN fun h=>((ch7.out h).1);subst J;have hS:=hB.size;have bv:=fun o=>(Below.refl w'.heap.size w').alloc (Nat.le_refl w'.heap.size) o;refine .inl ?_
     unfold iV Oper.wp;go_simp
     exact wg.at f0 f1 f2 f3 f4 f5 true false (w'.heap.size) rfl rfl (ch1) (ch2) (ch3) (ch5) (zH (by simp)) (hB.trans ((bv _).mono hS)) (BoxS.later rs (bv _)) (BoxS.later rb (bv _)) (BoxS.later rg (bv _)) (rm.later (bv _)) (fun h0 h1=>⟨hS,ak.new w' [.pointer none] _ _ rfl⟩) (by simp)
   · have I:=ho
     simp at A ho;subst A ho;simp [Region.binds] at ha
     obtain rfl:f6=true:=by simp only [ha]
     obtain rfl:f5=true:=by simp only [ha]
     obtain rfl:f0=true:=by simp only [ha]
     obtain rfl:f1=true:=by simp only [ha]
     obtain rfl:f2=true:=by simp only [ha]
     obtain rfl:f3=true:=by simp only [ha]
     obtain rfl:f4=true:=by simp only [ha]
     clear ha;have hx:=rx rfl rfl;have hn:=hx.1;obtain ⟨k0,f0,kl⟩:=zB hx.2 0 rfl;have x3:=hx.2.setOne (o:=0) (u:=.pointer (some ⟨eb,0,none⟩)) rfl (by simp);refine .inl ?_
     unfold iV Oper.wp;go_simp
     exact wg.at true true true true true true true true (E) rfl rfl (zH (by simp)) (zH (by simp)) (zH (by simp)) (zH (by simp)) (zH (by simp)) (hB.setCell (by exact hn) _) (rs.grown (ab _ _ _ _) (by have:=h8.out; simp; omega)) (rb.grown (ab _ _ _ _) (by have:=h7.out; simp; omega)) (rg.grown (ab _ _ _ _) (by have:=h6.out; simp; omega)) (rm.grown (ab _ _ _ _) (by have:=h5.out; simp; omega)) (by simp) (fun _=>⟨hn,x3⟩)
def oW:Tr:=.mk [112,114,111,106,101,99,116] [] [.mk [97,114,116,105,102,97,99,116,73,100] [] [.mk [] [] [] [97]] []] []
theorem wi:fq oW:=(fq.of (by decide) (by decide) (by decide) (List.forall_mem_cons.2 ⟨(fq.of (by decide) (by decide) (by decide) (List.forall_mem_cons.2 ⟨(fq.of (by decide) (by decide) (by decide) (fun k hk=>by cases hk)),(fun k hk=>by cases hk)⟩)),(fun k hk=>by cases hk)⟩))
theorem vW (w:World) {F:Nat→Prop} {b:Nat} {es:List (bF × Nat)} {r a:Int} (h:bR F w b es r a) :
    Calls Tryz.prog 29 #[jr b] w fun e w'=>e = .returned (.int .i64 r)∧Below w.heap.size w w':=by
 obtain ⟨me,mv,L,cl,V,cv,h⟩:=h;have I:=h.box.cell 0 _ rfl;have D:=h.box.lt;have A:=zH (sB ⟨b,2,none⟩ r w (h.box.cell 2 _ rfl));clear h;unfold jr;go_enter Tryz.func29,Tryz.ntmps29
 go_wp2_with fail
 refine A.out.mono ?_
 rintro e w1 ⟨rfl,rfl⟩;go_wp2
 go_ret
 exact ⟨rfl,Below.refl _ _⟩
theorem zp (w:World) {F:Nat→Prop} {b:Nat} {es:List (bF × Nat)} {r a:Int} (h:bR F w b es r a) :
    Calls Tryz.prog 30 #[jr b] w fun e w'=>e = .returned (.int .i64 a)∧Below w.heap.size w w':=by
 obtain ⟨me,mv,L,cl,V,cv,h⟩:=h;have I:=h.box.cell 0 _ rfl;have D:=h.box.lt;have A:=zH (sB ⟨b,3,none⟩ a w (h.box.cell 3 _ rfl));clear h;unfold jr;go_enter Tryz.func30,Tryz.ntmps30
 go_wp2_with fail
 refine A.out.mono ?_
 rintro e w1 ⟨rfl,rfl⟩;go_wp2
 go_ret
 exact ⟨rfl,Below.refl _ _⟩
theorem yN:Tryz.prog.stoodInHeld 60=false:=by kernel_rfl
theorem yR:Tryz.prog.eqGuardType Tryz.prog.depth 60=false:=by kernel_rfl
def lZ:bp:=⟨⟨#[103]⟩,⟨#[97]⟩,⟨#[49]⟩⟩
def Bd:bp:=⟨⟨#[103]⟩,⟨#[97]⟩,⟨#[50]⟩⟩
def kR:S:=⟨#[60,112,114,111,106,101,99,116,62,60,97,114,116,105,102,97,99,116,73,100,62,97,60,47,97,114,116,105,102,97,99,116,73,100,62,60,47,112,114,111,106,101,99,116,62]⟩
theorem BC:dI lZ=true:=by kernel_rfl
theorem nH:(eL oW).props=[]∧(eL oW).managed=[]∧(eL oW).deps=[]:=⟨by kernel_rfl,by kernel_rfl,by kernel_rfl⟩
theorem BA:Bd≠lZ:=by decide
theorem sj:kI kR.data.toList = .ok oW []:=by kernel_rfl
theorem tR:dz oW=none:=by kernel_rfl
theorem wj:(eL oW).artifact=⟨#[97]⟩:=by kernel_rfl
theorem yP (w:World):(binOp .eql 60 (.agg #[.int .i64 0,.string ⟨#[]⟩,.string ⟨#[]⟩,.string ⟨#[]⟩,.int .i64 0,.int .i64 0,.int .i64 0,.string ⟨#[]⟩]) (.agg #[.int .i64 0,.string ⟨#[]⟩,.string ⟨#[]⟩,.string ⟨#[]⟩,.int .i64 0,.int .i64 0,.int .i64 0,.string ⟨#[]⟩])).run Tryz.prog w = .ok (.bool true) w:=by
 have h:=yN;simp [go_sem,h]
attribute [local go_sem ↓] yR yP in
theorem xU (m:Int) (w:World) (hm:w.cell? ⟨0,0,none⟩=some (.int .i64 m)):Calls Tryz.prog 14 #[] w fun e w'=>e = .returned (.bool true)∧Below w.heap.size w w':=by
 have ac:0<w.heap.size:=World.block_lt_of_cell? w _ hm;have HM:=zH hm;have a4:=zH ac;clear hm ac;go_enter Tryz.func14,Tryz.ntmps14
 go_wp2_with fail
 refine (Ao w).mono ?_
 rintro e w1 ⟨b,F,rfl,I,hF,dk⟩;have b4:=zH I;have HF:=zH hF;have a6:=zH dk;clear I hF dk;unfold jr;go_upto_region 3 with fail
 refine ai fun W hW=>?_
 have x1:ak W w1.heap.size [.string ⟨#[103]⟩,.string ⟨#[97]⟩,.string ⟨#[49]⟩]:=by rw [hW]; exact ak.new w1 [.string ⟨#[103]⟩,.string ⟨#[97]⟩,.string ⟨#[49]⟩] _ _ rfl
 have hb:Below w1.heap.size w1 W:=by rw [hW]; exact (Below.refl _ w1).alloc (Nat.le_refl _) _
 clear hW;have en:=zH (b4.out.below hb);have co:=zH (a6.out.trans (hb.mono a6.out.size))
 have b5:Hid (¬ F w1.heap.size):=fun h=>by
  obtain ⟨_,_,_,_,_,_,h1⟩:=b4.out;have:=h1.lt _ h; omega
 have eV:Hid (w.heap.size≤w1.heap.size):=a6.out.size;obtain ⟨K,hK⟩ : ∃ K,K=w1.heap.size:=⟨_,rfl⟩;rw [← hK] at x1 b5 eV;rw [← hK];clear hb hK b4 a6;have HX:=zH x1;obtain ⟨k0,k1,k2⟩:=ej x1;have kl:=x1.lt;clear x1;go_wp2_with fail
 refine (Aj lZ kR W en.out ⟨by decide,by decide,by decide⟩).mono ?_
 rintro e w2 ⟨rfl,ho,F2,hw,I,d0,-,dg⟩;have bb:fR [] lZ=0:=by kernel_rfl
 obtain ⟨eb,rfl⟩:=dg bb;rw [bb];have em:=zH I;have b6:Hid (∀ k,k<W.heap.size→F2 k→F k):=d0;have a0:=zH (HX.out.only ho b5.out);have J:=zH (co.out.trans (ho.below co.out.size HF.out));have eU:Hid (K<W.heap.size):=kl;clear ho I d0 dg bb k0 k1 k2 kl HX en co;have ex:Hid (¬ F2 K):=fun h=>b5.out (b6.out K eU.out h)
 have Z:Hid (∀ k,F2 k→w.heap.size≤k):=fun k hk=>by
  by_cases h:k<W.heap.size
  · exact HF.out k (b6.out k h hk)
  · have:=eU.out; have:=eV.out; omega
 obtain ⟨k0,k1,k2⟩:=ej a0.out;have kl:=a0.out.lt;obtain ⟨me,mv,L,cl,V,cv,D⟩:=em.out;have A:=zH D;clear D em;go_wp2_with fail
 refine (uU lZ w2 (i:=0) (eb:=eb) (e0:=gP lZ kR) (e1:=⟨lZ,kR,true,eL oW,kg⟩) (r':=1) A.out rfl rfl rfl ⟨rfl,nH⟩ ?_ (by decide) (by decide)).mono ?_
 · intro G X vs ve vg I hG ho h1 h2 h3 n1 n2 n3
   have gc:(0:Nat)≠b:=fun e=>by have:=Z.out b A.out.own.1; have:=a4.out; omega
   refine yU (F:=fun k=>F2 k∨G k) (r:=0) (t:=oW) (q:=[]) (m:=m) I rfl h1 h2 h3 n1 n2 n3 (fun h=>?_) (by decide) (by decide) (by decide) sj wi tR ?_
   · have ac:=a4.out
     have h9:=J.out.size;rcases h with h | h
     · have:=Z.out 0 h; omega
     · have:=hG 0 h; omega
   · have h9:=J.out.size
     have ac:=a4.out;exact (World.cell?_of_block (by exact ho.block 0 (by omega) gc)).trans ((J.out.cell (by exact a4.out)).trans HM.out)
 obtain ⟨p,hp,c9,c8⟩ : ∃ p,eL oW=p∧p.artifact=⟨#[97]⟩∧p.props=[]∧p.managed=[]∧p.deps=[]:=⟨_,rfl,wj,nH⟩;rw [hp];rintro e w3 ⟨⟨d7,d4,d6,d3,d5,d2,rfl⟩,dr,bc⟩;dsimp only [kg,uS,Ax,yt]
 rw [c9];have b3:Hid (bR F2 w3 b [(⟨lZ,kR,true,p,kg⟩,eb)] 1 1):=dr;have g7:=zH c8;have b0:=zH (a0.out.only bc ex.out);have cm:=zH (J.out.trans (bc.below J.out.size Z.out));clear k0 k1 k2 kl a0 A J b6 dr bc c8 hp c9;go_upto_region 5 with fail
 refine ai fun W4 ah=>?_
 have y1:ak W4 w3.heap.size [.bool p.hasParent,.string p.parent.group,.string p.parent.artifact,.string p.parent.version,.string p.group,.string ⟨#[97]⟩,.string p.version,.string p.packaging,.slice d7 0 d4,.slice d6 0 d3,.slice d5 0 d2]:=by rw [ah]; exact (ak.new w3 [.bool p.hasParent,.string p.parent.group,.string p.parent.artifact,.string p.parent.version,.string p.group,.string ⟨#[97]⟩,.string p.version,.string p.packaging,.slice d7 0 d4,.slice d6 0 d3,.slice d5 0 d2] _ _ rfl).alloc _
 have y2:ak W4 (w3.heap.size+1) [.int .i64 0,.string ⟨#[]⟩,.string ⟨#[]⟩,.string ⟨#[]⟩,.int .i64 0,.int .i64 0,.int .i64 0,.string ⟨#[]⟩]:=by rw [ah]; exact ak.new _ [.int .i64 0,.string ⟨#[]⟩,.string ⟨#[]⟩,.string ⟨#[]⟩,.int .i64 0,.int .i64 0,.int .i64 0,.string ⟨#[]⟩] _ _ (by simp)
 have ag:Below w3.heap.size w3 W4:=by rw [ah]; exact ((Below.refl _ w3).alloc (Nat.le_refl _) _).alloc (by simp) _
 clear ah
 have a5:Hid (∀ k,F2 k→k<w3.heap.size):=by
  obtain ⟨_,_,_,_,_,_,h1⟩:=b3.out;exact h1.lt
 have el:=zH (b3.out.below ag);have al:=zH (b0.out.below ag b0.out.lt);have cf:=zH (cm.out.trans (ag.mono cm.out.size));have ef:=zH y1;have ed:=zH y2;clear y1 y2 ag b3 b0 cm;obtain ⟨k0,k1,k2⟩:=ej al.out;have kl:=al.out.lt;obtain ⟨me,mv,L,cl,V,cv,D⟩:=el.out;have A:=zH D;clear D el;go_wp2_with fail
 refine (uU lZ W4 (i:=0) (eb:=eb) (e0:=⟨lZ,kR,true,p,kg⟩) (e1:=⟨lZ,kR,true,p,kg⟩) (r':=1) A.out rfl rfl rfl ⟨rfl,g7.out⟩ ?_ (by decide) (by decide)).mono ?_
 · intro G X vs ve vg I hG ho h1 h2 h3 n1 n2 n3
   obtain ⟨hu,hv,hA,hE,-⟩:=I.ent _ (List.mem_singleton.2 rfl);refine (AG eb _ X (hE.cell 1 _ rfl)).mono ?_
   rintro e w' ⟨rfl,rfl⟩;exact ⟨rfl,I,aV.refl _ _⟩
 rintro e w5 ⟨⟨hU,hM,hT,hL,hR,hJ,rfl⟩,dn,O⟩;have ei:Hid (bR F2 w5 b [(⟨lZ,kR,true,p,kg⟩,eb)] 1 2):=dn;have g4:=zH (al.out.only O ex.out);have d9:=zH (ef.out.only O (fun h=>by have:=a5.out _ h; omega));have d8:=zH (ed.out.only O (fun h=>by have:=a5.out _ h; omega));have b9:=zH (cf.out.trans (O.below cf.out.size Z.out));clear k0 k1 k2 kl al A cf dn O ef ed;obtain ⟨me,mv,L,cl,V,cv,D⟩:=ei.out;have A:=zH D;clear D ei;go_wp2_with fail
 refine (Ba Bd w5 A.out (by simp [je,BA]) (by decide) (by decide)).mono ?_
 rintro e w6 ⟨⟨hP,hI,hO,hH,hN,hC,rfl⟩,dl,ad⟩;dsimp only [tQ,uS,Ax,Bd,yt]
 have eg:Hid (bR F2 w6 b [(⟨lZ,kR,true,p,kg⟩,eb)] 1 3):=dl;have bv:=zH (d9.out.only ad (fun h=>by have:=a5.out _ h; omega));have bo:=zH (d8.out.only ad (fun h=>by have:=a5.out _ h; omega));have b8:=zH (b9.out.trans (ad.below b9.out.size Z.out));clear g4 A b9 dl ad d9 d8;go_upto_region 7 with fail
 refine ai fun W7 bl=>?_
 have z2:ak W7 (w6.heap.size+1) [.int .i64 25,.string ⟨#[103]⟩,.string ⟨#[97]⟩,.string ⟨#[50]⟩,.int .i64 0,.int .i64 0,.int .i64 0,.string ⟨#[]⟩]:=by rw [bl]; exact ak.new _ [.int .i64 25,.string ⟨#[103]⟩,.string ⟨#[97]⟩,.string ⟨#[50]⟩,.int .i64 0,.int .i64 0,.int .i64 0,.string ⟨#[]⟩] _ _ (by simp)
 have U:Below w6.heap.size w6 W7:=by rw [bl]; exact ((Below.refl _ w6).alloc (Nat.le_refl _) _).alloc (by simp) _
 clear bl;have b2:=zH (eg.out.below U);have b7:=zH (b8.out.trans (U.mono b8.out.size));have y:=bv.out.below U bv.out.lt;have q:=bo.out.below U bo.out.lt;clear U eg b8 bv bo;have y5:=y.cell 5 _ rfl;have yl:=y.lt;obtain ⟨q0,q1,q2,q3,q4,q5,q6,q7⟩:=xD q;have ql:=q.lt;have z0:=z2.cell 0 _ rfl;have zl:=z2.lt;clear y q z2;go_wp2_with fail
 refine (vW _ b2.out).mono ?_
 rintro e w8 ⟨rfl,bg⟩;have g6:=zH (b2.out.below bg);have e4:=zH (b7.out.trans (bg.mono b7.out.size));clear bg b2 b7 y5 yl q0 q1 q2 q3 q4 q5 q6 q7 ql z0 zl;go_wp2_with fail
 refine (zp _ g6.out).mono ?_
 rintro e w9 ⟨rfl,ga⟩;go_wp2
 go_ret
 exact ⟨rfl,e4.out.trans (ga.mono e4.out.size)⟩
end Go.Proofs.YtominiaohfjobaaGreatDoor
