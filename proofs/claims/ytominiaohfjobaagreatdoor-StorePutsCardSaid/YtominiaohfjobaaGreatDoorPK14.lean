/- What store.Put does; the conditions stand in the theorems. -/
import Derived.Test.YtominiaohfjobaaGreatDoorPK13
import Derived.Test.YtominiaohfjobaaGreatDoorPK08
import Derived.Test.YtominiaohfjobaaGreatDoorPK07
import Derived.Deep.AppendLies
import Derived.Deep.RegionWith
import Derived.Deep.CutRange
set_option maxRecDepth 100000
set_option maxHeartbeats 64000000
namespace Go.Proofs.YtominiaohfjobaaGreatDoor
open Go Go.RowKit
def fR (es:List (bF × Nat)) (g:bp):Int:=if dI g=false then 1 else if je es g then 4 else if 1024≤es.length then 2 else 0
def rA (F:Nat→Prop) (b:Nat) (es:List (bF × Nat)) (r a:Int) (g:bp) (s:S) (w:World) (e:Ending) (w':World):Prop:=e = .returned (.int .i64 (fR es g))∧aV F w w' ∧
 ∃ D A,bR D w' b A r a∧(∀ k,k<w.heap.size→D k→F k)∧(fR es g≠0→A=es)∧(fR es g=0 → ∃ eb,A=es ++ [(gP g s,eb)])
theorem rA.no {F:Nat→Prop} {b:Nat} {es:List (bF × Nat)} {r a:Int} {g:bp} {s:S} {w w':World} {x:Int} (h:bR F w b es r a) (hx:fR es g=x) (h0:x≠0) (A:Below w.heap.size w w'):rA F b es r a g s w (.returned (.int .i64 x)) w' :=
 ⟨by rw [hx],aV.of A,F,es,h.below A,fun _ _=>id,fun _=>rfl,fun e=>absurd (hx.symm.trans e) h0⟩
def fL (F:Nat→Prop) (b:Nat) (es:List (bF × Nat)) (r a:Int) (g:bp) (s:S) (w:World) (e:Ending) (w':World):Prop:=e = .returned (.int .i64 (fR es g))∧aV F w w' ∧
 ∃ D A,bR D w' b A r a∧(∀ k,k<w.heap.size→D k→F k)∧(fR es g≠0→A=es)∧(fR es g=0 → ∃ eb,A=es ++ [(gP g s,eb)])∧(dN w es→dN w' A)
theorem fL.out {F:Nat→Prop} {b:Nat} {es:List (bF × Nat)} {r a:Int} {g:bp} {s:S} {w w':World} {e:Ending} (h:fL F b es r a g s w e w'):rA F b es r a g s w e w':=by
 obtain ⟨h1,h2,O,A,h3,J,I,D,-⟩:=h;exact ⟨h1,h2,O,A,h3,J,I,D⟩
theorem fL.no {F:Nat→Prop} {b:Nat} {es:List (bF × Nat)} {r a:Int} {g:bp} {s:S} {w w':World} {x:Int} (h:bR F w b es r a) (hx:fR es g=x) (h0:x≠0) (A:Below w.heap.size w w'):fL F b es r a g s w (.returned (.int .i64 x)) w' :=
 ⟨by rw [hx],aV.of A,F,es,h.below A,fun _ _=>id,fun _=>rfl,fun e=>absurd (hx.symm.trans e) h0,fun h=>h.below A⟩
def gm (n:Nat) (w:World) (p:Nat) (cs:List Value):Prop:=n≤p∧ak w p cs
theorem gm.later {n:Nat} {w w':World} {p:Nat} {cs:List Value} (h:gm n w p cs) (A:Below w.heap.size w w'):gm n w' p cs:=⟨h.1,h.2.below A h.2.lt⟩
theorem BoxS.later {w w':World} {b:Nat} {cs:List Value} (h:ak w b cs) (A:Below w.heap.size w w'):ak w' b cs:=h.below A h.lt
theorem de.later {K:Type} {kc:K→Value} {w w':World} {m:Nat} {L:List (aF K)} {c:Nat} (h:de kc w m L c) (A:Below w.heap.size w w'):de kc w' m L c:=h.below A h.lt
def uI (V w':World) (row:Option Nat) (v:Value) (l:List S):Prop:=V.grownBy w' row∧aj 0 9 1 gq w' v l∧(v.ownBlock=row ∨ ∃ k,V.heap.size≤k∧v.ownBlock=some k)
theorem uI.later {V w w':World} {row:Option Nat} {v:Value} {l:List S} (h:uI V w row v l) (A:Below w.heap.size w w'):uI V w' row v l:=⟨ol h.1 A,h.2.1.below A,h.2.2⟩
theorem pr {P:Program} {op:Oper} {a:Act} {w w':World} {K:Act→World→Prop} {Q:Exit→Act→World→Prop} (A:TypeId) (x y z:Operand) (ho:op.op = .mapUpdate A x y z)
    (m k v:Value) (hm:a.eval x=m) (hk:a.eval y=k) (D:a.eval z=v) (I:(Instr.mapUpdate A m k v).run P w = .ok () w') (h:K (a.put op.dst undef) w'):op.wp P a w K Q:=by
 simp only [Oper.wp,execOp,ho,hm,hk,D,Sem.run_bind,I,Result.andThen_ok,Sem.run_pure,Oper.upon];exact h
def ie (b me:Nat) (g:bp) (s:S) (x0 x1 x2 x3 x4 x5 x6 x7 x8 x9 x10 x11 x12 x13 x14 x15 x16 x17 x18 x19 x20 x21 x22 x23 x24 x33 x34 x35 x36 x37 x38 x39 x40 x41 x42 x43 x44 x45 x46 x47 x48 x49:Value) (f0 f1 f2 f3 f4 f5 f6 f7 _f8:Bool) (P:Nat):Act :=
 ⟨#[x0,x1,x2,x3,x4,x5,x6,x7,x8,x9,x10,x11,x12,x13,x14,x15,x16,x17,x18,x19,x20,x21,x22,x23,x24,cond f0 (.pointer (some ⟨b,0,none⟩)) undef,cond f1 (.pointer (some ⟨b,0,none⟩)) undef,cond f2 (.pointer (some ⟨b,0,none⟩)) undef,cond f3 (.map (some me)) undef,cond f4 (.agg #[.string g.group,.string g.artifact,.string g.version]) undef,cond f5 (.string s) undef,cond f6 (.agg #[.string s,.int .u32 0,.int .i32 0,.int .u32 0,.bool false,.string ⟨#[]⟩,.string ⟨#[]⟩,.string ⟨#[]⟩,.string ⟨#[]⟩,.string ⟨#[]⟩,.string ⟨#[]⟩,.string ⟨#[]⟩,.slice none 0 0,.slice none 0 0,.slice none 0 0,.int .i64 0,.string ⟨#[]⟩,.string ⟨#[]⟩,.string ⟨#[]⟩,.int .i64 0,.int .i64 0,.int .i64 0,.string ⟨#[]⟩]) undef,cond f7 (.pointer (some ⟨P,0,none⟩)) undef,x33,x34,x35,x36,x37,x38,x39,x40,x41,x42,x43,x44,x45,x46,x47,x48,x49],[]⟩
inductive uV (b me:Nat) (g:bp) (s:S) (L:List (aF bp)) (cl:Nat) (V:World) (x0 x1 x2 x3 x4 x5 x6 x7 x8 x9 x10 x11 x12 x13 x14 x15 x16 x17 x18 x19 x20 x21 x22 x23 x24 x33 x34 x35 x36 x37 x38 x39 x40 x41 x42 x43 x44 x45 x46 x47 x48 x49:Value):Array Bool→Act→World→Prop where
 | mk (f0 f1 f2 f3 f4 f5 f6 f7 f8:Bool) (P:Nat) (w':World) (ch1:Hid (f1=true→f0=true)) (ch2:Hid (f2=true→f1=true)) (ch3:Hid (f3=true→f2=true)) (ch6:Hid (f6=true→f5=true)) (ch7:Hid (f7=true→f6=true)) (ch8:Hid (f8=true→f3=true∧f4=true∧f7=true)) (hB:(f8=false→Below V.heap.size V w')) (bx:(f7=true→f8=false→gm V.heap.size w' P [.string s,.int .u32 0,.int .i32 0,.int .u32 0,.bool false,.string ⟨#[]⟩,.string ⟨#[]⟩,.string ⟨#[]⟩,.string ⟨#[]⟩,.string ⟨#[]⟩,.string ⟨#[]⟩,.string ⟨#[]⟩,.slice none 0 0,.slice none 0 0,.slice none 0 0,.int .i64 0,.string ⟨#[]⟩,.string ⟨#[]⟩,.string ⟨#[]⟩,.int .i64 0,.int .i64 0,.int .i64 0,.string ⟨#[]⟩])) (fin:(f8=true → ∃ w1,Below V.heap.size V w1∧gm V.heap.size w1 P [.string s,.int .u32 0,.int .i32 0,.int .u32 0,.bool false,.string ⟨#[]⟩,.string ⟨#[]⟩,.string ⟨#[]⟩,.string ⟨#[]⟩,.string ⟨#[]⟩,.string ⟨#[]⟩,.string ⟨#[]⟩,.slice none 0 0,.slice none 0 0,.slice none 0 0,.int .i64 0,.string ⟨#[]⟩,.string ⟨#[]⟩,.string ⟨#[]⟩,.int .i64 0,.int .i64 0,.int .i64 0,.string ⟨#[]⟩]∧w'=fG fY w1 me (dV L g (.pointer (some ⟨P,0,none⟩)) cl) (fl L g cl))):uV b me g s L cl V x0 x1 x2 x3 x4 x5 x6 x7 x8 x9 x10 x11 x12 x13 x14 x15 x16 x17 x18 x19 x20 x21 x22 x23 x24 x33 x34 x35 x36 x37 x38 x39 x40 x41 x42 x43 x44 x45 x46 x47 x48 x49 #[f0,f1,f2,f3,f4,f5,f6,f7,f8] (ie b me g s x0 x1 x2 x3 x4 x5 x6 x7 x8 x9 x10 x11 x12 x13 x14 x15 x16 x17 x18 x19 x20 x21 x22 x23 x24 x33 x34 x35 x36 x37 x38 x39 x40 x41 x42 x43 x44 x45 x46 x47 x48 x49 f0 f1 f2 f3 f4 f5 f6 f7 f8 P) w'
theorem uV.at {b me:Nat} {g:bp} {s:S} {L:List (aF bp)} {cl:Nat} {V:World} {x0 x1 x2 x3 x4 x5 x6 x7 x8 x9 x10 x11 x12 x13 x14 x15 x16 x17 x18 x19 x20 x21 x22 x23 x24 x33 x34 x35 x36 x37 x38 x39 x40 x41 x42 x43 x44 x45 x46 x47 x48 x49:Value} {A:Array Bool} {D:Act} {w':World} (f0 f1 f2 f3 f4 f5 f6 f7 f8:Bool) (P:Nat) (I:A=#[f0,f1,f2,f3,f4,f5,f6,f7,f8]) (ha:D=ie b me g s x0 x1 x2 x3 x4 x5 x6 x7 x8 x9 x10 x11 x12 x13 x14 x15 x16 x17 x18 x19 x20 x21 x22 x23 x24 x33 x34 x35 x36 x37 x38 x39 x40 x41 x42 x43 x44 x45 x46 x47 x48 x49 f0 f1 f2 f3 f4 f5 f6 f7 f8 P) (ch1:Hid (f1=true→f0=true)) (ch2:Hid (f2=true→f1=true)) (ch3:Hid (f3=true→f2=true)) (ch6:Hid (f6=true→f5=true)) (ch7:Hid (f7=true→f6=true)) (ch8:Hid (f8=true→f3=true∧f4=true∧f7=true)) (hB:(f8=false→Below V.heap.size V w')) (bx:(f7=true→f8=false→gm V.heap.size w' P [.string s,.int .u32 0,.int .i32 0,.int .u32 0,.bool false,.string ⟨#[]⟩,.string ⟨#[]⟩,.string ⟨#[]⟩,.string ⟨#[]⟩,.string ⟨#[]⟩,.string ⟨#[]⟩,.string ⟨#[]⟩,.slice none 0 0,.slice none 0 0,.slice none 0 0,.int .i64 0,.string ⟨#[]⟩,.string ⟨#[]⟩,.string ⟨#[]⟩,.int .i64 0,.int .i64 0,.int .i64 0,.string ⟨#[]⟩])) (fin:(f8=true → ∃ w1,Below V.heap.size V w1∧gm V.heap.size w1 P [.string s,.int .u32 0,.int .i32 0,.int .u32 0,.bool false,.string ⟨#[]⟩,.string ⟨#[]⟩,.string ⟨#[]⟩,.string ⟨#[]⟩,.string ⟨#[]⟩,.string ⟨#[]⟩,.string ⟨#[]⟩,.slice none 0 0,.slice none 0 0,.slice none 0 0,.int .i64 0,.string ⟨#[]⟩,.string ⟨#[]⟩,.string ⟨#[]⟩,.int .i64 0,.int .i64 0,.int .i64 0,.string ⟨#[]⟩]∧w'=fG fY w1 me (dV L g (.pointer (some ⟨P,0,none⟩)) cl) (fl L g cl))):uV b me g s L cl V x0 x1 x2 x3 x4 x5 x6 x7 x8 x9 x10 x11 x12 x13 x14 x15 x16 x17 x18 x19 x20 x21 x22 x23 x24 x33 x34 x35 x36 x37 x38 x39 x40 x41 x42 x43 x44 x45 x46 x47 x48 x49 A D w':=by
 subst I ha;exact .mk f0 f1 f2 f3 f4 f5 f6 f7 f8 P w' ch1 ch2 ch3 ch6 ch7 ch8 hB bx fin
def ea (b mv GB:Nat) (g:bp) (es:List (bF × Nat)) (RV:Value) (x0 x1 x2 x3 x4 x5 x6 x7 x8 x9 x10 x11 x12 x13 x14 x15 x16 x17 x18 x19 x20 x21 x22 x23 x24 x25 x26 x27 x28 x29 x30 x31 x32:Value) (f0 f1 f2 f3 f4 f5 f6 f7 f8 f9 f10 f11 f12 f13 f14 f15 f16 _f17:Bool) (R:Nat) (q:Nat) (cap:Nat):Act :=
 ⟨#[x0,x1,x2,x3,x4,x5,x6,x7,x8,x9,x10,x11,x12,x13,x14,x15,x16,x17,x18,x19,x20,x21,x22,x23,x24,x25,x26,x27,x28,x29,x30,x31,x32,cond f0 (.pointer (some ⟨b,0,none⟩)) undef,cond f1 (.pointer (some ⟨b,0,none⟩)) undef,cond f2 (.pointer (some ⟨b,1,none⟩)) undef,cond f3 (.map (some mv)) undef,cond f4 (.agg #[.string g.group,.string g.artifact,.string g.version]) undef,cond f5 (.agg #[.string g.group,.string g.artifact]) undef,cond f6 (.pointer (some ⟨b,0,none⟩)) undef,cond f7 (.pointer (some ⟨b,0,none⟩)) undef,cond f8 (.pointer (some ⟨b,1,none⟩)) undef,cond f9 (.map (some mv)) undef,cond f10 (.agg #[.string g.group,.string g.artifact,.string g.version]) undef,cond f11 (.agg #[.string g.group,.string g.artifact]) undef,cond f12 (RV) undef,cond f13 (.pointer (some ⟨GB,2,none⟩)) undef,cond f14 (.string g.version) undef,cond f15 (.slice (some ⟨R,0,none⟩) 1 1) undef,cond f16 (.slice (some ⟨q,0,none⟩) (bT es (bh g)).length.succ cap) undef],[]⟩
inductive nI (b me mv GB:Nat) (r a:Int) (g:bp) (es:List (bF × Nat)) (RV:Value) (Vm:List (aF Id)) (cv:Nat) (V:World) (x0 x1 x2 x3 x4 x5 x6 x7 x8 x9 x10 x11 x12 x13 x14 x15 x16 x17 x18 x19 x20 x21 x22 x23 x24 x25 x26 x27 x28 x29 x30 x31 x32:Value):Array Bool→Act→World→Prop where
 | mk (f0 f1 f2 f3 f4 f5 f6 f7 f8 f9 f10 f11 f12 f13 f14 f15 f16 f17:Bool) (R:Nat) (q:Nat) (cap:Nat) (w':World) (ch1:Hid (f1=true→f0=true)) (ch2:Hid (f2=true→f1=true)) (ch3:Hid (f3=true→f2=true)) (ch5:Hid (f5=true→f4=true)) (ch7:Hid (f7=true→f6=true)) (ch8:Hid (f8=true→f7=true)) (ch9:Hid (f9=true→f8=true)) (ch11:Hid (f11=true→f10=true)) (ch12:Hid (f12=true→f9=true∧f11=true)) (ch14:Hid (f14=true→f13=true)) (ch15:Hid (f15=true→f14=true)) (ch16:Hid (f16=true→f12=true∧f15=true)) (ch17:Hid (f17=true→f3=true∧f5=true∧f16=true)) (hB:(f16=false→Below V.heap.size V w')) (bx:(f15=true→f16=false→ak w' R [.string g.version])) (rb:(f17=false→ak w' b [.map (some me),.map (some mv),.int .i64 r,.int .i64 a])) (rg:(f17=false→ak w' GB [.string g.group,.string g.artifact,.string g.version])) (rm:(f17=false→de oP w' mv Vm cv)) (ap:(f16=true→f17=false→uI V w' RV.ownBlock (.slice (some ⟨q,0,none⟩) (bT es (bh g)).length.succ cap) (bT es (bh g) ++ [g.version]))) (fin:(f17=true → ∃ w3,uI V w3 RV.ownBlock (.slice (some ⟨q,0,none⟩) (bT es (bh g)).length.succ cap) (bT es (bh g) ++ [g.version])∧w'=fG oP w3 mv (dV Vm (bh g) (.slice (some ⟨q,0,none⟩) (bT es (bh g)).length.succ cap) cv) (fl Vm (bh g) cv))):nI b me mv GB r a g es RV Vm cv V x0 x1 x2 x3 x4 x5 x6 x7 x8 x9 x10 x11 x12 x13 x14 x15 x16 x17 x18 x19 x20 x21 x22 x23 x24 x25 x26 x27 x28 x29 x30 x31 x32 #[f0,f1,f2,f3,f4,f5,f6,f7,f8,f9,f10,f11,f12,f13,f14,f15,f16,f17] (ea b mv GB g es RV x0 x1 x2 x3 x4 x5 x6 x7 x8 x9 x10 x11 x12 x13 x14 x15 x16 x17 x18 x19 x20 x21 x22 x23 x24 x25 x26 x27 x28 x29 x30 x31 x32 f0 f1 f2 f3 f4 f5 f6 f7 f8 f9 f10 f11 f12 f13 f14 f15 f16 f17 R q cap) w'
theorem nI.at {b me mv GB:Nat} {r a:Int} {g:bp} {es:List (bF × Nat)} {RV:Value} {Vm:List (aF Id)} {cv:Nat} {V:World} {x0 x1 x2 x3 x4 x5 x6 x7 x8 x9 x10 x11 x12 x13 x14 x15 x16 x17 x18 x19 x20 x21 x22 x23 x24 x25 x26 x27 x28 x29 x30 x31 x32:Value} {A:Array Bool} {D:Act} {w':World} (f0 f1 f2 f3 f4 f5 f6 f7 f8 f9 f10 f11 f12 f13 f14 f15 f16 f17:Bool) (R:Nat) (q:Nat) (cap:Nat) (I:A=#[f0,f1,f2,f3,f4,f5,f6,f7,f8,f9,f10,f11,f12,f13,f14,f15,f16,f17]) (ha:D=ea b mv GB g es RV x0 x1 x2 x3 x4 x5 x6 x7 x8 x9 x10 x11 x12 x13 x14 x15 x16 x17 x18 x19 x20 x21 x22 x23 x24 x25 x26 x27 x28 x29 x30 x31 x32 f0 f1 f2 f3 f4 f5 f6 f7 f8 f9 f10 f11 f12 f13 f14 f15 f16 f17 R q cap) (ch1:Hid (f1=true→f0=true)) (ch2:Hid (f2=true→f1=true)) (ch3:Hid (f3=true→f2=true)) (ch5:Hid (f5=true→f4=true)) (ch7:Hid (f7=true→f6=true)) (ch8:Hid (f8=true→f7=true)) (ch9:Hid (f9=true→f8=true)) (ch11:Hid (f11=true→f10=true)) (ch12:Hid (f12=true→f9=true∧f11=true)) (ch14:Hid (f14=true→f13=true)) (ch15:Hid (f15=true→f14=true)) (ch16:Hid (f16=true→f12=true∧f15=true)) (ch17:Hid (f17=true→f3=true∧f5=true∧f16=true)) (hB:(f16=false→Below V.heap.size V w')) (bx:(f15=true→f16=false→ak w' R [.string g.version])) (rb:(f17=false→ak w' b [.map (some me),.map (some mv),.int .i64 r,.int .i64 a])) (rg:(f17=false→ak w' GB [.string g.group,.string g.artifact,.string g.version])) (rm:(f17=false→de oP w' mv Vm cv)) (ap:(f16=true→f17=false→uI V w' RV.ownBlock (.slice (some ⟨q,0,none⟩) (bT es (bh g)).length.succ cap) (bT es (bh g) ++ [g.version]))) (fin:(f17=true → ∃ w3,uI V w3 RV.ownBlock (.slice (some ⟨q,0,none⟩) (bT es (bh g)).length.succ cap) (bT es (bh g) ++ [g.version])∧w'=fG oP w3 mv (dV Vm (bh g) (.slice (some ⟨q,0,none⟩) (bT es (bh g)).length.succ cap) cv) (fl Vm (bh g) cv))):nI b me mv GB r a g es RV Vm cv V x0 x1 x2 x3 x4 x5 x6 x7 x8 x9 x10 x11 x12 x13 x14 x15 x16 x17 x18 x19 x20 x21 x22 x23 x24 x25 x26 x27 x28 x29 x30 x31 x32 A D w':=by
 subst I ha;exact .mk f0 f1 f2 f3 f4 f5 f6 f7 f8 f9 f10 f11 f12 f13 f14 f15 f16 f17 R q cap w' ch1 ch2 ch3 ch5 ch7 ch8 ch9 ch11 ch12 ch14 ch15 ch16 ch17 hB bx rb rg rm ap fin
theorem ym (g:bp) (s:S) (w:World) {F:Nat→Prop} {b:Nat} {es:List (bF × Nat)} {r a:Int} (h:bR F w b es r a) (hg:vf g) :
    Calls Tryz.prog 22 #[jr b,.agg #[.string g.group,.string g.artifact,.string g.version],.string s] w (fL F b es r a g s w):=by
 have bv:=zH h;have HG:=zH hg;have hlt:b<w.heap.size:=by obtain ⟨me,mv,L,cl,V,cv,h⟩:=h; exact h.box.lt
 clear h hg;unfold jr;go_enter Tryz.func22,Tryz.ntmps22
 go_upto_region 1 with fail
 refine ai fun W hW=>?_
 have x0:ak W w.heap.size [.string g.group,.string g.artifact,.string g.version]:=by rw [hW]; exact ak.new w (gu g) _ _ rfl
 have hb:Below w.heap.size w W:=by rw [hW]; exact (Below.refl _ _).alloc (Nat.le_refl _) _
 clear hW;have HX:=zH x0;have HB:=zH hb;clear hb;obtain ⟨k0,k1,k2⟩:=ej x0;have kl:=x0.lt;clear x0;go_wp2_with fail
 refine (t8 g _ HG.out).mono ?_
 rintro e W1 ⟨rfl,dl⟩;have b2:=zH (HB.out.trans (dl.mono HB.out.size));have bo:=zH (HX.out.below dl HX.out.lt);clear dl HB HX k0 k1 k2 kl;cases hm:dI g with
 | false =>
  have al:Hid (fR es g=1):=by show _=_; unfold fR; rw [if_pos hm]
  clear hm;go_wp2_with fail
  go_ret
  exact fL.no bv.out al.out (by decide) b2.out
 | true =>
  have HM:=zH hm;clear hm;have em:=zH (bv.out.below b2.out);obtain ⟨k0,k1,k2⟩:=ej bo.out;have kl:=bo.out.lt;go_wp2_with fail
  refine (qW g _ em.out).mono ?_
  rintro e W2 ⟨rfl,dk⟩;have a0:=zH (b2.out.trans (dk.mono b2.out.size));have d6:=zH (bo.out.below dk bo.out.lt);clear dk b2 bo em k0 k1 k2 kl;cases hh:je es g with
  | true =>
   have al:Hid (fR es g=4):=by show _=_; unfold fR; rw [if_neg (by rw [HM.out]; simp),hh,if_pos rfl]
   clear hh;go_wp2_with fail
   go_ret
   exact fL.no bv.out al.out (by decide) a0.out
  | false =>
   have d7:=zH hh;clear hh;obtain ⟨me,mv,L,cl,V,cv,a4⟩:=bv.out;have J:Hid (aU F W2 b me mv L cl V cv es r a):=a4.only (aV.of (F:=fun _=>False) a0.out) (fun _ _=>id) fun e he=>(a4.ent e he).only (aV.of a0.out) (fun _ _=>id) (a0.out.block _ (a4.lt _ (a4.own.2.2.2 e he)));have en:Hid (∀ k,F k→k<w.heap.size):=a4.lt;clear a4;have hl : ∀ ty,(Builtin.len_ #[68] ty #[.map (some me)]).run Tryz.prog W2 = .ok (.int .i64 es.length) W2:=fun ty=>by
    rw [vc J.out.ents Tryz.underlying68 ty,J.out.len]
   have b0:=J.out.box.cell 0 _ rfl;have bl:=J.out.box.lt;by_cases h4:1024≤es.length
   · have d4:decide ((1024:Int)≤(es.length:Int))=true:=decide_eq_true (by omega)
     have d5:decide (1024≤es.length)=true:=decide_eq_true h4;have al:Hid (fR es g=2):=by show _=_; unfold fR; rw [if_neg (by rw [HM.out]; simp),d7.out,if_neg (by simp),if_pos h4]
     clear h4;go_wp2_with fail
     go_ret
     exact fL.no bv.out al.out (by decide) a0.out
   · have d4:decide ((1024:Int)≤(es.length:Int))=false:=decide_eq_false (by omega)
     have d5:decide (1024≤es.length)=false:=decide_eq_false h4;have al:Hid (fR es g=0):=by show _=_; unfold fR; rw [if_neg (by rw [HM.out]; simp),d7.out,if_neg (by simp),if_neg h4]
     have hv:Hid ((bT es (bh g)).length≤1024):=by
      show _≤_
      unfold bT;have:=List.length_filter_le (fun g'=>decide (bh g'=bh g)) (es.map fun e=>e.1.gav)
      rw [List.length_map] at this ⊢;omega
     clear h4;go_upto_region 9 with fail
     clear d4 d5 hl b0 bl;have ag:=zH J.out.box;have d8:=zH J.out.ents;have HX:=d6;refine bm (uV b me g s L cl W2 _ _ _ _ _ _ _ _ _ _ _ _ _ _ _ _ _ _ _ _ _ _ _ _ _ _ _ _ _ _ _ _ _ _ _ _ _ _ _ _ _ _) (by kernel_rfl) 9 rfl (by kernel_rfl) (uV.at false false false false false false false false false (0) rfl (by unfold ie; rfl) ?i0 ?i1 ?i2 ?i3 ?i4 ?i5 ?i6 ?i7 ?i8) ?fin ?step
     case i0=>exact zH (by simp)
     case i1=>exact zH (by simp)
     case i2=>exact zH (by simp)
     case i3=>exact zH (by simp)
     case i4=>exact zH (by simp)
     case i5=>exact zH (by simp)
     case i6=>exact fun h0=>aY (Below.refl _ _) 1
     case i7=>exact by simp
     case i8=>exact by simp
     case fin =>
      intro a' w' hJ;generalize hl:Array.replicate 9 true=Lz at hJ;cases hJ with
      | mk f0 f1 f2 f3 f4 f5 f6 f7 f8 P _ ch1 ch2 ch3 ch6 ch7 ch8 hB bx fin =>
       have bb:[true,true,true,true,true,true,true,true,true]=[f0,f1,f2,f3,f4,f5,f6,f7,f8]:=congrArg Array.toList hl;simp only [List.cons.injEq,and_true] at bb;obtain ⟨rfl,rfl,rfl,rfl,rfl,rfl,rfl,rfl,rfl⟩:=bb;clear hl;unfold ie;simp only [cond_true];obtain ⟨w5,ei,ed,eg⟩:=fin rfl;clear ch1 ch2 ch3 ch6 ch7 ch8 hB bx fin;obtain ⟨W6,dr⟩ : ∃ W6:World,W6=w':=⟨_,rfl⟩;rw [← dr];have b9:Hid (W6=_):=dr.trans eg;clear dr eg;have a6:=zH ei;have b8:=zH ed;clear ei ed ag d8;obtain ⟨RV,ba⟩ : ∃ RV,RV=fe V (bh g):=⟨_,rfl⟩;have bc:w5.grownBy W6 (some me):=by rw [b9.out]; exact fW _ _ _ _
       have bg : ∀ k,RV.ownBlock=some k→F k∧k≠b∧k≠me∧k≠mv ∧ ∀ e ∈ es,e.2≠k:=fun k hk=>J.out.rowV_at (bh g) (by rw [← ba]; exact hk);have c8:=J.out.ne;have a8:=J.out.own;have ag:Hid (ak W6 b [.map (some me),.map (some mv),.int .i64 r,.int .i64 a]):=(J.out.box.below a6.out J.out.box.lt).grown bc (fun e=>c8.1 (by cases e; rfl));have HX:Hid (ak W6 w.heap.size [.string g.group,.string g.artifact,.string g.version]):=(d6.out.below a6.out d6.out.lt).grown bc (fun e=>by have:=en.out me a8.2.1; cases e; omega);have hs:Hid (de oP W6 mv V cv):=(J.out.vers.below a6.out J.out.vers.lt).grown bc (fun e=>c8.2.2.1 (by cases e; rfl))
       have hd:Hid (aj 0 9 1 gq W6 RV (bT es (bh g))):=by
        have h1:=J.out.rowV_owns (bh g);rw [← ba] at h1;exact (h1.below a6.out).only (aV.grown (F:=fun k=>k=me) bc (by rintro k ⟨⟩; rfl)) (fun k hk e=>(bg k hk).2.2.1 e)
       have ht:Hid (∀ w',de oP w' mv V cv→(Instr.lookup 69 (.map (some mv)) (.agg #[.string g.group,.string g.artifact]) false).run Tryz.prog w' = .ok RV w'):=fun w' h=>by rw [ba]; exact sz (bh g) h
       have hr:Hid (some b≠RV.ownBlock):=fun e=>(bg b e.symm).2.1 rfl;have hq:Hid (some w.heap.size≠RV.ownBlock):=fun e=>by have:=en.out _ (bg _ e.symm).1; omega
       have hj:Hid (some mv≠RV.ownBlock):=fun e=>(bg mv e.symm).2.2.2.1 rfl;have gv:=zH ba;clear ba bc bg c8 a8;go_upto_region 10 with fail
       refine bm (nI b me mv w.heap.size r a g es RV V cv W6 _ _ _ _ _ _ _ _ _ _ _ _ _ _ _ _ _ _ _ _ _ _ _ _ _ _ _ _ _ _ _ _ _) (by kernel_rfl) 18 rfl (by kernel_rfl) (nI.at false false false false false false false false false false false false false false false false false false (0) (0) (0) rfl (by unfold ea; rfl) ?j0 ?j1 ?j2 ?j3 ?j4 ?j5 ?j6 ?j7 ?j8 ?j9 ?j10 ?j11 ?j12 ?j13 ?j14 ?j15 ?j16 ?j17 ?j18 ?j19) ?fin2 ?step2
       case j0=>exact zH (by simp)
       case j1=>exact zH (by simp)
       case j2=>exact zH (by simp)
       case j3=>exact zH (by simp)
       case j4=>exact zH (by simp)
       case j5=>exact zH (by simp)
       case j6=>exact zH (by simp)
       case j7=>exact zH (by simp)
       case j8=>exact zH (by simp)
       case j9=>exact zH (by simp)
       case j10=>exact zH (by simp)
       case j11=>exact zH (by simp)
       case j12=>exact zH (by simp)
       case j13=>exact fun h0=>aY (Below.refl _ _) 1
       case j14=>exact by simp
       case j15=>exact fun _=>ag.out.drewN 1
       case j16=>exact fun _=>HX.out.drewN 1
       case j17=>exact fun _=>hs.out
       case j18=>exact by simp
       case j19=>exact by simp
       case fin2 =>
        intro a' w' hJ;generalize hl:Array.replicate 18 true=Lz at hJ;cases hJ with
        | mk f0 f1 f2 f3 f4 f5 f6 f7 f8 f9 f10 f11 f12 f13 f14 f15 f16 f17 R q cap _ ch1 ch2 ch3 ch5 ch7 ch8 ch9 ch11 ch12 ch14 ch15 ch16 ch17 hB bx rb rg rm ap fin =>
         have bb:[true,true,true,true,true,true,true,true,true,true,true,true,true,true,true,true,true,true]=[f0,f1,f2,f3,f4,f5,f6,f7,f8,f9,f10,f11,f12,f13,f14,f15,f16,f17]:=congrArg Array.toList hl;simp only [List.cons.injEq,and_true] at bb;obtain ⟨rfl,rfl,rfl,rfl,rfl,rfl,rfl,rfl,rfl,rfl,rfl,rfl,rfl,rfl,rfl,rfl,rfl,rfl⟩:=bb;clear hl;unfold ea;simp only [cond_true];obtain ⟨w7,b7,ef⟩:=fin rfl;clear ch1 ch2 ch3 ch5 ch7 ch8 ch9 ch11 ch12 ch14 ch15 ch16 ch17 hB bx rb rg rm ap fin;obtain ⟨W8,dn⟩ : ∃ W8:World,W8=w':=⟨_,rfl⟩;rw [← dn];have cf:=zH b7;have el:Hid (W8=_):=dn.trans ef;clear b7 ef dn;go_wp2
         go_ret
         obtain rfl:=gv.out;obtain ⟨⟨F',hp,hF⟩,ho⟩:=J.out.put d7.out a6.out b8.out.2 b8.out.1 (w2:=W6) (by unfold jr; rw [← show W6=_ from b9.out]; exact Below.refl _ _) cf.out.1 cf.out.2.1 (cf.out.2.2.imp id fun ⟨k,h1,h2⟩=>⟨k,by rw [show W6=_ from b9.out] at h1; simpa [fG] using h1,h2⟩) el.out;refine ⟨by rw [al.out]; rfl,(aV.of a0.out).trans ho fun _ _=>id,F',_,⟨_,_,_,_,_,_,hp⟩,fun k hk g4=>hF k (Nat.lt_of_lt_of_le hk a0.out.size) g4,fun h=>absurd al.out h,fun _=>⟨P,rfl⟩,fun hf=>J.out.put_fresh a6.out b8.out.2 b8.out.1 (w2:=W6) (by unfold jr; rw [← show W6=_ from b9.out]; exact Below.refl _ _) cf.out.1 el.out (hf.below a0.out)⟩
       case step2 =>
        intro cT a' w' hJ i hi;cases hJ with
        | mk f0 f1 f2 f3 f4 f5 f6 f7 f8 f9 f10 f11 f12 f13 f14 f15 f16 f17 R q cap _ ch1 ch2 ch3 ch5 ch7 ch8 ch9 ch11 ch12 ch14 ch15 ch16 ch17 hB bx rb rg rm ap fin =>
         rw [mem_ready] at hi;obtain ⟨A,o,ho,ha⟩:=hi;have g5:i<18:=(Array.getElem?_eq_some_iff.1 ho).1;rcases (by omega:i=0∨i=1∨i=2∨i=3∨i=4∨i=5∨i=6∨i=7∨i=8∨i=9∨i=10∨i=11∨i=12∨i=13∨i=14∨i=15∨i=16∨i=17) with rfl | rfl | rfl | rfl | rfl | rfl | rfl | rfl | rfl | rfl | rfl | rfl | rfl | rfl | rfl | rfl | rfl | rfl
         · have I:=ho
           simp at A ho;subst A ho;clear ha;have e1:f1=false:=zN fun h=>((ch1.out h));have e2:f2=false:=zN fun h=>((ch1.out (ch2.out h)));have e3:f3=false:=zN fun h=>((ch1.out (ch2.out (ch3.out h))));have D:f17=false:=zN fun h=>((ch1.out (ch2.out (ch3.out (ch17.out h).1))));subst e1 e2 e3 D;refine .inl ?_
           unfold ea Oper.wp;go_simp
           exact nI.at true false false false f4 f5 f6 f7 f8 f9 f10 f11 f12 f13 f14 f15 f16 false (R) (q) (cap) rfl rfl (zH (by simp)) (zH (by simp)) (zH (by simp)) (ch5) (ch7) (ch8) (ch9) (ch11) (ch12) (ch14) (ch15) (ch16) (zH (by simp)) (hB) (bx) (rb) (rg) (rm) (ap) (by simp)
         · have I:=ho
           simp at A ho;subst A ho;simp [Region.binds] at ha
           obtain rfl:f0=true:=by simp only [ha]
           clear ha;have e2:f2=false:=zN fun h=>((ch2.out h));have e3:f3=false:=zN fun h=>((ch2.out (ch3.out h)));have D:f17=false:=zN fun h=>((ch2.out (ch3.out (ch17.out h).1)));subst e2 e3 D;have kb:=(rb rfl).cell 0 _ rfl;have kl:=(rb rfl).lt;refine .inl ?_
           unfold ea Oper.wp;go_simp
           exact nI.at true true false false f4 f5 f6 f7 f8 f9 f10 f11 f12 f13 f14 f15 f16 false (R) (q) (cap) rfl rfl (zH (by simp)) (zH (by simp)) (zH (by simp)) (ch5) (ch7) (ch8) (ch9) (ch11) (ch12) (ch14) (ch15) (ch16) (zH (by simp)) (hB) (bx) (rb) (rg) (rm) (ap) (by simp)
         · have I:=ho
           simp at A ho;subst A ho;simp [Region.binds] at ha
           obtain rfl:f1=true:=by simp only [ha]
           clear ha;obtain rfl:f0=true:=(ch1.out rfl);have e3:f3=false:=zN fun h=>((ch3.out h));have D:f17=false:=zN fun h=>((ch3.out (ch17.out h).1));subst e3 D;refine .inl ?_
           unfold ea Oper.wp;go_simp
           exact nI.at true true true false f4 f5 f6 f7 f8 f9 f10 f11 f12 f13 f14 f15 f16 false (R) (q) (cap) rfl rfl (zH (by simp)) (zH (by simp)) (zH (by simp)) (ch5) (ch7) (ch8) (ch9) (ch11) (ch12) (ch14) (ch15) (ch16) (zH (by simp)) (hB) (bx) (rb) (rg) (rm) (ap) (by simp)
         · have I:=ho
           simp at A ho;subst A ho;simp [Region.binds] at ha
           obtain rfl:f2=true:=by simp only [ha]
           clear ha;obtain rfl:f1=true:=(ch2.out rfl);obtain rfl:f0=true:=(ch1.out (ch2.out rfl));have D:f17=false:=zN fun h=>((ch17.out h).1);subst D;have kb:=(rb rfl).cell 1 _ rfl;have kl:=(rb rfl).lt;refine .inl ?_
           unfold ea Oper.wp;go_simp
           exact nI.at true true true true f4 f5 f6 f7 f8 f9 f10 f11 f12 f13 f14 f15 f16 false (R) (q) (cap) rfl rfl (zH (by simp)) (zH (by simp)) (zH (by simp)) (ch5) (ch7) (ch8) (ch9) (ch11) (ch12) (ch14) (ch15) (ch16) (zH (by simp)) (hB) (bx) (rb) (rg) (rm) (ap) (by simp)
         · have I:=ho
           simp at A ho;subst A ho;clear ha;have e5:f5=false:=zN fun h=>((ch5.out h));have D:f17=false:=zN fun h=>((ch5.out (ch17.out h).2.1));subst e5 D;obtain ⟨k0,k1,k2⟩:=ej (rg rfl);have kl:=(rg rfl).lt;refine .inl ?_
           unfold ea Oper.wp;go_simp
           exact nI.at f0 f1 f2 f3 true false f6 f7 f8 f9 f10 f11 f12 f13 f14 f15 f16 false (R) (q) (cap) rfl rfl (ch1) (ch2) (ch3) (zH (by simp)) (ch7) (ch8) (ch9) (ch11) (ch12) (ch14) (ch15) (ch16) (zH (by simp)) (hB) (bx) (rb) (rg) (rm) (ap) (by simp)
         · have I:=ho
           simp at A ho;subst A ho;simp [Region.binds] at ha
           obtain rfl:f4=true:=by simp only [ha]
           clear ha;have D:f17=false:=zN fun h=>((ch17.out h).2.1);subst D;refine .inl ?_
           unfold ea Oper.wp;go_simp
           refine (yF g w').mono ?_
           intro e w1 hO;obtain ⟨rfl,hb⟩:=hO;exact nI.at f0 f1 f2 f3 true true f6 f7 f8 f9 f10 f11 f12 f13 f14 f15 f16 false (R) (q) (cap) rfl rfl (ch1) (ch2) (ch3) (zH (by simp)) (ch7) (ch8) (ch9) (ch11) (ch12) (ch14) (ch15) (ch16) (zH (by simp)) (fun h0=>(hB h0).trans (hb.mono (hB h0).size)) (fun h0 h1=>BoxS.later (bx h0 h1) hb) (fun h0=>BoxS.later (rb h0) hb) (fun h0=>BoxS.later (rg h0) hb) (fun h0=>(rm h0).later hb) (fun h0 h1=>(ap h0 h1).later hb) (by simp)
         · have I:=ho
           simp at A ho;subst A ho;clear ha;have e7:f7=false:=zN fun h=>((ch7.out h));have Z:f8=false:=zN fun h=>((ch7.out (ch8.out h)));have e9:f9=false:=zN fun h=>((ch7.out (ch8.out (ch9.out h))));have aa:f12=false:=zN fun h=>((ch7.out (ch8.out (ch9.out (ch12.out h).1))));have O:f16=false:=zN fun h=>((ch7.out (ch8.out (ch9.out (ch12.out (ch16.out h).1).1))));have D:f17=false:=zN fun h=>((ch7.out (ch8.out (ch9.out (ch12.out (ch16.out (ch17.out h).2.2).1).1))));subst e7 Z e9 aa O D;refine .inl ?_
           unfold ea Oper.wp;go_simp
           exact nI.at f0 f1 f2 f3 f4 f5 true false false false f10 f11 false f13 f14 f15 false false (R) (q) (cap) rfl rfl (ch1) (ch2) (ch3) (ch5) (zH (by simp)) (zH (by simp)) (zH (by simp)) (ch11) (zH (by simp)) (ch14) (ch15) (zH (by simp)) (zH (by simp)) (hB) (bx) (rb) (rg) (rm) (by simp) (by simp)
         · have I:=ho
           simp at A ho;subst A ho;simp [Region.binds] at ha
           obtain rfl:f6=true:=by simp only [ha]
           clear ha;have Z:f8=false:=zN fun h=>((ch8.out h));have e9:f9=false:=zN fun h=>((ch8.out (ch9.out h)));have aa:f12=false:=zN fun h=>((ch8.out (ch9.out (ch12.out h).1)));have O:f16=false:=zN fun h=>((ch8.out (ch9.out (ch12.out (ch16.out h).1).1)));have D:f17=false:=zN fun h=>((ch8.out (ch9.out (ch12.out (ch16.out (ch17.out h).2.2).1).1)));subst Z e9 aa O D;have kb:=(rb rfl).cell 0 _ rfl;have kl:=(rb rfl).lt;refine .inl ?_
           unfold ea Oper.wp;go_simp
           exact nI.at f0 f1 f2 f3 f4 f5 true true false false f10 f11 false f13 f14 f15 false false (R) (q) (cap) rfl rfl (ch1) (ch2) (ch3) (ch5) (zH (by simp)) (zH (by simp)) (zH (by simp)) (ch11) (zH (by simp)) (ch14) (ch15) (zH (by simp)) (zH (by simp)) (hB) (bx) (rb) (rg) (rm) (by simp) (by simp)
         · have I:=ho
           simp at A ho;subst A ho;simp [Region.binds] at ha
           obtain rfl:f7=true:=by simp only [ha]
           clear ha;obtain rfl:f6=true:=(ch7.out rfl);have e9:f9=false:=zN fun h=>((ch9.out h));have aa:f12=false:=zN fun h=>((ch9.out (ch12.out h).1));have O:f16=false:=zN fun h=>((ch9.out (ch12.out (ch16.out h).1).1));have D:f17=false:=zN fun h=>((ch9.out (ch12.out (ch16.out (ch17.out h).2.2).1).1));subst e9 aa O D;refine .inl ?_
           unfold ea Oper.wp;go_simp
           exact nI.at f0 f1 f2 f3 f4 f5 true true true false f10 f11 false f13 f14 f15 false false (R) (q) (cap) rfl rfl (ch1) (ch2) (ch3) (ch5) (zH (by simp)) (zH (by simp)) (zH (by simp)) (ch11) (zH (by simp)) (ch14) (ch15) (zH (by simp)) (zH (by simp)) (hB) (bx) (rb) (rg) (rm) (by simp) (by simp)
         · have I:=ho
           simp at A ho;subst A ho;simp [Region.binds] at ha
           obtain rfl:f8=true:=by simp only [ha]
           clear ha;obtain rfl:f7=true:=(ch8.out rfl);obtain rfl:f6=true:=(ch7.out (ch8.out rfl));have aa:f12=false:=zN fun h=>((ch12.out h).1);have O:f16=false:=zN fun h=>((ch12.out (ch16.out h).1).1);have D:f17=false:=zN fun h=>((ch12.out (ch16.out (ch17.out h).2.2).1).1);subst aa O D;have kb:=(rb rfl).cell 1 _ rfl;have kl:=(rb rfl).lt;refine .inl ?_
           unfold ea Oper.wp;go_simp
           exact nI.at f0 f1 f2 f3 f4 f5 true true true true f10 f11 false f13 f14 f15 false false (R) (q) (cap) rfl rfl (ch1) (ch2) (ch3) (ch5) (zH (by simp)) (zH (by simp)) (zH (by simp)) (ch11) (zH (by simp)) (ch14) (ch15) (zH (by simp)) (zH (by simp)) (hB) (bx) (rb) (rg) (rm) (by simp) (by simp)
         · have I:=ho
           simp at A ho;subst A ho;clear ha;have g8:f11=false:=zN fun h=>((ch11.out h));have aa:f12=false:=zN fun h=>((ch11.out (ch12.out h).2));have O:f16=false:=zN fun h=>((ch11.out (ch12.out (ch16.out h).1).2));have D:f17=false:=zN fun h=>((ch11.out (ch12.out (ch16.out (ch17.out h).2.2).1).2));subst g8 aa O D;obtain ⟨k0,k1,k2⟩:=ej (rg rfl);have kl:=(rg rfl).lt;refine .inl ?_
           unfold ea Oper.wp;go_simp
           exact nI.at f0 f1 f2 f3 f4 f5 f6 f7 f8 f9 true false false f13 f14 f15 false false (R) (q) (cap) rfl rfl (ch1) (ch2) (ch3) (ch5) (ch7) (ch8) (ch9) (zH (by simp)) (zH (by simp)) (ch14) (ch15) (zH (by simp)) (zH (by simp)) (hB) (bx) (rb) (rg) (rm) (by simp) (by simp)
         · have I:=ho
           simp at A ho;subst A ho;simp [Region.binds] at ha
           obtain rfl:f10=true:=by simp only [ha]
           clear ha;have aa:f12=false:=zN fun h=>((ch12.out h).2);have O:f16=false:=zN fun h=>((ch12.out (ch16.out h).1).2);have D:f17=false:=zN fun h=>((ch12.out (ch16.out (ch17.out h).2.2).1).2);subst aa O D;have hS:=(hB rfl).size;refine .inl ?_
           unfold ea Oper.wp;go_simp
           refine (yF g w').mono ?_
           intro e w1 hO;obtain ⟨rfl,hb⟩:=hO;exact nI.at f0 f1 f2 f3 f4 f5 f6 f7 f8 f9 true true false f13 f14 f15 false false (R) (q) (cap) rfl rfl (ch1) (ch2) (ch3) (ch5) (ch7) (ch8) (ch9) (zH (by simp)) (zH (by simp)) (ch14) (ch15) (zH (by simp)) (zH (by simp)) (fun h0=>(hB h0).trans (hb.mono hS)) (fun h0 h1=>BoxS.later (bx h0 h1) hb) (fun h0=>BoxS.later (rb h0) hb) (fun h0=>BoxS.later (rg h0) hb) (fun h0=>(rm h0).later hb) (by simp) (by simp)
         · have I:=ho
           simp at A ho;subst A ho;simp [Region.binds] at ha
           obtain rfl:f9=true:=by simp only [ha]
           obtain rfl:f11=true:=by simp only [ha]
           clear ha;obtain rfl:f10=true:=(ch11.out rfl);obtain rfl:f8=true:=(ch9.out rfl);obtain rfl:f7=true:=(ch8.out (ch9.out rfl));obtain rfl:f6=true:=(ch7.out (ch8.out (ch9.out rfl)));have O:f16=false:=zN fun h=>((ch16.out h).1);have D:f17=false:=zN fun h=>((ch16.out (ch17.out h).2.2).1);subst O D;have kr:=ht.out w' (rm rfl);refine .inl ?_
           unfold ea Oper.wp;go_simp
           exact nI.at f0 f1 f2 f3 f4 f5 true true true true true true true f13 f14 f15 false false (R) (q) (cap) rfl rfl (ch1) (ch2) (ch3) (ch5) (zH (by simp)) (zH (by simp)) (zH (by simp)) (zH (by simp)) (zH (by simp)) (ch14) (ch15) (zH (by simp)) (zH (by simp)) (hB) (bx) (rb) (rg) (rm) (by simp) (by simp)
         · have I:=ho
           simp at A ho;subst A ho;clear ha;have g7:f14=false:=zN fun h=>((ch14.out h));have d3:f15=false:=zN fun h=>((ch14.out (ch15.out h)));have O:f16=false:=zN fun h=>((ch14.out (ch15.out (ch16.out h).2)));have D:f17=false:=zN fun h=>((ch14.out (ch15.out (ch16.out (ch17.out h).2.2).2)));subst g7 d3 O D;refine .inl ?_
           unfold ea Oper.wp;go_simp
           exact nI.at f0 f1 f2 f3 f4 f5 f6 f7 f8 f9 f10 f11 f12 true false false false false (R) (q) (cap) rfl rfl (ch1) (ch2) (ch3) (ch5) (ch7) (ch8) (ch9) (ch11) (ch12) (zH (by simp)) (zH (by simp)) (zH (by simp)) (zH (by simp)) (hB) (by simp) (rb) (rg) (rm) (by simp) (by simp)
         · have I:=ho
           simp at A ho;subst A ho;simp [Region.binds] at ha
           obtain rfl:f13=true:=by simp only [ha]
           clear ha;have d3:f15=false:=zN fun h=>((ch15.out h));have O:f16=false:=zN fun h=>((ch15.out (ch16.out h).2));have D:f17=false:=zN fun h=>((ch15.out (ch16.out (ch17.out h).2.2).2));subst d3 O D;obtain ⟨k0,k1,k2⟩:=ej (rg rfl);have kl:=(rg rfl).lt;refine .inl ?_
           unfold ea Oper.wp;go_simp
           exact nI.at f0 f1 f2 f3 f4 f5 f6 f7 f8 f9 f10 f11 f12 true true false false false (R) (q) (cap) rfl rfl (ch1) (ch2) (ch3) (ch5) (ch7) (ch8) (ch9) (ch11) (ch12) (zH (by simp)) (zH (by simp)) (zH (by simp)) (zH (by simp)) (hB) (by simp) (rb) (rg) (rm) (by simp) (by simp)
         · have I:=ho
           simp at A ho;subst A ho;simp [Region.binds] at ha
           obtain rfl:f14=true:=by simp only [ha]
           clear ha;obtain rfl:f13=true:=(ch14.out rfl);have O:f16=false:=zN fun h=>((ch16.out h).2);have D:f17=false:=zN fun h=>((ch16.out (ch17.out h).2.2).2);subst O D;have hS:=(hB rfl).size;have a5:=fun o=>(Below.refl w'.heap.size w').alloc (Nat.le_refl w'.heap.size) o;refine .inl ?_
           unfold ea Oper.wp;go_simp
           exact nI.at f0 f1 f2 f3 f4 f5 f6 f7 f8 f9 f10 f11 f12 true true true false false (w'.heap.size) (q) (cap) rfl rfl (ch1) (ch2) (ch3) (ch5) (ch7) (ch8) (ch9) (ch11) (ch12) (zH (by simp)) (zH (by simp)) (zH (by simp)) (zH (by simp)) (fun h0=>(hB h0).trans ((a5 _).mono hS)) (fun h0 h1=>ak.new w' [.string g.version] _ _ rfl) (fun h0=>BoxS.later (rb h0) (a5 _)) (fun h0=>BoxS.later (rg h0) (a5 _)) (fun h0=>(rm h0).later (a5 _)) (by simp) (by simp)
         · have I:=ho
           simp at A ho;subst A ho;simp [Region.binds] at ha
           obtain rfl:f12=true:=by simp only [ha]
           obtain rfl:f15=true:=by simp only [ha]
           clear ha;obtain rfl:f14=true:=(ch15.out rfl);obtain rfl:f13=true:=(ch14.out (ch15.out rfl));obtain rfl:f11=true:=(ch12.out rfl).2;obtain rfl:f10=true:=(ch11.out (ch12.out rfl).2);obtain rfl:f9=true:=(ch12.out rfl).1;obtain rfl:f8=true:=(ch9.out (ch12.out rfl).1);obtain rfl:f7=true:=(ch8.out (ch9.out (ch12.out rfl).1));obtain rfl:f6=true:=(ch7.out (ch8.out (ch9.out (ch12.out rfl).1)));have D:f17=false:=zN fun h=>((ch17.out h).2.2);subst D;have U:=hB rfl;have dg:=bx rfl rfl;have hN:=U.size;refine .inl ?_
           unfold ea;refine jZ rfl (.tmp 45) (.tmp 48) 36 rfl 0 9 Tryz.underlying36 sI rfl (by decide) xT RV (bT es (bh g)) (by simp [Act.eval]) (hd.out.below U) R g.version (by simp [Act.eval]) (fun j u A=>dg.cell j u A) (by intro u A; obtain rfl:=List.mem_singleton.1 A; rfl) (by have:=hv.out; omega) (by decide) (Nat.zero_le _) w'.heap.size rfl ?_
           intro q2 ga w1 a8 b6 e4 hlt;have eV:=jB U b6;exact nI.at f0 f1 f2 f3 f4 f5 true true true true true true true true true true true false (R) (q2) (ga) rfl rfl (ch1) (ch2) (ch3) (ch5) (zH (by simp)) (zH (by simp)) (zH (by simp)) (zH (by simp)) (zH (by simp)) (zH (by simp)) (zH (by simp)) (zH (by simp)) (zH (by simp)) (by simp) (by simp) (fun _=>(rb rfl).grown b6 hr.out) (fun _=>(rg rfl).grown b6 hq.out) (fun _=>(rm rfl).grown b6 hj.out) (fun _ _=>⟨eV,a8,e4.elim (fun e=>.inl e.symm) (fun e=>.inr ⟨q2,by omega,rfl⟩)⟩) (by simp)
         · have I:=ho
           simp at A ho;subst A ho;simp [Region.binds] at ha
           obtain rfl:f3=true:=by simp only [ha]
           obtain rfl:f5=true:=by simp only [ha]
           obtain rfl:f16=true:=by simp only [ha]
           clear ha;obtain rfl:f15=true:=(ch16.out rfl).2;obtain rfl:f14=true:=(ch15.out (ch16.out rfl).2);obtain rfl:f13=true:=(ch14.out (ch15.out (ch16.out rfl).2));obtain rfl:f12=true:=(ch16.out rfl).1;obtain rfl:f11=true:=(ch12.out (ch16.out rfl).1).2;obtain rfl:f10=true:=(ch11.out (ch12.out (ch16.out rfl).1).2);obtain rfl:f9=true:=(ch12.out (ch16.out rfl).1).1;obtain rfl:f8=true:=(ch9.out (ch12.out (ch16.out rfl).1).1);obtain rfl:f7=true:=(ch8.out (ch9.out (ch12.out (ch16.out rfl).1).1));obtain rfl:f6=true:=(ch7.out (ch8.out (ch9.out (ch12.out (ch16.out rfl).1).1)));obtain rfl:f4=true:=(ch5.out rfl);obtain rfl:f2=true:=(ch3.out rfl);obtain rfl:f1=true:=(ch2.out (ch3.out rfl));obtain rfl:f0=true:=(ch1.out (ch2.out (ch3.out rfl)));have b7:=ap rfl rfl;refine .inl ?_
           unfold ea;refine pr 69 (.tmp 36) (.tmp 38) (.tmp 49) rfl (.map (some mv)) (.agg #[.string g.group,.string g.artifact]) (.slice (some ⟨q,0,none⟩) (bT es (bh g)).length.succ cap) (by simp [Act.eval]) (by simp [Act.eval]) (by simp [Act.eval]) (Ad (bh g) (.slice (some ⟨q,0,none⟩) (bT es (bh g)).length.succ cap) (rm rfl)) ?_
           exact nI.at true true true true true true true true true true true true true true true true true true (R) (q) (cap) rfl rfl (zH (by simp)) (zH (by simp)) (zH (by simp)) (zH (by simp)) (zH (by simp)) (zH (by simp)) (zH (by simp)) (zH (by simp)) (zH (by simp)) (zH (by simp)) (zH (by simp)) (zH (by simp)) (zH (by simp)) (by simp) (by simp) (by simp) (by simp) (by simp) (by simp) (fun _=>⟨w',b7,rfl⟩)
     case step =>
      intro cT a' w' hJ i hi;cases hJ with
      | mk f0 f1 f2 f3 f4 f5 f6 f7 f8 P _ ch1 ch2 ch3 ch6 ch7 ch8 hB bx fin =>
       rw [mem_ready] at hi;obtain ⟨A,o,ho,ha⟩:=hi;have g5:i<9:=(Array.getElem?_eq_some_iff.1 ho).1;rcases (by omega:i=0∨i=1∨i=2∨i=3∨i=4∨i=5∨i=6∨i=7∨i=8) with rfl | rfl | rfl | rfl | rfl | rfl | rfl | rfl | rfl
       · have I:=ho
         simp at A ho;subst A ho;clear ha;have e1:f1=false:=zN fun h=>((ch1.out h));have e2:f2=false:=zN fun h=>((ch1.out (ch2.out h)));have e3:f3=false:=zN fun h=>((ch1.out (ch2.out (ch3.out h))));have Z:f8=false:=zN fun h=>((ch1.out (ch2.out (ch3.out (ch8.out h).1))));subst e1 e2 e3 Z;refine .inl ?_
         unfold ie Oper.wp;go_simp
         exact uV.at true false false false f4 f5 f6 f7 false (P) rfl rfl (zH (by simp)) (zH (by simp)) (zH (by simp)) (ch6) (ch7) (zH (by simp)) (hB) (bx) (by simp)
       · have I:=ho
         simp at A ho;subst A ho;simp [Region.binds] at ha
         obtain rfl:f0=true:=by simp only [ha]
         clear ha;have e2:f2=false:=zN fun h=>((ch2.out h));have e3:f3=false:=zN fun h=>((ch2.out (ch3.out h)));have Z:f8=false:=zN fun h=>((ch2.out (ch3.out (ch8.out h).1)));subst e2 e3 Z;have U:=hB rfl;have k0:=(U.cell (p:=⟨b,0,none⟩) (by exact ag.out.lt)).trans (ag.out.cell 0 _ rfl);have kl:=Nat.lt_of_lt_of_le ag.out.lt U.size;refine .inl ?_
         unfold ie Oper.wp;go_simp
         exact uV.at true true false false f4 f5 f6 f7 false (P) rfl rfl (zH (by simp)) (zH (by simp)) (zH (by simp)) (ch6) (ch7) (zH (by simp)) (hB) (bx) (by simp)
       · have I:=ho
         simp at A ho;subst A ho;simp [Region.binds] at ha
         obtain rfl:f1=true:=by simp only [ha]
         clear ha;obtain rfl:f0=true:=(ch1.out rfl);have e3:f3=false:=zN fun h=>((ch3.out h));have Z:f8=false:=zN fun h=>((ch3.out (ch8.out h).1));subst e3 Z;refine .inl ?_
         unfold ie Oper.wp;go_simp
         exact uV.at true true true false f4 f5 f6 f7 false (P) rfl rfl (zH (by simp)) (zH (by simp)) (zH (by simp)) (ch6) (ch7) (zH (by simp)) (hB) (bx) (by simp)
       · have I:=ho
         simp at A ho;subst A ho;simp [Region.binds] at ha
         obtain rfl:f2=true:=by simp only [ha]
         clear ha;obtain rfl:f1=true:=(ch2.out rfl);obtain rfl:f0=true:=(ch1.out (ch2.out rfl));have Z:f8=false:=zN fun h=>((ch8.out h).1);subst Z;have U:=hB rfl;have k0:=(U.cell (p:=⟨b,0,none⟩) (by exact ag.out.lt)).trans (ag.out.cell 0 _ rfl);have kl:=Nat.lt_of_lt_of_le ag.out.lt U.size;refine .inl ?_
         unfold ie Oper.wp;go_simp
         exact uV.at true true true true f4 f5 f6 f7 false (P) rfl rfl (zH (by simp)) (zH (by simp)) (zH (by simp)) (ch6) (ch7) (zH (by simp)) (hB) (bx) (by simp)
       · have I:=ho
         simp at A ho;subst A ho;clear ha;have Z:f8=false:=zN fun h=>((ch8.out h).2.1);subst Z;have U:=hB rfl;have k0:=(U.cell (p:=⟨w.heap.size,0,none⟩) (by exact HX.out.lt)).trans (HX.out.cell 0 _ rfl);have k1:=(U.cell (p:=⟨w.heap.size,1,none⟩) (by exact HX.out.lt)).trans (HX.out.cell 1 _ rfl);have k2:=(U.cell (p:=⟨w.heap.size,2,none⟩) (by exact HX.out.lt)).trans (HX.out.cell 2 _ rfl);have kl:=Nat.lt_of_lt_of_le HX.out.lt U.size;refine .inl ?_
         unfold ie Oper.wp;go_simp
         exact uV.at f0 f1 f2 f3 true f5 f6 f7 false (P) rfl rfl (ch1) (ch2) (ch3) (ch6) (ch7) (zH (by simp)) (hB) (bx) (by simp)
       · have I:=ho
         simp at A ho;subst A ho;clear ha;have e6:f6=false:=zN fun h=>((ch6.out h));have e7:f7=false:=zN fun h=>((ch6.out (ch7.out h)));have Z:f8=false:=zN fun h=>((ch6.out (ch7.out (ch8.out h).2.2)));subst e6 e7 Z;refine .inl ?_
         unfold ie Oper.wp;go_simp
         exact uV.at f0 f1 f2 f3 f4 true false false false (P) rfl rfl (ch1) (ch2) (ch3) (zH (by simp)) (zH (by simp)) (zH (by simp)) (hB) (by simp) (by simp)
       · have I:=ho
         simp at A ho;subst A ho;simp [Region.binds] at ha
         obtain rfl:f5=true:=by simp only [ha]
         clear ha;have e7:f7=false:=zN fun h=>((ch7.out h));have Z:f8=false:=zN fun h=>((ch7.out (ch8.out h).2.2));subst e7 Z;refine .inl ?_
         unfold ie Oper.wp;go_simp
         exact uV.at f0 f1 f2 f3 f4 true true false false (P) rfl rfl (ch1) (ch2) (ch3) (zH (by simp)) (zH (by simp)) (zH (by simp)) (hB) (by simp) (by simp)
       · have I:=ho
         simp at A ho;subst A ho;simp [Region.binds] at ha
         obtain rfl:f6=true:=by simp only [ha]
         clear ha;obtain rfl:f5=true:=(ch6.out rfl);have Z:f8=false:=zN fun h=>((ch8.out h).2.2);subst Z;have hS:=(hB rfl).size;have a5:=fun o=>(Below.refl w'.heap.size w').alloc (Nat.le_refl w'.heap.size) o;refine .inl ?_
         unfold ie Oper.wp;go_simp
         exact uV.at f0 f1 f2 f3 f4 true true true false (w'.heap.size) rfl rfl (ch1) (ch2) (ch3) (zH (by simp)) (zH (by simp)) (zH (by simp)) (fun h0=>(hB h0).trans ((a5 _).mono hS)) (fun h0 h1=>⟨hS,ak.new w' [.string s,.int .u32 0,.int .i32 0,.int .u32 0,.bool false,.string ⟨#[]⟩,.string ⟨#[]⟩,.string ⟨#[]⟩,.string ⟨#[]⟩,.string ⟨#[]⟩,.string ⟨#[]⟩,.string ⟨#[]⟩,.slice none 0 0,.slice none 0 0,.slice none 0 0,.int .i64 0,.string ⟨#[]⟩,.string ⟨#[]⟩,.string ⟨#[]⟩,.int .i64 0,.int .i64 0,.int .i64 0,.string ⟨#[]⟩] _ _ rfl⟩) (by simp)
       · have I:=ho
         simp at A ho;subst A ho;simp [Region.binds] at ha
         obtain rfl:f3=true:=by simp only [ha]
         obtain rfl:f4=true:=by simp only [ha]
         obtain rfl:f7=true:=by simp only [ha]
         clear ha;obtain rfl:f6=true:=(ch7.out rfl);obtain rfl:f5=true:=(ch6.out (ch7.out rfl));obtain rfl:f2=true:=(ch3.out rfl);obtain rfl:f1=true:=(ch2.out (ch3.out rfl));obtain rfl:f0=true:=(ch1.out (ch2.out (ch3.out rfl)));have U:=hB rfl;have dg:=bx rfl rfl;refine .inl ?_
         unfold ie;refine pr 68 (.tmp 28) (.tmp 29) (.tmp 32) rfl (.map (some me)) (.agg #[.string g.group,.string g.artifact,.string g.version]) (.pointer (some ⟨P,0,none⟩)) (by simp [Act.eval]) (by simp [Act.eval]) (by simp [Act.eval]) (Ae g (.pointer (some ⟨P,0,none⟩)) (d8.out.below U d8.out.lt)) ?_
         exact uV.at true true true true true true true true true (P) rfl rfl (zH (by simp)) (zH (by simp)) (zH (by simp)) (zH (by simp)) (zH (by simp)) (zH (by simp)) (by simp) (by simp) (fun _=>⟨w',U,dg,rfl⟩)
theorem Aj (g:bp) (s:S) (w:World) {F:Nat→Prop} {b:Nat} {es:List (bF × Nat)} {r a:Int} (h:bR F w b es r a) (A:vf g) :
    Calls Tryz.prog 22 #[jr b,.agg #[.string g.group,.string g.artifact,.string g.version],.string s] w (rA F b es r a g s w):=(ym g s w h A).mono fun _ _ h=>h.out
def AW (l:List S) (w:World) (e:Ending) (w':World):Prop:=∃ A M,e = .returned A∧aj w.heap.size 9 1 gq w' A M∧dL lW M∧aH lW l M∧Below w.heap.size w w'
theorem zV (x:Id) (w:World) {F:Nat→Prop} {b:Nat} {es:List (bF × Nat)} {r a:Int} (h:bR F w b es r a) (hl:(bT es x).length≤1000000) (hs:ci (bT es x)) :
    Calls Tryz.prog 11 #[jr b,.agg #[.string x.group,.string x.artifact]] w (AW (bT es x) w):=by
 obtain ⟨me,mv,L,cl,V,cv,h⟩:=h;have D:=(h.rowV_owns x).slice kU;have hlt:=h.box.lt;have I:=zH h;have HR:=zH D;have HL:=zH hl;have a4:=zH hs;clear h D hl hs;generalize bT es x=l at *;unfold jr;go_enter Tryz.func11,Tryz.ntmps11
 go_upto_region 1 with fail
 refine ai fun W Z=>?_
 have hx:ak W w.heap.size [.string x.group,.string x.artifact]:=by rw [Z]; exact ak.new w [.string x.group,.string x.artifact] _ _ rfl
 have A:Below w.heap.size w W:=by rw [Z]; exact (Below.refl _ _).alloc (Nat.le_refl _) _
 clear Z;have HB:=zH A;have x0:=hx.cell 0 _ rfl;have x1:=hx.cell 1 _ rfl;have lx:=hx.lt;have b1:=(I.out.box.below A hlt).cell 1 _ rfl;have lb:=(I.out.box.below A hlt).lt;have hm:=I.out.vers.below A I.out.vers.lt;have ad : ∀ z:aJ W,(Instr.lookup 69 (.map (some mv)) (.agg #[.string x.group,.string x.artifact]) false).run Tryz.prog z.at_ = .ok (fe V x) z.at_:=fun z=>sz x (hm.below z.below hm.lt);have O:=zH (HR.out.below A);clear hx A hm hlt HR I;have ah:=@aJ.cells W;go_wp2_with fail
 refine lh 6 (by kernel_rfl) (by kernel_rfl) ?_
 simp only [List.take_succ_cons,List.take_zero,List.drop_succ_cons,List.drop_zero];repeat (go_big_quiet_step (fail))
 refine wpQuiet_nil ?_
 rintro _ ⟨U,rfl⟩;have a5:=zH (O.out.below U.below);have J:=zH (HB.out.trans (U.below.mono HB.out.size));clear ad ah x0 x1 lx b1 lb O HB;generalize U.at_=wn at *;have a0:=zH (xW a5.out HL.out a4.out);generalize fe V x=rv at *;go_wp2_with fail
 refine a0.out.mono ?_
 rintro e w2 ⟨v',M,rfl,h1,h2,h3,h4⟩;have H1:=zH (h1.base_mono J.out.size);have H2:=zH h2;have H3:=zH h3;have H4:=zH (J.out.trans (h4.mono J.out.size));clear h1 h2 h3 h4;go_wp2
 go_ret
 exact ⟨_,M,rfl,H1.out,H2.out,H3.out,H4.out⟩
structure gp (G:Nat→Prop) (w:World) (b:Nat) (vg vt vr:Value) (gs:List bp) (ts:List S) (rs:List Bool):Prop where
 box:ak w b [vg,vt,vr,.int .i64 0]
 g:aj 0 26 3 gu w vg gs
 t:aj 0 9 1 gq w vt ts
 r:aj 0 4 1 gi w vr rs
 gb:G b
 gg : ∀ j,vg.ownBlock=some j→G j∧j≠b
 gt : ∀ j,vt.ownBlock=some j→G j∧j≠b
 gr : ∀ j,vr.ownBlock=some j→G j∧j≠b
 gtA : ∀ j,vg.ownBlock=some j→vt.ownBlock≠some j
 grA : ∀ j,vg.ownBlock=some j→vr.ownBlock≠some j
 trA : ∀ j,vt.ownBlock=some j→vr.ownBlock≠some j
theorem gp.below {G:Nat→Prop} {w w':World} {b:Nat} {vg vt vr:Value} {gs:List bp} {ts:List S} {rs:List Bool} (h:gp G w b vg vt vr gs ts rs) (A:Below w.heap.size w w'):gp G w' b vg vt vr gs ts rs :=
 ⟨h.box.below A h.box.lt,h.g.below A,h.t.below A,h.r.below A,h.gb,h.gg,h.gt,h.gr,h.gtA,h.grA,h.trA⟩
theorem gp.only {F G:Nat→Prop} {w w':World} {b:Nat} {vg vt vr:Value} {gs:List bp} {ts:List S} {rs:List Bool} (h:gp G w b vg vt vr gs ts rs) (ho:aV F w w') (A : ∀ k,G k → ¬ F k):gp G w' b vg vt vr gs ts rs :=
 ⟨h.box.only ho (A _ h.gb),h.g.only ho fun k hk=>A _ (h.gg k hk).1,h.t.only ho fun k hk=>A _ (h.gt k hk).1,h.r.only ho fun k hk=>A _ (h.gr k hk).1,h.gb,h.gg,h.gt,h.gr,h.gtA,h.grA,h.trA⟩
theorem uW {v u:Value} (h : ∀ j,v.ownBlock=some j→u.ownBlock≠some j):u.ownBlock=none∨u.ownBlock≠v.ownBlock:=pK h
theorem gp.putG {G:Nat→Prop} {w W:World} {b:Nat} {vg vt vr D:Value} {gs I:List bp} {ts:List S} {rs:List Bool} (h:gp G w b vg vt vr gs ts rs) (hO:aj 0 26 3 gu W D I) (O:w.grownBy W vg.ownBlock) (J:D.ownBlock=vg.ownBlock∨D.ownBlock=some w.heap.size) :
    gp (fun k=>G k∨w.heap.size≤k) (W.setCell ⟨b,0,none⟩ D) b D vt vr I ts rs:=by
 have U:ak W b [vg,vt,vr,.int .i64 0]:=h.box.grown O (fun e=>(h.gg b e.symm).2 rfl)
 have hn : ∀ j,D.ownBlock=some j→(G j∨w.heap.size≤j)∧j≠b:=fun j A=>by
  rcases J with e | e
  · exact ⟨.inl (h.gg j (e ▸ A)).1,(h.gg j (e ▸ A)).2⟩
  · rw [e] at A; cases A; exact ⟨.inr (Nat.le_refl _),by have:=h.box.lt; omega⟩
 have Z:=h.t.kept O (uW h.gtA);have hR:=h.r.kept O (uW h.grA);refine ⟨U.setOne rfl (by simp),hO.kept (ab _ _ _ _) (nK fun j A=>(hn j A).2),Z.kept (ab _ _ _ _) (nK fun j A=>(h.gt j A).2),hR.kept (ab _ _ _ _) (nK fun j A=>(h.gr j A).2),.inl h.gb,hn,fun j A=>⟨.inl (h.gt j A).1,(h.gt j A).2⟩,fun j A=>⟨.inl (h.gr j A).1,(h.gr j A).2⟩,fun j A hn=>?_,fun j A hn=>?_,h.trA⟩
 · rcases J with e | e
   · exact h.gtA j (e ▸ A) hn
   · rw [e] at A; cases A; have:=(h.t.lt _ hn).2; omega
 · rcases J with e | e
   · exact h.grA j (e ▸ A) hn
   · rw [e] at A; cases A; have:=(h.r.lt _ hn).2; omega
theorem tF (l:List S) : ∀ y ∈ l,∀ u ∈ gq y,u.oneCell'=true:=by
 intro y _ u A;simp [gq] at A
 subst A;rfl
def putG (gs:List bp) (g:bp):Bool:=dI g && (decide (g ∉ gs) && decide (gs.length<1024))
def putN (gs:List bp) (g:bp):Int:=if dI g=false then 1 else if g ∈ gs then 4 else if 1024≤gs.length then 2 else 0
def rG (G:Nat→Prop) (b:Nat) (gs:List bp) (ts:List S) (g:bp) (s:S) (w w':World):Prop:=aV G w w' ∧ ∃ A vg vt vr rs,gp A w' b vg vt vr (if putG gs g=true then gs ++ [g] else gs) (if putG gs g=true then ts ++ [s] else ts) rs∧(∀ k,k<w.heap.size→A k→G k)∧rs.length≤(if putG gs g=true then gs ++ [g] else gs).length
def Bo (G:Nat→Prop) (b:Nat) (gs:List bp) (g:bp) (w w':World):Prop:=aV G w w' ∧ ∃ A vg vt vr ts rs,gp A w' b vg vt vr (if putG gs g=true then gs ++ [g] else gs) ts rs∧(∀ k,k<w.heap.size→A k→G k)∧ts.length≤(if putG gs g=true then gs ++ [g] else gs).length∧rs.length≤(if putG gs g=true then gs ++ [g] else gs).length
theorem rG.out {G:Nat→Prop} {b:Nat} {gs:List bp} {ts:List S} {g:bp} {s:S} {w w':World} (h:rG G b gs ts g s w w') (A:ts.length≤gs.length):Bo G b gs g w w':=by
 obtain ⟨h1,I,vg,vt,vr,rs,h2,h3,D⟩:=h;refine ⟨h1,I,vg,vt,vr,_,rs,h2,h3,?_,D⟩
 by_cases hp:putG gs g=true
 · rw [if_pos hp,if_pos hp,List.length_append,List.length_append]; simp; exact A
 · rw [if_neg hp,if_neg hp]; exact A
theorem pW:(Tryz.prog.info? 26).map (fun i=>(i.zero,i.size,i.bytes))=some (some (.agg #[.string ⟨#[]⟩,.string ⟨#[]⟩,.string ⟨#[]⟩]),3,48):=by kernel_rfl
theorem l4 (g:bp):(gu g).length=3:=rfl
theorem om (l:List bp) : ∀ y ∈ l,∀ u ∈ gu y,u.oneCell'=true:=by
 intro y _ u A;simp [gu] at A
 rcases A with rfl | rfl | rfl <;> rfl
def cutA (a:Option Addr) (l m s:Nat):Option Addr:=if m=l then a else a.map (·.add (l*s))
theorem rZ (a:Option Addr) (l h m s:Nat):sliced a l h m s = .slice (cutA a l m s) (h - l) (m - l):=rfl
theorem xf (a:Option Addr) (m s:Nat):cutA a 0 m s=a:=by
 unfold cutA;split
 · rfl
 · cases a with
   | none=>rfl
   | some x=>simp [Addr.add]
theorem af.cutA {α:Type} {n:Nat} {C:α→List Value} {w:World} {ao:Option Addr} {len cap:Nat} {l:List α} (h:af n C w (.slice ao len cap) l) {k:Nat} (hk:k≤l.length):af n C w (.slice (cutA ao k cap n) (len - k) (cap - k)) (l.drop k):=by
 have h0:=h;obtain ⟨U,O,h1,h2,hm,h3,I⟩:=h;cases h1
 unfold Go.Proofs.YtominiaohfjobaaGreatDoor.cutA;by_cases Z:l.length=k
 · rw [List.drop_of_length_le (by omega)]
   refine ⟨_,cap - k,by rw [List.length_nil]; congr 1; omega,by simp,by omega,fun e=>?_,fun i x hx=>by simp at hx⟩
   by_cases A:cap=k
   · omega
   · rw [if_neg A] at e
     cases ao with
     | none=>have:=h3 rfl; omega
     | some a=>cases e
 · have A:cap≠k:=by omega
   rw [if_neg A];obtain ⟨x0,D⟩ : ∃ x,l[0]? = some x:=⟨_,List.getElem?_eq_getElem (by omega)⟩;obtain ⟨b,o,rfl,-,-⟩:=I 0 x0 D;rw [Option.map_some,Addr.add_lit];refine ⟨_,_,by rw [List.length_drop],by rw [List.length_drop]; omega,by omega,by simp,fun i x hx=>?_⟩
   rw [List.getElem?_drop] at hx;obtain ⟨b',o',e,hlt,A⟩:=I _ _ hx;cases e
   refine ⟨b,o+k*n,rfl,hlt,fun j u J=>?_⟩
   have:=A j u J
   rw [Nat.add_mul] at this;rw [Nat.add_assoc o]; exact this
theorem af.fullA {α:Type} {n:Nat} {C:α→List Value} {w:World} {ao:Option Addr} {len cap:Nat} {l:List α} (h:af n C w (.slice ao len cap) l) {k:Nat} (hk:k≤l.length):af n C w (.slice ao k k) (l.take k):=by
 obtain ⟨I,D,h1,h2,hm,h3,A⟩:=h;cases h1
 refine ⟨ao,k,by rw [List.length_take,Nat.min_eq_left hk],by rw [List.length_take]; omega,by omega,fun e=>by have:=h3 e; omega,fun i x hx=>A i x ?_⟩
 rw [List.getElem?_take] at hx;split at hx
 · exact hx
 · cases hx
theorem af.capA {α:Type} {n:Nat} {C:α→List Value} {w:World} {ao:Option Addr} {len cap:Nat} {l:List α} (h:af n C w (.slice ao len cap) l):l.length≤cap∧len=l.length∧cap≤maxLen:=by
 obtain ⟨D,A,h1,h2,hm,h3,I⟩:=h;cases h1
 exact ⟨h2,rfl,hm⟩
theorem nM {α:Type} {B:Nat} {w2 A D:World} {E n:Nat} {C:α→List Value} {v:Value} {l:List α} (h:Below B w2 A) (ho:aj B E n C A v l) (J:A.grownBy D v.ownBlock) (hB:B≤A.heap.size):Below B w2 D:=h.grown J hB (fun j I=>(ho.lt j I).1)
theorem qX {w w':World} (h:w.grownBy w' none):Below w.heap.size w w':=⟨h.os,h.tape,h.output,h.size,fun k hk=>h.block k hk (by simp)⟩
theorem aj.litA {base H:Nat} {w:World} (x:bp) (D:w.heap.size=H) (A:base≤H):aj base 26 3 gu (w.alloc (.cells #[.string x.group,.string x.artifact,.string x.version] 26)) (.slice (some ⟨H,0,none⟩) 1 1) [x]:=by
 subst D;exact World.ownsRow_lit w #[.string x.group,.string x.artifact,.string x.version] 1 A (by simp [maxLen]) rfl
theorem wK {x:bp} {l:List bp} : ∀ {k:Nat},k≤l.length→(∀ y,0<k→l[k - 1]? = some y→jd x y=false)→kB x l k=l.take k ++ x::l.drop k
 | 0,_,_=>rfl
 | k+1,hk,h=>by
  have h1:=h l[k] (by omega) (List.getElem?_eq_getElem (by omega));unfold kB;rw [List.getElem?_eq_getElem (by omega:k<l.length)];simp only [h1,Bool.false_eq_true,if_false]
theorem At {x:bp} {l:List bp} {k:Nat} (hk:k<l.length) (h:jd x l[k]=true):kB x l (k+1)=kB x l k:=by
 conv=>lhs; unfold kB
 rw [List.getElem?_eq_getElem hk];simp only [h,if_true]
theorem kV {α:Type} {P:Program} {ops:Array Oper} {E:Prop} (w:World) {o:Oper} {a:Act} {K:Act→World→Prop} {Q:Exit→Act→World→Prop} (b0:o.guard=none) (s x:Operand) (t:TypeId)
    (ho:o.op = .call { callee:=.builtin .append,args:=#[s,x],argTypes:=#[t,t] })
    (e:TypeId) {z:Value} {size bytes:Nat} (ht:P.underlying t=some (.slice e)) (al:(P.info? e).map (fun i=>(i.zero,i.size,i.bytes))=some (some z,size,bytes)) (ba:z.cells.size=size) (a6:0<size) {C:α→List Value} (hC : ∀ y,(C y).length=size)
    (ao:Option Addr) (len cap:Nat) (l:List α) (hs:a.eval s = .slice ao len cap) (Z:af size C w (.slice ao len cap) l) (v2:Value) (A:List α) (hx:a.eval x=v2) (O:af size C w v2 A) (h1 : ∀ y ∈ A,∀ u ∈ C y,u.oneCell'=true)
    (a0:cap<l.length+A.length) (bv:A≠[]) (ac:(l.length+A.length)*bytes≤140737488355328) (b4:0<bytes)
    (h : ∀ I n D w',aj w.heap.size e size C w' (.slice I n D) (l ++ A)→w.grownBy w' none→K (a.put o.dst (.slice I n D)) w') :
    if Region.wanted o (yielded ops a.tmps)=true then Oper.wp P o a w K Q else E:=by
 have aa:l.length+A.length≤maxLen:=by
  have:l.length+A.length≤(l.length+A.length)*bytes:=Nat.le_mul_of_pos_right _ b4
  unfold maxLen; omega
 obtain ⟨i,hi,hz,ah,b3⟩:=info_parts al
 have ro : ∀ {ao:Option Addr} {len cap:Nat} {l:List α},af size C w (.slice ao len cap) l → ∀ U,ao=some U → ∀ j u,(l.flatMap C)[j]? = some u→w.cell? (U.add j)=some u:=by
  intro ao len cap l O U b5 j u J;obtain ⟨I,D,hq,-,-,-,hc⟩:=O;cases hq
  subst b5;obtain ⟨y,hy,bb⟩:=kD hC a6 J;obtain ⟨b,o',ha,_,a4⟩:=hc _ _ hy;cases ha
  rw [Addr.add_lit];have:=a4 _ _ bb
  rwa [Nat.add_assoc,Nat.div_add_mod' j size] at this
 have bl:=Z;obtain ⟨dg,co,hq,hcap,hm,hn,hc⟩:=Z;cases hq
 have bg:=O;obtain ⟨b6,ag,rfl,a5,cT,bo,c8⟩:=O;cases b6 with
 | none =>
  have h0:ag=0:=bo rfl;subst h0;exact absurd (List.eq_nil_of_length_eq_zero (Nat.le_zero.1 a5)) bv
 | some U =>
  refine step_append_grows b0 s x t ho e i z size bytes ht hi hz ah b3 ba a6 ao l.length cap (l.flatMap C) hs (fun h0=>?_) (by rw [bG hC]) (fun b hb j u J=>ro bl b hb j u J) U A.length ag (A.flatMap C) hx (by rw [bG hC]) (fun j u J=>ro bg U rfl j u J)
   (by intro u J; obtain ⟨y,hy,bc⟩:=List.mem_flatMap.1 J; exact h1 y hy u bc) a0 aa ac ?_
  · have c9:=hn h0
    omega
  · intro v' w' h2 h3
    have a7:aj w.heap.size e size C w' v' (l ++ A):=by unfold aj; rw [List.length_append,List.flatMap_append]; exact h2
    obtain ⟨I,D,rfl⟩:=a7.shape;exact h I _ D w' a7 h3
def Cj (l:List bp) (w:World) (e:Ending) (w':World):Prop:=∃ A,e = .returned A∧aj w.heap.size 26 3 gu w' A l∧Below w.heap.size w w'
def iW (m:List bp) (x:bp):List bp:=kB x m m.length
attribute [local go_sem ↓] rZ xf in
theorem wY (ed:gk) (b:Nat) (vg vt vr va:Value) (gs:List bp) (w:World) (hx:ak w b [vg,vt,vr,va]) (hs:af 3 gu w vg gs) (hl:gs.length≤1000) (hm : ∀ g ∈ gs,g.version.size≤900000) :
    Calls Tryz.prog 8 #[.pointer (some ⟨b,0,none⟩)] w (Cj (mj gs) w):=by
 obtain ⟨ao,c,rfl⟩:=hs.shape;have HA:Hid (∀ (x y:bp) W,x ∈ gs→y ∈ gs→Calls Tryz.prog 27 #[.agg #[.string x.group,.string x.artifact,.string x.version],.agg #[.string y.group,.string y.artifact,.string y.version]] W fun e w'=>e = .returned (.bool (jd y x))∧Below W.heap.size W w'):=fun x y W hx hy=>zu ed x y W (hm x hx) (hm y hy);have HL:=zH hl;have HS:=zH hs;have co:Hid ((gs.drop 0).foldl iW []=mj gs):=rfl;have x0:=hx.cell 0 _ rfl;have xl:=hx.lt;clear hx hs hl hm ed;go_enter Tryz.func8,Tryz.ntmps8
 go_upto_region 3 with fail
 clear x0 xl;go_loopw [3,12] (fun v i wr=>∃ (k:Nat) (m:List bp) (mo:Option Addr) (mc:Nat),v = .slice mo k mc∧i = .int .i64 k∧k≤gs.length∧Hid (m.length=k)∧Hid (Below w.heap.size w wr)∧Hid (aj w.heap.size 26 3 gu wr (.slice mo k mc) m)∧Hid ((gs.drop k).foldl iW m=mj gs)∧Hid (∀ y ∈ m,y ∈ gs)) (fun _ i _=>gs.length - (intOf i).toNat)
 case atStart=>exact ⟨0,[],none,0,rfl,rfl,Nat.zero_le _,rfl,Below.refl _ _,aj.nil,co,fun y hy=>by cases hy⟩
 case round =>
  obtain ⟨k,m,mo,mc,rfl,rfl,hk,ac,HW,HO,HF,ad⟩:=hrel;clear co;by_cases hlt:k<gs.length
  · obtain ⟨b1,o1,hw,d6,c0,c1,c2⟩:=(HS.out.below HW.out).atG hlt
    cases hw
    have d1:(k:Int)<(gs.length:Int):=by omega
    have wk:IntKind.i64.wrap ((k:Int)+1)=(k:Int)+1:=IntWalk.i64_in _ (by have:=HL.out; omega);have b5:Hid (gs[k] ∈ gs):=List.getElem_mem hlt
    have hH:Hid ((gs.drop (k+1)).foldl iW (iW m gs[k])=mj gs):=by
     show _=_
     rw [← HF.out,List.drop_eq_getElem_cons hlt,List.foldl_cons]
    have ei:Hid (k+1≤gs.length):=hlt;generalize gs[k]=x at *;clear HF hlt;obtain ⟨D,I,A⟩:=x;simp only at c0 c1 c2;go_upto_region 5 with fail
    refine ai fun W1 hW=>?_
    have z1:ak W1 wr.heap.size [.string D,.string I,.string A]:=by rw [hW]; exact ak.new wr [.string D,.string I,.string A] _ _ rfl
    have a5:Below wr.heap.size wr W1:=by rw [hW]; exact (Below.refl _ wr).alloc (Nat.le_refl _) _
    clear hW c0 c1 c2 d6 d1;have bc:=zH z1;have O:=zH (HW.out.trans (a5.mono HW.out.size));have cf:=zH (HO.out.below a5);clear z1 a5 HW HO;generalize wr.heap.size=bx at *;go_wp2
    go_loopw [6] (fun kv wx=>∃ j:Nat,kv = .int .i64 j∧j≤k∧Hid (Below W1.heap.size W1 wx)∧Hid (iW m ⟨D,I,A⟩=kB ⟨D,I,A⟩ m j)) (fun kv _=>(intOf kv).toNat)
    case atStart=>exact ⟨k,rfl,Nat.le_refl _,Below.refl _ _,by show _=_; unfold iW; rw [ac.out]⟩
    case round =>
     obtain ⟨j,rfl,hj,ah,bo⟩:=hrel;obtain ⟨Z,rfl⟩ : ∃ Z:World,Z=wr:=⟨_,rfl⟩;have b7:=zH (cf.out.below ah.out);have ga:=zH (O.out.trans (ah.out.mono O.out.size));have bl:=zH (bc.out.below ah.out bc.out.lt);obtain ⟨q,hq⟩ : ∃ q:Bool,q=(match j with | 0=>false | jp+1=>match m[jp]? with | none=>false | some y=>jd ⟨D,I,A⟩ y):=⟨_,rfl⟩;have HQ:=zH hq;clear hq;go_upto_region 6 with fail
     go_cut [28] from 18 to 27 (fun z wx=>z = .bool q∧Hid (Below Z.heap.size Z wx))
     case first =>
      by_cases d2:0<j
      · obtain ⟨jp,rfl⟩ : ∃ jp,j=jp+1:=⟨j - 1,by omega⟩
        have U:jp<m.length:=by have:=ac.out; omega
        have d9:Hid (jd ⟨D,I,A⟩ m[jp]=q):=by show _=_; rw [HQ.out]; simp only [List.getElem?_eq_getElem U]
        have b4:=zH (ad.out _ (List.getElem_mem U));have dn:af 3 gu Z (.slice mo k mc) m:=b7.out.slice (fun _=>rfl);obtain ⟨b2,o2,hd,d6,c0,c1,c2⟩:=dn.atG U;cases hd
        clear dn;generalize m[jp]=y at *;obtain ⟨yg,ya,yv⟩:=y;simp only at c0 c1 c2
        have ex:Hid (∀ z:aJ Z,Calls Tryz.prog 27 #[.agg #[.string yg,.string ya,.string yv],.agg #[.string D,.string I,.string A]] z.at_ fun e hb=>e = .returned (.bool q) ∧ ∃ u:aJ Z,hb=u.at_):=fun z=>by
         have h:=HA.out ⟨yg,ya,yv⟩ ⟨D,I,A⟩ z.at_ b4.out b5.out;rw [show jd _ _=q from d9.out] at h;exact aJ.call h
        obtain ⟨x0,x1,x2⟩:=ej bl.out;have xl:=bl.out.lt;have g1:decide ((0:Int)<(jp:Int)+1)=true:=decide_eq_true (by omega);have g2:(0:Int)<(jp:Int)+1:=by omega
        have g3:IntKind.i64.wrap ((jp:Int)+1 - 1)=(jp:Int):=by rw [show (jp:Int)+1 - 1=(jp:Int) by omega]; exact IntWalk.i64_in _ (by have:=HL.out; omega)
        have g4:IntKind.i64.wrap (jp:Int)=(jp:Int):=IntWalk.i64_in _ (by have:=HL.out; omega);have g5:(jp:Int)<(k:Int):=by omega
        have g6:decide (0<jp+1)=true:=decide_eq_true (by omega);have hA:=@aJ.cells Z;clear d9 HQ U d2 b4;refine cG (by kernel_rfl) (by kernel_rfl) ?_
        repeat (go_big_quiet_step ((go_at_call 27; with_reducible exact ex.out _)))
        refine wpQuiet_nil ?_
        rintro _ ⟨nx,rfl⟩;have cm:=zH nx.below;clear hA x0 x1 x2 xl c0 c1 c2 ex;generalize nx.at_=wq at *;go_wp2
        go_meet
        case rel=>exact ⟨rfl,cm⟩
      · have g1:decide ((0:Int)<(j:Int))=false:=decide_eq_false (by omega)
        have g2 : ¬ (0:Int)<(j:Int):=by omega
        have g6:decide (0<j)=false:=decide_eq_false d2
        have hz:q=false:=by
         obtain rfl:j=0:=by omega
         exact HQ.out
        subst hz;clear HQ;have cm:Hid (∀ nx:aJ Z,Below Z.heap.size Z nx.at_):=fun nx=>nx.below;refine cG (by kernel_rfl) (by kernel_rfl) ?_
        repeat (go_big_quiet_step (fail))
        refine wpQuiet_nil ?_
        rintro _ ⟨nx,rfl⟩;have hJ:=zH (cm.out nx);generalize nx.at_=wq at *;go_wp2
        go_meet
        case rel=>exact ⟨rfl,hJ⟩
     case rest =>
      obtain ⟨rfl,eU⟩:=hcut;have ag:=zH (ah.out.trans (eU.out.mono ah.out.size));cases q with
      | true =>
       obtain ⟨jp,rfl,U,b3⟩ : ∃ jp,j=jp+1 ∧ ∃ h:jp<m.length,jd ⟨D,I,A⟩ m[jp]=true:=by
        have h1:=HQ.out;have h2:=ac.out;change true=_ at h1
        cases j with
        | zero=>cases h1
        | succ jp =>
         have U:jp<m.length:=by omega
         simp only [List.getElem?_eq_getElem U] at h1;exact ⟨jp,rfl,U,h1.symm⟩
       have fz:Hid (iW m ⟨D,I,A⟩=kB ⟨D,I,A⟩ m jp):=by show _=_; rw [bo.out,At U b3]
       have hF:Hid (jp≤k):=by have h:jp+1≤k:=hj; show _≤_; omega
       have hR:jp≤1000:=by have h1:=HL.out; have h2:jp+1≤k:=hj; omega
       have g3:IntKind.i64.wrap ((jp:Int)+1 - 1)=(jp:Int):=by rw [show (jp:Int)+1 - 1=(jp:Int) by omega]; exact IntWalk.i64_in _ (by have:=HL.out; omega)
       have g4:IntKind.i64.wrap (jp:Int)=(jp:Int):=IntWalk.i64_in _ (by have:=HL.out; omega);clear HQ b3 U bo hj b7 bl;go_wp2
       go_roundw
       case rel=>exact ⟨jp,by first | rfl | go_num,hF.out,ag,fz⟩
       case measure=>simp [intOf]
      | false =>
       have en:Hid (iW m ⟨D,I,A⟩=m.take j ++ ⟨D,I,A⟩::m.drop j):=by
        show _=_
        rw [bo.out];refine wK (by have:=ac.out; omega) fun y h0 hy=>?_
        have h1:=HQ.out;change false=_ at h1
        cases j with
        | zero=>omega
        | succ jp =>
         simp only [Nat.add_sub_cancel] at hy;simp only [hy] at h1;exact h1.symm
       have bg:=zH (O.out.trans (ag.out.mono O.out.size));have a7:=zH (cf.out.below ag.out);have b0:=bc.out.below ag.out bc.out.lt;obtain ⟨x0,x1,x2⟩:=ej b0;have xl:=b0.lt;clear b0 HQ bo b7 bl ah eU ga ag cf O bc;obtain ⟨J,dl⟩ : ∃ J:World,J=wc:=⟨_,rfl⟩;rw [← dl] at bg a7 x0 x1 x2 xl;subst dl;have el:Hid (j≤m.length):=by have:=ac.out; show _≤_; omega
       have cT:Hid (Below J.heap.size J (J.drew.alloc (.cells #[.string D,.string I,.string A] 26))):=(aY (Below.refl _ J) 1).trans ((Below.refl _ J.drew).alloc (Nat.le_refl _) _);have b8:Hid (aj J.heap.size 26 3 gu (J.drew.alloc (.cells #[.string D,.string I,.string A] 26)) (.slice (some ⟨J.heap.size,0,none⟩) 1 1) [(⟨D,I,A⟩:bp)]):=aj.litA (w:=J.drew) ⟨D,I,A⟩ rfl (Nat.le_refl _);have d8:Hid (∀ V,Below J.heap.size J V→af 3 gu V (.slice mo j j) (m.take j)):=fun V h=>((a7.out.slice (fun _=>rfl)).below h).fullA el.out;have d7:Hid (∀ V,Below J.heap.size J V→af 3 gu V (.slice (cutA mo j mc 3) (k - j) (mc - j)) (m.drop j)):=fun V h=>((a7.out.slice (fun _=>rfl)).below h).cutA el.out;obtain ⟨d5,-,hi⟩:=(a7.out.slice (fun _=>rfl)).capA;rw [show m.length=k from ac.out] at d5;have hv:(0:Int)≤(j:Int):=by omega
       have a5:(j:Int)≤(mc:Int):=by omega
       have hu:(j:Int)≤(k:Int):=by omega
       have ht:(k:Int)≤(mc:Int):=by omega
       have hr:j≤mc:=by omega
       have O:Hid ((m.take j).length=j∧(m.drop j).length=k - j):=by
        have h1:=ac.out;rw [List.length_take,List.length_drop]; exact ⟨by omega,by omega⟩
       have hG:Hid (j<(m.take j).length+([(⟨D,I,A⟩:bp)] ++ m.drop j).length):=by
        have h1:=O.out;show _<_
        rw [List.length_append,List.length_singleton];omega
       have hI:Hid (((m.take j).length+([(⟨D,I,A⟩:bp)] ++ m.drop j).length)*48≤140737488355328):=by
        have h1:=O.out;have h2:=HL.out;show _≤_
        rw [List.length_append,List.length_singleton];omega
       go_upto_region 8 with fail
       go_region_law (first | (refine cc _ rfl (.tmp 36) (.tmp 39) 32 rfl J.heap.size 26 Tryz.underlying32 pW rfl (by decide) l4 (.slice (some ⟨J.heap.size,0,none⟩) 1 1) [(⟨D,I,A⟩:bp)] (by simp [Act.eval]) b8.out (.slice (cutA mo j mc 3) (k - j) (mc - j)) (m.drop j) (by simp [Act.eval]) (d7.out _ cT.out) (om _) (by have h1:=O.out.2; have h2:=HL.out; simp only [List.length_singleton]; omega) (by decide) (by simp) ?_; intro a8 n8 c8 w8 d0 d4; have ef:=zH d0; have bb:Hid (Below J.heap.size J w8):=nM cT.out b8.out d4 (by simp); clear d0 d4) | (refine kV _ rfl (.tmp 34) (.tmp 40) 32 rfl 26 Tryz.underlying32 pW rfl (by decide) l4 mo j j (m.take j) (by simp [Act.eval]) (d8.out _ bb.out) (.slice a8 n8 c8) ([(⟨D,I,A⟩:bp)] ++ m.drop j) (by simp [Act.eval]) (ef.out.slice l4) (om _) hG.out (List.cons_ne_nil _ _) hI.out (by decide) ?_; intro a9 n9 c9 w9 dr d3; have b9:=zH dr; have em:Hid (Below J.heap.size J w9):=bb.out.trans ((qX d3).mono bb.out.size); clear dr d3))
       all_goals
        have eg:Hid (n9=k+1):=by
         obtain ⟨_,_,e⟩:=b9.out.shape;cases e
         have h1:=O.out;show _=_
         rw [List.length_append,List.length_append,List.length_singleton];omega
        have a0:Hid (m.take j ++ ([(⟨D,I,A⟩:bp)] ++ m.drop j)=iW m ⟨D,I,A⟩):=en.out.symm
        have e7:Hid (aj w.heap.size 26 3 gu w9 (.slice a9 (k+1) c9) (iW m ⟨D,I,A⟩)):=by
         show aj _ _ _ _ _ _ _
         rw [← a0.out,← eg.out];exact b9.out.base_mono (by have h1:=bg.out.size; have h2:=bb.out.size; omega)
        have gc:=zH (bg.out.trans (em.out.mono bg.out.size))
        have fv:Hid ((iW m (⟨D,I,A⟩:bp)).length=k+1):=by
         show _=_
         rw [← a0.out,List.length_append,List.length_append,List.length_singleton];have h1:=O.out; omega
        have e9:Hid (∀ y ∈ iW m (⟨D,I,A⟩:bp),y ∈ gs):=by
         show ∀ y ∈ _,_
         rw [← a0.out];intro y hy;rcases List.mem_append.1 hy with h | h
         · exact ad.out y (List.mem_of_mem_take h)
         · rcases List.mem_append.1 h with h | h
           · rw [List.mem_singleton.1 h]; exact b5.out
           · exact ad.out y (List.mem_of_mem_drop h)
        obtain rfl:=eg.out;clear en a0 b9 ef bb em cT b8 d8 d7 O a7 bg ad HA;clear hv a5 hu ht hr d5 hi x0 x1 x2 xl;go_wp2
        go_roundw
        case rel=>exact ⟨k+1,_,a9,c9,rfl,by first | rfl | go_num,ei.out,fv,gc,e7,hH,e9⟩
        case measure=>simp [intOf]; have:=ei.out; omega
  · obtain rfl:k=gs.length:=by omega
    have d1 : ¬ (gs.length:Int)<(gs.length:Int):=by omega
    have HR:Hid (m=mj gs):=by show _=_; rw [← HF.out,List.drop_length]; rfl
    clear HF ad;go_wp2
    go_ret
    exact ⟨_,rfl,by rw [← HR.out]; exact HO.out,HW.out⟩
theorem tj {l:List bp} {k:Nat} (h:k<l.length) (x:Id):cV (l.take (k+1)) x=cV (l.take k) x ++ if bh l[k]=x then [l[k].version] else []:=by
 unfold cV;rw [List.take_add_one,List.getElem?_eq_getElem h,List.filter_append,List.map_append];by_cases h2:bh l[k]=x <;> simp [h2]
theorem tq (l:List bp) (x:Id) (k:Nat):(cV (l.take k) x).length≤k:=by
 unfold cV;rw [List.length_map];refine Nat.le_trans (List.length_filter_le _ _) ?_
 rw [List.length_take];omega
theorem zt (l:List bp):(mj l).length=l.length:=((mi l).2.perm fX).length_eq.symm
def uH (l:List S) (w:World) (e:Ending) (w':World):Prop:=∃ A,e = .returned A∧aj w.heap.size 9 1 gq w' A l∧Below w.heap.size w w'
theorem yT (b4:gk) (x:Id) (b:Nat) (vg vt vr va:Value) (gs:List bp) (w:World) (hx:ak w b [vg,vt,vr,va]) (hs:af 3 gu w vg gs) (hl:gs.length≤1000) (hm : ∀ g ∈ gs,g.version.size≤900000) :
    Calls Tryz.prog 12 #[.pointer (some ⟨b,0,none⟩),.agg #[.string x.group,.string x.artifact]] w (uH (cV (mj gs) x) w):=by
 have bl:Hid (∀ W,Below w.heap.size w W→Calls Tryz.prog 8 #[.pointer (some ⟨b,0,none⟩)] W (Cj (mj gs) W)):=fun W hb=>wY b4 b _ _ _ _ gs W (hx.below hb hx.lt) (hs.below hb) hl hm;have HL:Hid ((mj gs).length≤1000):=by show _≤_; rw [zt]; exact hl
 clear hx hs hl hm b4;generalize mj gs=l at *;obtain ⟨A,D⟩:=x;simp only;go_enter Tryz.func12,Tryz.ntmps12
 go_upto_region 1 with fail
 refine ai fun W hW=>?_
 have x1:ak W w.heap.size [.string A,.string D]:=by rw [hW]; exact ak.new w [.string A,.string D] _ _ rfl
 have hb:Below w.heap.size w W:=by rw [hW]; exact (Below.refl _ w).alloc (Nat.le_refl _) _
 clear hW;have HX:=zH x1;have HB:=zH hb;clear x1 hb;go_wp2_with fail
 refine (bl.out W HB.out).mono ?_
 rintro e w1 ⟨v',rfl,ho,I⟩;obtain ⟨lo,lc,rfl⟩:=ho.shape;have b3:=zH (HX.out.below I HX.out.lt);have bg:=zH (HB.out.trans (I.mono HB.out.size));have cT:=zH (ho.slice (fun _=>rfl));clear ho I HX HB bl;go_wp2
 go_loopw [5,11] (fun v i wr=>∃ (k n:Nat) (mo:Option Addr) (mc:Nat),v = .slice mo n mc∧i = .int .i64 k∧k≤l.length∧Hid (Below w1.heap.size w1 wr)∧Hid (aj w1.heap.size 9 1 gq wr (.slice mo n mc) (cV (l.take k) ⟨A,D⟩))) (fun _ i _=>l.length - (intOf i).toNat)
 case atStart=>exact ⟨0,0,none,0,rfl,rfl,Nat.zero_le _,Below.refl _ _,aj.nil⟩
 case round =>
  obtain ⟨k,n,mo,mc,rfl,rfl,hk,HW,HO⟩:=hrel;by_cases hlt:k<l.length
  · obtain ⟨b1,o1,co,cm,c0,c1,c2⟩:=(cT.out.below HW.out).atG hlt
    cases co
    have d1:(k:Int)<(l.length:Int):=by omega
    have wk:IntKind.i64.wrap ((k:Int)+1)=(k:Int)+1:=IntWalk.i64_in _ (by have:=HL.out; omega);have HV:=zH (tj hlt ⟨A,D⟩);have O:Hid (k+1≤l.length):=hlt;generalize l[k]=y at *;clear hlt;obtain ⟨yg,ya,Z⟩:=y;simp only [bh,Id.mk.injEq] at c0 c1 c2 HV;go_upto_region 5 with fail
    refine ai fun U hW=>?_
    have z1:ak U wr.heap.size [.string yg,.string ya,.string Z]:=by rw [hW]; exact ak.new wr [.string yg,.string ya,.string Z] _ _ rfl
    have I:Below wr.heap.size wr U:=by rw [hW]; exact (Below.refl _ wr).alloc (Nat.le_refl _) _
    clear hW c0 c1 c2 cm d1;have J:=zH (HW.out.trans (I.mono HW.out.size));have a0:=zH (HO.out.below I);have ah:=b3.out.below J.out b3.out.lt;have x0:=ah.cell 0 _ rfl;have x1:=ah.cell 1 _ rfl;have xl:=ah.lt;obtain ⟨z0,z2,z3⟩:=ej z1;have zl:=z1.lt;clear ah z1 I HW HO;by_cases hg:yg=A
    · have e1:(yg.toList == A.toList)=true:=by rw [jn]; exact decide_eq_true hg
      have HG:=zH hg;clear hg;by_cases ha:ya=D
      · have e2:(ya.toList == D.toList)=true:=by rw [jn]; exact decide_eq_true ha
        have aa:Hid (cV (l.take (k+1)) ⟨A,D⟩=cV (l.take k) ⟨A,D⟩ ++ [Z]):=by show _=_; rw [HV.out,if_pos ⟨HG.out,ha⟩]
        clear HV ha
        have HN:Hid (af 1 gq (U.alloc (.cells #[.string Z] 9)) (.slice (some ⟨U.heap.size,0,none⟩) 1 1) [Z]):=by
         show af _ _ _ _ _
         simpa [gq] using cd kU U [Z] 9 U.heap.size 1 rfl rfl (by simp [maxLen])
        have ac:Hid (Below U.heap.size U (U.alloc (.cells #[.string Z] 9))):=(Below.refl _ U).alloc (Nat.le_refl _) _;have bc:=zH (a0.out.below ac.out);have b0:n=(cV (l.take k) ⟨A,D⟩).length:=by obtain ⟨_,_,e⟩:=a0.out.shape; cases e; rfl
        have dk:=zH b0;have dn:=zH (tq l ⟨A,D⟩ k);clear b0;generalize cV (l.take k) ⟨A,D⟩=vl at *;go_upto_region 7 with (at_builtin; go_loud (refine ay _ rfl _ _ 36 rfl w1.heap.size 9 Tryz.underlying36 sI rfl (by decide) kU (.slice mo n mc) vl rfl bc.out _ [Z] rfl HN.out (tF _) (by have h1:=HL.out; have h2:=dn.out; have h3:=O.out; simp only [List.length_singleton]; omega) (by decide) (by have h1:=J.out.size; have h2:=ac.out.size; omega) ?_; intro v8 w8 al b2 cf; obtain ⟨a8,c8,b8⟩:=al.shape; subst b8; rw [List.length_append,List.length_singleton] at al; have dg:=zH al; have d0:=zH (nM (J.out.trans (ac.out.mono J.out.size)) bc.out b2 (by have h1:=J.out.size; have h2:=ac.out.size; omega)); clear al b2 cf))
        obtain rfl:=dk.out;clear HN ac bc;go_wp2
        go_roundw
        case rel=>exact ⟨k+1,vl.length+1,a8,c8,rfl,by first | rfl | go_num,O.out,d0,by show aj _ _ _ _ _ _ _; rw [aa.out]; exact dg.out⟩
        case measure=>simp [intOf]; have:=O.out; omega
      · have e2:(ya.toList == D.toList)=false:=by rw [jn]; exact decide_eq_false ha
        have aa:Hid (cV (l.take (k+1)) ⟨A,D⟩=cV (l.take k) ⟨A,D⟩):=by show _=_; rw [HV.out,if_neg (fun h=>ha h.2)]; simp
        clear HV;go_wp2
        go_roundw
        case rel=>exact ⟨k+1,n,mo,mc,rfl,by first | rfl | go_num,O.out,J,by show aj _ _ _ _ _ _ _; rw [aa.out]; exact a0.out⟩
        case measure=>simp [intOf]; have:=O.out; omega
    · have e1:(yg.toList == A.toList)=false:=by rw [jn]; exact decide_eq_false hg
      have aa:Hid (cV (l.take (k+1)) ⟨A,D⟩=cV (l.take k) ⟨A,D⟩):=by show _=_; rw [HV.out,if_neg (fun h=>hg h.1)]; simp
      clear HV;go_wp2
      go_roundw
      case rel=>exact ⟨k+1,n,mo,mc,rfl,by first | rfl | go_num,O.out,J,by show aj _ _ _ _ _ _ _; rw [aa.out]; exact a0.out⟩
      case measure=>simp [intOf]; have:=O.out; omega
  · obtain rfl:k=l.length:=by omega
    have d1 : ¬ (l.length:Int)<(l.length:Int):=by omega
    have HR:=zH HO.out;rw [List.take_length] at HR;clear HO;go_wp2
    go_ret
    exact ⟨_,rfl,HR.out.base_mono (by have:=bg.out.size; omega),bg.out.trans (HW.out.mono bg.out.size)⟩
theorem gp.narrow {G:Nat→Prop} {w:World} {b:Nat} {vg vt vr:Value} {gs:List bp} {ts:List S} {rs:List Bool} (h:gp G w b vg vt vr gs ts rs):gp (fun k=>G k∧k<w.heap.size) w b vg vt vr gs ts rs :=
 ⟨h.box,h.g,h.t,h.r,⟨h.gb,h.box.lt⟩,fun j A=>⟨⟨(h.gg j A).1,(h.g.lt j A).2⟩,(h.gg j A).2⟩,fun j A=>⟨⟨(h.gt j A).1,(h.t.lt j A).2⟩,(h.gt j A).2⟩,fun j A=>⟨⟨(h.gr j A).1,(h.r.lt j A).2⟩,(h.gr j A).2⟩,h.gtA,h.grA,h.trA⟩
def di (es:List (bF × Nat)):List bp:=es.map fun e=>e.1.gav
structure oM (B:Nat) (w:World) (bs bd:Nat) (es:List (bF × Nat)) (F G:Nat→Prop) (vg vt vr:Value) (ts:List S) (rs:List Bool):Prop where
 st:bR F w bs es 0 0
 fr:dN w es
 doc:gp G w bd vg vt vr (di es) ts rs
 fg : ∀ k,F k → ¬ G k
 gl : ∀ k,G k→k<w.heap.size
 fB : ∀ k,F k→B≤k
 gB : ∀ k,G k→B≤k
 tl:ts.length≤es.length
 rl:rs.length≤es.length
 may : ∀ g ∈ di es,dI g=true
def rF (B:Nat) (w:World) (bs bd:Nat) (es:List (bF × Nat)):Prop:=∃ F G vg vt vr ts rs,oM B w bs bd es F G vg vt vr ts rs
theorem rF.below {B:Nat} {w w':World} {bs bd:Nat} {es:List (bF × Nat)} (h:rF B w bs bd es) (A:Below w.heap.size w w'):rF B w' bs bd es:=by
 obtain ⟨F,G,vg,vt,vr,ts,rs,h⟩:=h;exact ⟨F,G,vg,vt,vr,ts,rs,h.st.below A,h.fr.below A,h.doc.below A,h.fg,fun k hk=>Nat.lt_of_lt_of_le (h.gl k hk) A.size,h.fB,h.gB,h.tl,h.rl,h.may⟩
theorem sM {es:List (bF × Nat)} {g:bp}:je es g=decide (g ∈ di es):=by
 unfold je di;rw [Bool.eq_iff_iff,decide_eq_true_iff,List.find?_isSome,List.mem_map];constructor
 · rintro ⟨x,hx,h⟩
   exact ⟨x,hx,(of_decide_eq_true h).symm⟩
 · rintro ⟨x,hx,h⟩
   exact ⟨x,hx,decide_eq_true h.symm⟩
theorem yj {es:List (bF × Nat)} {g:bp}:putG (di es) g=decide (fR es g=0):=by
 unfold putG fR;rw [sM];have A:(di es).length=es.length:=List.length_map ..;rw [A];cases dI g with
 | false=>simp
 | true =>
  by_cases h1:g ∈ di es
  · simp [h1]
  · by_cases h2:1024≤es.length
    · simp [h1,h2]
    · simp [h1,h2]; omega
def fC (es:List (bF × Nat)):List S:=es.map fun e=>e.1.text
def rD (B:Nat) (w:World) (bs bd:Nat) (es:List (bF × Nat)):Prop:=∃ F G vg vt vr rs,oM B w bs bd es F G vg vt vr (fC es) rs
theorem rD.below {B:Nat} {w w':World} {bs bd:Nat} {es:List (bF × Nat)} (h:rD B w bs bd es) (A:Below w.heap.size w w'):rD B w' bs bd es:=by
 obtain ⟨F,G,vg,vt,vr,rs,h⟩:=h;exact ⟨F,G,vg,vt,vr,rs,h.st.below A,h.fr.below A,h.doc.below A,h.fg,fun k hk=>Nat.lt_of_lt_of_le (h.gl k hk) A.size,h.fB,h.gB,h.tl,h.rl,h.may⟩
theorem BM (es:List (bF × Nat)) (g:bp):putN (di es) g=fR es g:=by
 have A:(di es).length=es.length:=List.length_map ..;unfold putN fR;rw [sM,A];by_cases h:g ∈ di es <;> simp [h]
theorem oM.stepT {B:Nat} {w w1 w2:World} {bs bd:Nat} {es:List (bF × Nat)} {F G:Nat→Prop} {vg vt vr:Value} {rs:List Bool} {g:bp} {s:S} {e:Ending} (h:oM B w bs bd es F G vg vt vr (fC es) rs) (hw:B≤w.heap.size)
    (hp:fL F bs es 0 0 g s w e w1) (hd:rG G bd (di es) (fC es) g s w1 w2) : ∃ A O G' aa U Z ac,oM B w2 bs bd A O G' aa U Z (fC A) ac∧(∀ k,k<w.heap.size→O k→F k)∧(∀ k,k<w.heap.size→G' k→G k)∧A.length≤es.length+1∧Below B w w2:=by
 obtain ⟨-,ho,O,A,h1,h2,h3,h4,h5⟩:=hp;obtain ⟨o2,G',aa,U,Z,ac,d1,d2,d4⟩:=hd;have bb:=h5 h.fr;have s1:=ho.size;have s2:=o2.size
 have ah : ∀ k,O k → ¬ G k:=fun k hk J=>by
  have:=h.gl k J
  exact h.fg k (h2 k this hk) J
 obtain ⟨me,mv,L,cl,V,cv,ad⟩:=h1;have bc:=ad.lt;have al:dN w2 A:=bb.only o2 fun x hx=>ah _ (ad.own.2.2.2 x hx);have a0:=ad.only o2 ah (al.ent O)
 have I:(if putG (di es) g=true then di es ++ [g] else di es)=di A∧(if putG (di es) g=true then fC es ++ [s] else fC es)=fC A:=by
  rw [yj];by_cases h0:fR es g=0
  · obtain ⟨eb,he⟩:=h4 h0
    rw [if_pos (decide_eq_true h0),if_pos (decide_eq_true h0),he];simp [di,fC,gP]
  · rw [if_neg (by simpa using h0),if_neg (by simpa using h0),h3 h0]
    exact ⟨rfl,rfl⟩
 have a5:A.length≤es.length+1:=by
  by_cases h0:fR es g=0
  · obtain ⟨eb,he⟩:=h4 h0
    rw [he]; simp
  · rw [h3 h0]; omega
 have a4 : ∀ x ∈ di A,dI x=true:=fun x hx=>by
  rw [← I.1] at hx;by_cases D:putG (di es) g=true
  · rw [if_pos D] at hx
    rcases List.mem_append.1 hx with hx | hx
    · exact h.may x hx
    · rw [List.mem_singleton.1 hx]
      unfold putG at D;exact (Bool.and_eq_true_iff.1 D).1
  · rw [if_neg D] at hx
    exact h.may x hx
 rw [I.1,I.2] at d1;rw [I.1] at d4;have ba:(di A).length=A.length:=List.length_map ..;rw [ba] at d4;refine ⟨A,O,_,aa,U,Z,ac,⟨⟨me,mv,L,cl,V,cv,a0⟩,al,d1.narrow,?_,fun k hk=>hk.2,?_,?_,by unfold fC; rw [List.length_map]; exact Nat.le_refl _,d4,a4⟩,h2,fun k hk J=>d2 k (by omega) J.1,a5,(ho.below hw h.fB).trans (o2.below (Nat.le_trans hw s1) h.gB)⟩
 · rintro k hk ⟨J,-⟩
   exact ah k hk (d2 k (bc k hk) J)
 · intro k hk
   by_cases ag:k<w.heap.size
   · exact h.fB k (h2 k ag hk)
   · omega
 · rintro k ⟨hk,-⟩
   by_cases ag:k<w1.heap.size
   · exact h.gB k (d2 k ag hk)
   · omega
end Go.Proofs.YtominiaohfjobaaGreatDoor
