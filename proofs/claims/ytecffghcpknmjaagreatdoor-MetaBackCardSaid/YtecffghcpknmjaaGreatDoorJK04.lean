/- What store.Put does; the conditions stand in the theorems. -/
import Derived.Test.YtecffghcpknmjaaGreatDoorJK03
import Derived.Test.YtecffghcpknmjaaGreatDoorG2
import Derived.WalkKit
import Derived.Lib.Hide
import Derived.Deep.QuietTactic
import Derived.BigQuiet
import Derived.Test.YtecffghcpknmjaaGreatDoorOwn2
import Derived.Test.YtecffghcpknmjaaGreatDoorQB
import Derived.Test.YtecffghcpknmjaaGreatDoorK19
import Derived.Test.YtecffghcpknmjaaGreatDoorK4
import Derived.Test.YtecffghcpknmjaaGreatDoorR0
import Derived.Test.YtecffghcpknmjaaGreatDoorL0
import Derived.Test.YtecffghcpknmjaaGreatDoorSB
import Derived.Lib.Strings
import Derived.Lib.Bytealg
import Derived.Lib.Index
import Derived.Lib.LastIndexByte
import Derived.Lib.LastIndexLaws
import Derived.WalkSpells
import Derived.WalkLawsBesides
namespace Go.Proofs.YtecffghcpknmjaaGreatDoor
open Go Go.RowKit
def putE (es:List (SEnt × Nat)) (g:Gav):Int:=if gavMay g=false then 1 else if hasG es g then 4 else if 1024≤es.length then 2 else 0
def PutOut (F:Nat→Prop) (b:Nat) (es:List (SEnt × Nat)) (r a:Int) (g:Gav) (s:S) (w:World) (e:Ending) (w':World):Prop:=e = .returned (.int .i64 (putE es g))∧Only F w w' ∧
 ∃ F' es',StoreAt F' w' b es' r a∧(∀ k,k<w.heap.size→F' k→F k)∧(putE es g≠0→es'=es)∧(putE es g=0 → ∃ eb,es'=es ++ [(freshE g s,eb)])
theorem PutOut.no {F:Nat→Prop} {b:Nat} {es:List (SEnt × Nat)} {r a:Int} {g:Gav} {s:S} {w w':World} {x:Int} (h:StoreAt F w b es r a) (hx:putE es g=x) (h0:x≠0) (hb:Below w.heap.size w w'):PutOut F b es r a g s w (.returned (.int .i64 x)) w' :=
 ⟨by rw [hx],Only.of hb,F,es,h.below hb,fun _ _=>id,fun _=>rfl,fun e=>absurd (hx.symm.trans e) h0⟩
def PutFOut (F:Nat→Prop) (b:Nat) (es:List (SEnt × Nat)) (r a:Int) (g:Gav) (s:S) (w:World) (e:Ending) (w':World):Prop:=e = .returned (.int .i64 (putE es g))∧Only F w w' ∧
 ∃ F' es',StoreAt F' w' b es' r a∧(∀ k,k<w.heap.size→F' k→F k)∧(putE es g≠0→es'=es)∧(putE es g=0 → ∃ eb,es'=es ++ [(freshE g s,eb)])∧(FreshAt w es→FreshAt w' es')
theorem PutFOut.out {F:Nat→Prop} {b:Nat} {es:List (SEnt × Nat)} {r a:Int} {g:Gav} {s:S} {w w':World} {e:Ending} (h:PutFOut F b es r a g s w e w'):PutOut F b es r a g s w e w':=by
 obtain ⟨h1,h2,F',es',h3,h4,h5,h6,-⟩:=h;exact ⟨h1,h2,F',es',h3,h4,h5,h6⟩
theorem PutFOut.no {F:Nat→Prop} {b:Nat} {es:List (SEnt × Nat)} {r a:Int} {g:Gav} {s:S} {w w':World} {x:Int} (h:StoreAt F w b es r a) (hx:putE es g=x) (h0:x≠0) (hb:Below w.heap.size w w'):PutFOut F b es r a g s w (.returned (.int .i64 x)) w' :=
 ⟨by rw [hx],Only.of hb,F,es,h.below hb,fun _ _=>id,fun _=>rfl,fun e=>absurd (hx.symm.trans e) h0,fun h=>h.below hb⟩
def NewBox (n:Nat) (w:World) (p:Nat) (cs:List Value):Prop:=n≤p∧Box w p cs
theorem NewBox.later {n:Nat} {w w':World} {p:Nat} {cs:List Value} (h:NewBox n w p cs) (hb:Below w.heap.size w w'):NewBox n w' p cs:=⟨h.1,h.2.below hb h.2.lt⟩
theorem BoxS.later {w w':World} {b:Nat} {cs:List Value} (h:Box w b cs) (hb:Below w.heap.size w w'):Box w' b cs:=h.below hb h.lt
theorem MMap.later {K:Type} {kc:K→Value} {w w':World} {m:Nat} {L:List (MEnt K)} {c:Nat} (h:MMap kc w m L c) (hb:Below w.heap.size w w'):MMap kc w' m L c:=h.below hb h.lt
def AppF (V w':World) (row:Option Nat) (v:Value) (l:List S):Prop:=V.grownBy w' row∧Owns 0 9 1 strC w' v l∧(v.ownBlock=row ∨ ∃ k,V.heap.size≤k∧v.ownBlock=some k)
theorem AppF.later {V w w':World} {row:Option Nat} {v:Value} {l:List S} (h:AppF V w row v l) (hb:Below w.heap.size w w'):AppF V w' row v l:=⟨grown_then h.1 hb,h.2.1.below hb,h.2.2⟩
theorem wp_update {P:Program} {op:Oper} {a:Act} {w w':World} {K:Act→World→Prop} {Q:Exit→Act→World→Prop} (ty:TypeId) (x y z:Operand) (ho:op.op = .mapUpdate ty x y z)
    (m k v:Value) (hm:a.eval x=m) (hk:a.eval y=k) (hv:a.eval z=v) (hr:(Instr.mapUpdate ty m k v).run P w = .ok () w') (h:K (a.put op.dst undef) w'):op.wp P a w K Q:=by
 simp only [Oper.wp,execOp,ho,hm,hk,hv,Sem.run_bind,hr,Result.andThen_ok,Sem.run_pure,Oper.upon];exact h
def paUpd (b me:Nat) (g:Gav) (s:S) (x0 x1 x2 x3 x4 x5 x6 x7 x8 x9 x10 x11 x12 x13 x14 x15 x16 x17 x18 x19 x20 x21 x22 x23 x24 x33 x34 x35 x36 x37 x38 x39 x40 x41 x42 x43 x44 x45 x46 x47 x48 x49:Value) (f0 f1 f2 f3 f4 f5 f6 f7 _f8:Bool) (P:Nat):Act :=
 ⟨#[x0,x1,x2,x3,x4,x5,x6,x7,x8,x9,x10,x11,x12,x13,x14,x15,x16,x17,x18,x19,x20,x21,x22,x23,x24,cond f0 (.pointer (some ⟨b,0,none⟩)) undef,cond f1 (.pointer (some ⟨b,0,none⟩)) undef,cond f2 (.pointer (some ⟨b,0,none⟩)) undef,cond f3 (.map (some me)) undef,cond f4 (.agg #[.string g.group,.string g.artifact,.string g.version]) undef,cond f5 (.string s) undef,cond f6 (.agg #[.string s,.int .u32 0,.int .i32 0,.int .u32 0,.bool false,.string ⟨#[]⟩,.string ⟨#[]⟩,.string ⟨#[]⟩,.string ⟨#[]⟩,.string ⟨#[]⟩,.string ⟨#[]⟩,.string ⟨#[]⟩,.slice none 0 0,.slice none 0 0,.slice none 0 0,.int .i64 0,.string ⟨#[]⟩,.string ⟨#[]⟩,.string ⟨#[]⟩,.int .i64 0,.int .i64 0,.int .i64 0,.string ⟨#[]⟩]) undef,cond f7 (.pointer (some ⟨P,0,none⟩)) undef,x33,x34,x35,x36,x37,x38,x39,x40,x41,x42,x43,x44,x45,x46,x47,x48,x49],[]⟩
inductive paJ (b me:Nat) (g:Gav) (s:S) (L:List (MEnt Gav)) (cl:Nat) (V:World) (x0 x1 x2 x3 x4 x5 x6 x7 x8 x9 x10 x11 x12 x13 x14 x15 x16 x17 x18 x19 x20 x21 x22 x23 x24 x33 x34 x35 x36 x37 x38 x39 x40 x41 x42 x43 x44 x45 x46 x47 x48 x49:Value):Array Bool→Act→World→Prop where
 | mk (f0 f1 f2 f3 f4 f5 f6 f7 f8:Bool) (P:Nat) (w':World) (ch1:Hid (f1=true→f0=true)) (ch2:Hid (f2=true→f1=true)) (ch3:Hid (f3=true→f2=true)) (ch6:Hid (f6=true→f5=true)) (ch7:Hid (f7=true→f6=true)) (ch8:Hid (f8=true→f3=true∧f4=true∧f7=true)) (hB:(f8=false→Below V.heap.size V w')) (bx:(f7=true→f8=false→NewBox V.heap.size w' P [.string s,.int .u32 0,.int .i32 0,.int .u32 0,.bool false,.string ⟨#[]⟩,.string ⟨#[]⟩,.string ⟨#[]⟩,.string ⟨#[]⟩,.string ⟨#[]⟩,.string ⟨#[]⟩,.string ⟨#[]⟩,.slice none 0 0,.slice none 0 0,.slice none 0 0,.int .i64 0,.string ⟨#[]⟩,.string ⟨#[]⟩,.string ⟨#[]⟩,.int .i64 0,.int .i64 0,.int .i64 0,.string ⟨#[]⟩])) (fin:(f8=true → ∃ w1,Below V.heap.size V w1∧NewBox V.heap.size w1 P [.string s,.int .u32 0,.int .i32 0,.int .u32 0,.bool false,.string ⟨#[]⟩,.string ⟨#[]⟩,.string ⟨#[]⟩,.string ⟨#[]⟩,.string ⟨#[]⟩,.string ⟨#[]⟩,.string ⟨#[]⟩,.slice none 0 0,.slice none 0 0,.slice none 0 0,.int .i64 0,.string ⟨#[]⟩,.string ⟨#[]⟩,.string ⟨#[]⟩,.int .i64 0,.int .i64 0,.int .i64 0,.string ⟨#[]⟩]∧w'=mSet kGav w1 me (mPut L g (.pointer (some ⟨P,0,none⟩)) cl) (mCnt L g cl))):paJ b me g s L cl V x0 x1 x2 x3 x4 x5 x6 x7 x8 x9 x10 x11 x12 x13 x14 x15 x16 x17 x18 x19 x20 x21 x22 x23 x24 x33 x34 x35 x36 x37 x38 x39 x40 x41 x42 x43 x44 x45 x46 x47 x48 x49 #[f0,f1,f2,f3,f4,f5,f6,f7,f8] (paUpd b me g s x0 x1 x2 x3 x4 x5 x6 x7 x8 x9 x10 x11 x12 x13 x14 x15 x16 x17 x18 x19 x20 x21 x22 x23 x24 x33 x34 x35 x36 x37 x38 x39 x40 x41 x42 x43 x44 x45 x46 x47 x48 x49 f0 f1 f2 f3 f4 f5 f6 f7 f8 P) w'
theorem paJ.at {b me:Nat} {g:Gav} {s:S} {L:List (MEnt Gav)} {cl:Nat} {V:World} {x0 x1 x2 x3 x4 x5 x6 x7 x8 x9 x10 x11 x12 x13 x14 x15 x16 x17 x18 x19 x20 x21 x22 x23 x24 x33 x34 x35 x36 x37 x38 x39 x40 x41 x42 x43 x44 x45 x46 x47 x48 x49:Value} {listed:Array Bool} {atx:Act} {w':World} (f0 f1 f2 f3 f4 f5 f6 f7 f8:Bool) (P:Nat) (hl:listed=#[f0,f1,f2,f3,f4,f5,f6,f7,f8]) (ha:atx=paUpd b me g s x0 x1 x2 x3 x4 x5 x6 x7 x8 x9 x10 x11 x12 x13 x14 x15 x16 x17 x18 x19 x20 x21 x22 x23 x24 x33 x34 x35 x36 x37 x38 x39 x40 x41 x42 x43 x44 x45 x46 x47 x48 x49 f0 f1 f2 f3 f4 f5 f6 f7 f8 P) (ch1:Hid (f1=true→f0=true)) (ch2:Hid (f2=true→f1=true)) (ch3:Hid (f3=true→f2=true)) (ch6:Hid (f6=true→f5=true)) (ch7:Hid (f7=true→f6=true)) (ch8:Hid (f8=true→f3=true∧f4=true∧f7=true)) (hB:(f8=false→Below V.heap.size V w')) (bx:(f7=true→f8=false→NewBox V.heap.size w' P [.string s,.int .u32 0,.int .i32 0,.int .u32 0,.bool false,.string ⟨#[]⟩,.string ⟨#[]⟩,.string ⟨#[]⟩,.string ⟨#[]⟩,.string ⟨#[]⟩,.string ⟨#[]⟩,.string ⟨#[]⟩,.slice none 0 0,.slice none 0 0,.slice none 0 0,.int .i64 0,.string ⟨#[]⟩,.string ⟨#[]⟩,.string ⟨#[]⟩,.int .i64 0,.int .i64 0,.int .i64 0,.string ⟨#[]⟩])) (fin:(f8=true → ∃ w1,Below V.heap.size V w1∧NewBox V.heap.size w1 P [.string s,.int .u32 0,.int .i32 0,.int .u32 0,.bool false,.string ⟨#[]⟩,.string ⟨#[]⟩,.string ⟨#[]⟩,.string ⟨#[]⟩,.string ⟨#[]⟩,.string ⟨#[]⟩,.string ⟨#[]⟩,.slice none 0 0,.slice none 0 0,.slice none 0 0,.int .i64 0,.string ⟨#[]⟩,.string ⟨#[]⟩,.string ⟨#[]⟩,.int .i64 0,.int .i64 0,.int .i64 0,.string ⟨#[]⟩]∧w'=mSet kGav w1 me (mPut L g (.pointer (some ⟨P,0,none⟩)) cl) (mCnt L g cl))):paJ b me g s L cl V x0 x1 x2 x3 x4 x5 x6 x7 x8 x9 x10 x11 x12 x13 x14 x15 x16 x17 x18 x19 x20 x21 x22 x23 x24 x33 x34 x35 x36 x37 x38 x39 x40 x41 x42 x43 x44 x45 x46 x47 x48 x49 listed atx w':=by
 subst hl ha;exact .mk f0 f1 f2 f3 f4 f5 f6 f7 f8 P w' ch1 ch2 ch3 ch6 ch7 ch8 hB bx fin
def pbUpd (b mv GB:Nat) (g:Gav) (es:List (SEnt × Nat)) (RV:Value) (x0 x1 x2 x3 x4 x5 x6 x7 x8 x9 x10 x11 x12 x13 x14 x15 x16 x17 x18 x19 x20 x21 x22 x23 x24 x25 x26 x27 x28 x29 x30 x31 x32:Value) (f0 f1 f2 f3 f4 f5 f6 f7 f8 f9 f10 f11 f12 f13 f14 f15 f16 _f17:Bool) (R:Nat) (q:Nat) (cap:Nat):Act :=
 ⟨#[x0,x1,x2,x3,x4,x5,x6,x7,x8,x9,x10,x11,x12,x13,x14,x15,x16,x17,x18,x19,x20,x21,x22,x23,x24,x25,x26,x27,x28,x29,x30,x31,x32,cond f0 (.pointer (some ⟨b,0,none⟩)) undef,cond f1 (.pointer (some ⟨b,0,none⟩)) undef,cond f2 (.pointer (some ⟨b,1,none⟩)) undef,cond f3 (.map (some mv)) undef,cond f4 (.agg #[.string g.group,.string g.artifact,.string g.version]) undef,cond f5 (.agg #[.string g.group,.string g.artifact]) undef,cond f6 (.pointer (some ⟨b,0,none⟩)) undef,cond f7 (.pointer (some ⟨b,0,none⟩)) undef,cond f8 (.pointer (some ⟨b,1,none⟩)) undef,cond f9 (.map (some mv)) undef,cond f10 (.agg #[.string g.group,.string g.artifact,.string g.version]) undef,cond f11 (.agg #[.string g.group,.string g.artifact]) undef,cond f12 (RV) undef,cond f13 (.pointer (some ⟨GB,2,none⟩)) undef,cond f14 (.string g.version) undef,cond f15 (.slice (some ⟨R,0,none⟩) 1 1) undef,cond f16 (.slice (some ⟨q,0,none⟩) (versOf es (idOf g)).length.succ cap) undef],[]⟩
inductive pbJ (b me mv GB:Nat) (r a:Int) (g:Gav) (es:List (SEnt × Nat)) (RV:Value) (Vm:List (MEnt Id)) (cv:Nat) (V:World) (x0 x1 x2 x3 x4 x5 x6 x7 x8 x9 x10 x11 x12 x13 x14 x15 x16 x17 x18 x19 x20 x21 x22 x23 x24 x25 x26 x27 x28 x29 x30 x31 x32:Value):Array Bool→Act→World→Prop where
 | mk (f0 f1 f2 f3 f4 f5 f6 f7 f8 f9 f10 f11 f12 f13 f14 f15 f16 f17:Bool) (R:Nat) (q:Nat) (cap:Nat) (w':World) (ch1:Hid (f1=true→f0=true)) (ch2:Hid (f2=true→f1=true)) (ch3:Hid (f3=true→f2=true)) (ch5:Hid (f5=true→f4=true)) (ch7:Hid (f7=true→f6=true)) (ch8:Hid (f8=true→f7=true)) (ch9:Hid (f9=true→f8=true)) (ch11:Hid (f11=true→f10=true)) (ch12:Hid (f12=true→f9=true∧f11=true)) (ch14:Hid (f14=true→f13=true)) (ch15:Hid (f15=true→f14=true)) (ch16:Hid (f16=true→f12=true∧f15=true)) (ch17:Hid (f17=true→f3=true∧f5=true∧f16=true)) (hB:(f16=false→Below V.heap.size V w')) (bx:(f15=true→f16=false→Box w' R [.string g.version])) (rb:(f17=false→Box w' b [.map (some me),.map (some mv),.int .i64 r,.int .i64 a])) (rg:(f17=false→Box w' GB [.string g.group,.string g.artifact,.string g.version])) (rm:(f17=false→MMap kId w' mv Vm cv)) (ap:(f16=true→f17=false→AppF V w' RV.ownBlock (.slice (some ⟨q,0,none⟩) (versOf es (idOf g)).length.succ cap) (versOf es (idOf g) ++ [g.version]))) (fin:(f17=true → ∃ w3,AppF V w3 RV.ownBlock (.slice (some ⟨q,0,none⟩) (versOf es (idOf g)).length.succ cap) (versOf es (idOf g) ++ [g.version])∧w'=mSet kId w3 mv (mPut Vm (idOf g) (.slice (some ⟨q,0,none⟩) (versOf es (idOf g)).length.succ cap) cv) (mCnt Vm (idOf g) cv))):pbJ b me mv GB r a g es RV Vm cv V x0 x1 x2 x3 x4 x5 x6 x7 x8 x9 x10 x11 x12 x13 x14 x15 x16 x17 x18 x19 x20 x21 x22 x23 x24 x25 x26 x27 x28 x29 x30 x31 x32 #[f0,f1,f2,f3,f4,f5,f6,f7,f8,f9,f10,f11,f12,f13,f14,f15,f16,f17] (pbUpd b mv GB g es RV x0 x1 x2 x3 x4 x5 x6 x7 x8 x9 x10 x11 x12 x13 x14 x15 x16 x17 x18 x19 x20 x21 x22 x23 x24 x25 x26 x27 x28 x29 x30 x31 x32 f0 f1 f2 f3 f4 f5 f6 f7 f8 f9 f10 f11 f12 f13 f14 f15 f16 f17 R q cap) w'
theorem pbJ.at {b me mv GB:Nat} {r a:Int} {g:Gav} {es:List (SEnt × Nat)} {RV:Value} {Vm:List (MEnt Id)} {cv:Nat} {V:World} {x0 x1 x2 x3 x4 x5 x6 x7 x8 x9 x10 x11 x12 x13 x14 x15 x16 x17 x18 x19 x20 x21 x22 x23 x24 x25 x26 x27 x28 x29 x30 x31 x32:Value} {listed:Array Bool} {atx:Act} {w':World} (f0 f1 f2 f3 f4 f5 f6 f7 f8 f9 f10 f11 f12 f13 f14 f15 f16 f17:Bool) (R:Nat) (q:Nat) (cap:Nat) (hl:listed=#[f0,f1,f2,f3,f4,f5,f6,f7,f8,f9,f10,f11,f12,f13,f14,f15,f16,f17]) (ha:atx=pbUpd b mv GB g es RV x0 x1 x2 x3 x4 x5 x6 x7 x8 x9 x10 x11 x12 x13 x14 x15 x16 x17 x18 x19 x20 x21 x22 x23 x24 x25 x26 x27 x28 x29 x30 x31 x32 f0 f1 f2 f3 f4 f5 f6 f7 f8 f9 f10 f11 f12 f13 f14 f15 f16 f17 R q cap) (ch1:Hid (f1=true→f0=true)) (ch2:Hid (f2=true→f1=true)) (ch3:Hid (f3=true→f2=true)) (ch5:Hid (f5=true→f4=true)) (ch7:Hid (f7=true→f6=true)) (ch8:Hid (f8=true→f7=true)) (ch9:Hid (f9=true→f8=true)) (ch11:Hid (f11=true→f10=true)) (ch12:Hid (f12=true→f9=true∧f11=true)) (ch14:Hid (f14=true→f13=true)) (ch15:Hid (f15=true→f14=true)) (ch16:Hid (f16=true→f12=true∧f15=true)) (ch17:Hid (f17=true→f3=true∧f5=true∧f16=true)) (hB:(f16=false→Below V.heap.size V w')) (bx:(f15=true→f16=false→Box w' R [.string g.version])) (rb:(f17=false→Box w' b [.map (some me),.map (some mv),.int .i64 r,.int .i64 a])) (rg:(f17=false→Box w' GB [.string g.group,.string g.artifact,.string g.version])) (rm:(f17=false→MMap kId w' mv Vm cv)) (ap:(f16=true→f17=false→AppF V w' RV.ownBlock (.slice (some ⟨q,0,none⟩) (versOf es (idOf g)).length.succ cap) (versOf es (idOf g) ++ [g.version]))) (fin:(f17=true → ∃ w3,AppF V w3 RV.ownBlock (.slice (some ⟨q,0,none⟩) (versOf es (idOf g)).length.succ cap) (versOf es (idOf g) ++ [g.version])∧w'=mSet kId w3 mv (mPut Vm (idOf g) (.slice (some ⟨q,0,none⟩) (versOf es (idOf g)).length.succ cap) cv) (mCnt Vm (idOf g) cv))):pbJ b me mv GB r a g es RV Vm cv V x0 x1 x2 x3 x4 x5 x6 x7 x8 x9 x10 x11 x12 x13 x14 x15 x16 x17 x18 x19 x20 x21 x22 x23 x24 x25 x26 x27 x28 x29 x30 x31 x32 listed atx w':=by
 subst hl ha;exact .mk f0 f1 f2 f3 f4 f5 f6 f7 f8 f9 f10 f11 f12 f13 f14 f15 f16 f17 R q cap w' ch1 ch2 ch3 ch5 ch7 ch8 ch9 ch11 ch12 ch14 ch15 ch16 ch17 hB bx rb rg rm ap fin
set_option maxRecDepth 100000 in
set_option maxHeartbeats 8000000 in
theorem putF_any (g:Gav) (s:S) (w:World) {F:Nat→Prop} {b:Nat} {es:List (SEnt × Nat)} {r a:Int} (h:StoreAt F w b es r a) (hg:gavSm g) :
    Calls Tryz.prog 18 #[ptr b,.agg #[.string g.group,.string g.artifact,.string g.version],.string s] w (PutFOut F b es r a g s w):=by
 have HST:=Lib.hid h;have HG:=Lib.hid hg;have hlt:b<w.heap.size:=by obtain ⟨me,mv,L,cl,V,cv,h⟩:=h; exact h.box.lt
 clear h hg;unfold ptr;go_enter Tryz.func18,Tryz.ntmps18
 go_upto_region 1 with fail
 refine wp_world ?_
 intro W hW;have x0:Box W w.heap.size [.string g.group,.string g.artifact,.string g.version]:=by rw [hW]; exact Box.new w (gavC g) _ _ rfl
 have hb:Below w.heap.size w W:=by rw [hW]; exact (Below.refl _ _).alloc (Nat.le_refl _) _
 clear hW;have HX:=Lib.hid x0;have HB:=Lib.hid hb;clear hb;have k0:=x0.cell 0 _ rfl;have k1:=x0.cell 1 _ rfl;have k2:=x0.cell 2 _ rfl;have kl:=x0.lt;clear x0;go_wp2_with fail
 refine (mayGav_any g _ HG.out).mono ?_
 rintro e W1 ⟨rfl,hb1⟩;have HB1:=Lib.hid (HB.out.trans (hb1.mono HB.out.size));have HX1:=Lib.hid (HX.out.below hb1 HX.out.lt);clear hb1 HB HX k0 k1 k2 kl;cases hm:gavMay g with
 | false =>
  have HPE:Hid (putE es g=1):=by show _=_; unfold putE; rw [if_pos hm]
  clear hm;go_wp2_with fail
  go_ret
  exact PutFOut.no HST.out HPE.out (by decide) HB1.out
 | true =>
  have HM:=Lib.hid hm;clear hm;have HS1:=Lib.hid (HST.out.below HB1.out);have k0:=HX1.out.cell 0 _ rfl;have k1:=HX1.out.cell 1 _ rfl;have k2:=HX1.out.cell 2 _ rfl;have kl:=HX1.out.lt;go_wp2_with fail
  refine (has_any g _ HS1.out).mono ?_
  rintro e W2 ⟨rfl,hb2⟩;have HB2:=Lib.hid (HB1.out.trans (hb2.mono HB1.out.size));have HX2:=Lib.hid (HX1.out.below hb2 HX1.out.lt);clear hb2 HB1 HX1 HS1 k0 k1 k2 kl;cases hh:hasG es g with
  | true =>
   have HPE:Hid (putE es g=4):=by show _=_; unfold putE; rw [if_neg (by rw [HM.out]; simp),hh,if_pos rfl]
   clear hh;go_wp2_with fail
   go_ret
   exact PutFOut.no HST.out HPE.out (by decide) HB2.out
  | false =>
   have HNH:=Lib.hid hh;clear hh;obtain ⟨me,mv,L,cl,V,cv,hst⟩:=HST.out;have HST2:Hid (StoreIn F W2 b me mv L cl V cv es r a):=hst.only (Only.of (F:=fun _=>False) HB2.out) (fun _ _=>id) fun e he=>(hst.ent e he).only (Only.of HB2.out) (fun _ _=>id) (HB2.out.block _ (hst.lt _ (hst.own.2.2.2 e he)));have HLT:Hid (∀ k,F k→k<w.heap.size):=hst.lt;clear hst;have hl : ∀ ty,(Builtin.len_ #[89] ty #[.map (some me)]).run Tryz.prog W2 = .ok (.int .i64 es.length) W2:=fun ty=>by
    rw [len_map HST2.out.ents Tryz.underlying89 ty,HST2.out.len]
   have b0:=HST2.out.box.cell 0 _ rfl;have bl:=HST2.out.box.lt;by_cases h4:1024≤es.length
   · have d4:decide ((1024:Int)≤(es.length:Int))=true:=decide_eq_true (by omega)
     have d5:decide (1024≤es.length)=true:=decide_eq_true h4;have HPE:Hid (putE es g=2):=by show _=_; unfold putE; rw [if_neg (by rw [HM.out]; simp),HNH.out,if_neg (by simp),if_pos h4]
     clear h4;go_wp2_with fail
     go_ret
     exact PutFOut.no HST.out HPE.out (by decide) HB2.out
   · have d4:decide ((1024:Int)≤(es.length:Int))=false:=decide_eq_false (by omega)
     have d5:decide (1024≤es.length)=false:=decide_eq_false h4;have HPE:Hid (putE es g=0):=by show _=_; unfold putE; rw [if_neg (by rw [HM.out]; simp),HNH.out,if_neg (by simp),if_neg h4]
     have HLE:Hid ((versOf es (idOf g)).length≤1024):=by
      show _≤_
      unfold versOf;have:=List.length_filter_le (fun g'=>decide (idOf g'=idOf g)) (es.map fun e=>e.1.gav)
      rw [List.length_map] at this ⊢;omega
     clear h4;go_upto_region 9 with fail
     clear d4 d5 hl b0 bl;have HSB:=Lib.hid HST2.out.box;have HME:=Lib.hid HST2.out.ents;have HX:=HX2;refine wp_region_flags0 (paJ b me g s L cl W2 _ _ _ _ _ _ _ _ _ _ _ _ _ _ _ _ _ _ _ _ _ _ _ _ _ _ _ _ _ _ _ _ _ _ _ _ _ _ _ _ _ _) (by kernel_rfl) 9 rfl (by kernel_rfl) (paJ.at false false false false false false false false false (0) rfl (by unfold paUpd; rfl) ?i0 ?i1 ?i2 ?i3 ?i4 ?i5 ?i6 ?i7 ?i8) ?fin ?step
     case i0=>exact Lib.hid (by simp)
     case i1=>exact Lib.hid (by simp)
     case i2=>exact Lib.hid (by simp)
     case i3=>exact Lib.hid (by simp)
     case i4=>exact Lib.hid (by simp)
     case i5=>exact Lib.hid (by simp)
     case i6=>exact fun h0=>belowN (Below.refl _ _) 1
     case i7=>exact by simp
     case i8=>exact by simp
     case fin =>
      intro a' w' hJ;generalize hl:Array.replicate 9 true=Lz at hJ;cases hJ with
      | mk f0 f1 f2 f3 f4 f5 f6 f7 f8 P _ ch1 ch2 ch3 ch6 ch7 ch8 hB bx fin =>
       have hl':[true,true,true,true,true,true,true,true,true]=[f0,f1,f2,f3,f4,f5,f6,f7,f8]:=congrArg Array.toList hl;simp only [List.cons.injEq,and_true] at hl';obtain ⟨rfl,rfl,rfl,rfl,rfl,rfl,rfl,rfl,rfl⟩:=hl';clear hl;unfold paUpd;simp only [cond_true];obtain ⟨w5,hb5,hx5,hw5⟩:=fin rfl;clear ch1 ch2 ch3 ch6 ch7 ch8 hB bx fin;obtain ⟨W6,hW6⟩ : ∃ W6:World,W6=w':=⟨_,rfl⟩;rw [← hW6];have HW5:Hid (W6=_):=hW6.trans hw5;clear hW6 hw5;have HB5:=Lib.hid hb5;have HX5:=Lib.hid hx5;clear hb5 hx5 HSB HME;obtain ⟨RV,hrv⟩ : ∃ RV,RV=rowV V (idOf g):=⟨_,rfl⟩;have hg6:w5.grownBy W6 (some me):=by rw [HW5.out]; exact mSet_grown _ _ _ _
       have hat : ∀ k,RV.ownBlock=some k→F k∧k≠b∧k≠me∧k≠mv ∧ ∀ e ∈ es,e.2≠k:=fun k hk=>HST2.out.rowV_at (idOf g) (by rw [← hrv]; exact hk);have hne:=HST2.out.ne;have hown:=HST2.out.own;have HSB:Hid (Box W6 b [.map (some me),.map (some mv),.int .i64 r,.int .i64 a]):=(HST2.out.box.below HB5.out HST2.out.box.lt).grown hg6 (fun e=>hne.1 (by cases e; rfl));have HX:Hid (Box W6 w.heap.size [.string g.group,.string g.artifact,.string g.version]):=(HX2.out.below HB5.out HX2.out.lt).grown hg6 (fun e=>by have:=HLT.out me hown.2.1; cases e; omega);have HMV:Hid (MMap kId W6 mv V cv):=(HST2.out.vers.below HB5.out HST2.out.vers.lt).grown hg6 (fun e=>hne.2.2.1 (by cases e; rfl))
       have HRV:Hid (Owns 0 9 1 strC W6 RV (versOf es (idOf g))):=by
        have h1:=HST2.out.rowV_owns (idOf g);rw [← hrv] at h1;exact (h1.below HB5.out).only (Only.grown (F:=fun k=>k=me) hg6 (by rintro k ⟨⟩; rfl)) (fun k hk e=>(hat k hk).2.2.1 e)
       have HLK:Hid (∀ w',MMap kId w' mv V cv→(Instr.lookup 90 (.map (some mv)) (.agg #[.string g.group,.string g.artifact]) false).run Tryz.prog w' = .ok RV w'):=fun w' h=>by rw [hrv]; exact look_row (idOf g) h
       have HN1:Hid (some b≠RV.ownBlock):=fun e=>(hat b e.symm).2.1 rfl;have HN2:Hid (some w.heap.size≠RV.ownBlock):=fun e=>by have:=HLT.out _ (hat _ e.symm).1; omega
       have HN3:Hid (some mv≠RV.ownBlock):=fun e=>(hat mv e.symm).2.2.2.1 rfl;have HRVE:=Lib.hid hrv;clear hrv hg6 hat hne hown;go_upto_region 10 with fail
       refine wp_region_flags0 (pbJ b me mv w.heap.size r a g es RV V cv W6 _ _ _ _ _ _ _ _ _ _ _ _ _ _ _ _ _ _ _ _ _ _ _ _ _ _ _ _ _ _ _ _ _) (by kernel_rfl) 18 rfl (by kernel_rfl) (pbJ.at false false false false false false false false false false false false false false false false false false (0) (0) (0) rfl (by unfold pbUpd; rfl) ?j0 ?j1 ?j2 ?j3 ?j4 ?j5 ?j6 ?j7 ?j8 ?j9 ?j10 ?j11 ?j12 ?j13 ?j14 ?j15 ?j16 ?j17 ?j18 ?j19) ?fin2 ?step2
       case j0=>exact Lib.hid (by simp)
       case j1=>exact Lib.hid (by simp)
       case j2=>exact Lib.hid (by simp)
       case j3=>exact Lib.hid (by simp)
       case j4=>exact Lib.hid (by simp)
       case j5=>exact Lib.hid (by simp)
       case j6=>exact Lib.hid (by simp)
       case j7=>exact Lib.hid (by simp)
       case j8=>exact Lib.hid (by simp)
       case j9=>exact Lib.hid (by simp)
       case j10=>exact Lib.hid (by simp)
       case j11=>exact Lib.hid (by simp)
       case j12=>exact Lib.hid (by simp)
       case j13=>exact fun h0=>belowN (Below.refl _ _) 1
       case j14=>exact by simp
       case j15=>exact fun _=>HSB.out.drewN 1
       case j16=>exact fun _=>HX.out.drewN 1
       case j17=>exact fun _=>HMV.out
       case j18=>exact by simp
       case j19=>exact by simp
       case fin2 =>
        intro a' w' hJ;generalize hl:Array.replicate 18 true=Lz at hJ;cases hJ with
        | mk f0 f1 f2 f3 f4 f5 f6 f7 f8 f9 f10 f11 f12 f13 f14 f15 f16 f17 R q cap _ ch1 ch2 ch3 ch5 ch7 ch8 ch9 ch11 ch12 ch14 ch15 ch16 ch17 hB bx rb rg rm ap fin =>
         have hl':[true,true,true,true,true,true,true,true,true,true,true,true,true,true,true,true,true,true]=[f0,f1,f2,f3,f4,f5,f6,f7,f8,f9,f10,f11,f12,f13,f14,f15,f16,f17]:=congrArg Array.toList hl;simp only [List.cons.injEq,and_true] at hl';obtain ⟨rfl,rfl,rfl,rfl,rfl,rfl,rfl,rfl,rfl,rfl,rfl,rfl,rfl,rfl,rfl,rfl,rfl,rfl⟩:=hl';clear hl;unfold pbUpd;simp only [cond_true];obtain ⟨w7,hap,hw7⟩:=fin rfl;clear ch1 ch2 ch3 ch5 ch7 ch8 ch9 ch11 ch12 ch14 ch15 ch16 ch17 hB bx rb rg rm ap fin;obtain ⟨W8,hW8⟩ : ∃ W8:World,W8=w':=⟨_,rfl⟩;rw [← hW8];have HAP:=Lib.hid hap;have HW7:Hid (W8=_):=hW8.trans hw7;clear hap hw7 hW8;go_wp2
         go_ret
         obtain rfl:=HRVE.out;obtain ⟨⟨F',hp,hF⟩,ho⟩:=HST2.out.put HNH.out HB5.out HX5.out.2 HX5.out.1 (w2:=W6) (by unfold ptr; rw [← show W6=_ from HW5.out]; exact Below.refl _ _) HAP.out.1 HAP.out.2.1 (HAP.out.2.2.imp id fun ⟨k,h1,h2⟩=>⟨k,by rw [show W6=_ from HW5.out] at h1; simpa [mSet] using h1,h2⟩) HW7.out;refine ⟨by rw [HPE.out]; rfl,(Only.of HB2.out).trans ho fun _ _=>id,F',_,⟨_,_,_,_,_,_,hp⟩,fun k hk hk2=>hF k (Nat.lt_of_lt_of_le hk HB2.out.size) hk2,fun h=>absurd HPE.out h,fun _=>⟨P,rfl⟩,fun hf=>HST2.out.put_fresh HB5.out HX5.out.2 HX5.out.1 (w2:=W6) (by unfold ptr; rw [← show W6=_ from HW5.out]; exact Below.refl _ _) HAP.out.1 HW7.out (hf.below HB2.out)⟩
       case step2 =>
        intro listed a' w' hJ i hi;cases hJ with
        | mk f0 f1 f2 f3 f4 f5 f6 f7 f8 f9 f10 f11 f12 f13 f14 f15 f16 f17 R q cap _ ch1 ch2 ch3 ch5 ch7 ch8 ch9 ch11 ch12 ch14 ch15 ch16 ch17 hB bx rb rg rm ap fin =>
         rw [mem_ready] at hi;obtain ⟨hu,o,ho,ha⟩:=hi;have hi8:i<18:=(Array.getElem?_eq_some_iff.1 ho).1;rcases (by omega:i=0∨i=1∨i=2∨i=3∨i=4∨i=5∨i=6∨i=7∨i=8∨i=9∨i=10∨i=11∨i=12∨i=13∨i=14∨i=15∨i=16∨i=17) with rfl | rfl | rfl | rfl | rfl | rfl | rfl | rfl | rfl | rfl | rfl | rfl | rfl | rfl | rfl | rfl | rfl | rfl
         · have ho':=ho
           simp at hu ho;subst hu ho;clear ha;have e1:f1=false:=Bool.eq_false_iff.2 fun h=>Bool.false_ne_true ((ch1.out h));have e2:f2=false:=Bool.eq_false_iff.2 fun h=>Bool.false_ne_true ((ch1.out (ch2.out h)));have e3:f3=false:=Bool.eq_false_iff.2 fun h=>Bool.false_ne_true ((ch1.out (ch2.out (ch3.out h))));have e17:f17=false:=Bool.eq_false_iff.2 fun h=>Bool.false_ne_true ((ch1.out (ch2.out (ch3.out (ch17.out h).1))));subst e1 e2 e3 e17;refine .inl ?_
           unfold pbUpd Oper.wp;go_simp
           exact pbJ.at true false false false f4 f5 f6 f7 f8 f9 f10 f11 f12 f13 f14 f15 f16 false (R) (q) (cap) rfl rfl (Lib.hid (by simp)) (Lib.hid (by simp)) (Lib.hid (by simp)) (ch5) (ch7) (ch8) (ch9) (ch11) (ch12) (ch14) (ch15) (ch16) (Lib.hid (by simp)) (hB) (bx) (rb) (rg) (rm) (ap) (by simp)
         · have ho':=ho
           simp at hu ho;subst hu ho;simp [Region.binds] at ha
           obtain rfl:f0=true:=by simp only [ha]
           clear ha;have e2:f2=false:=Bool.eq_false_iff.2 fun h=>Bool.false_ne_true ((ch2.out h));have e3:f3=false:=Bool.eq_false_iff.2 fun h=>Bool.false_ne_true ((ch2.out (ch3.out h)));have e17:f17=false:=Bool.eq_false_iff.2 fun h=>Bool.false_ne_true ((ch2.out (ch3.out (ch17.out h).1)));subst e2 e3 e17;have kb:=(rb rfl).cell 0 _ rfl;have kl:=(rb rfl).lt;refine .inl ?_
           unfold pbUpd Oper.wp;go_simp
           exact pbJ.at true true false false f4 f5 f6 f7 f8 f9 f10 f11 f12 f13 f14 f15 f16 false (R) (q) (cap) rfl rfl (Lib.hid (by simp)) (Lib.hid (by simp)) (Lib.hid (by simp)) (ch5) (ch7) (ch8) (ch9) (ch11) (ch12) (ch14) (ch15) (ch16) (Lib.hid (by simp)) (hB) (bx) (rb) (rg) (rm) (ap) (by simp)
         · have ho':=ho
           simp at hu ho;subst hu ho;simp [Region.binds] at ha
           obtain rfl:f1=true:=by simp only [ha]
           clear ha;obtain rfl:f0=true:=(ch1.out rfl);have e3:f3=false:=Bool.eq_false_iff.2 fun h=>Bool.false_ne_true ((ch3.out h));have e17:f17=false:=Bool.eq_false_iff.2 fun h=>Bool.false_ne_true ((ch3.out (ch17.out h).1));subst e3 e17;refine .inl ?_
           unfold pbUpd Oper.wp;go_simp
           exact pbJ.at true true true false f4 f5 f6 f7 f8 f9 f10 f11 f12 f13 f14 f15 f16 false (R) (q) (cap) rfl rfl (Lib.hid (by simp)) (Lib.hid (by simp)) (Lib.hid (by simp)) (ch5) (ch7) (ch8) (ch9) (ch11) (ch12) (ch14) (ch15) (ch16) (Lib.hid (by simp)) (hB) (bx) (rb) (rg) (rm) (ap) (by simp)
         · have ho':=ho
           simp at hu ho;subst hu ho;simp [Region.binds] at ha
           obtain rfl:f2=true:=by simp only [ha]
           clear ha;obtain rfl:f1=true:=(ch2.out rfl);obtain rfl:f0=true:=(ch1.out (ch2.out rfl));have e17:f17=false:=Bool.eq_false_iff.2 fun h=>Bool.false_ne_true ((ch17.out h).1);subst e17;have kb:=(rb rfl).cell 1 _ rfl;have kl:=(rb rfl).lt;refine .inl ?_
           unfold pbUpd Oper.wp;go_simp
           exact pbJ.at true true true true f4 f5 f6 f7 f8 f9 f10 f11 f12 f13 f14 f15 f16 false (R) (q) (cap) rfl rfl (Lib.hid (by simp)) (Lib.hid (by simp)) (Lib.hid (by simp)) (ch5) (ch7) (ch8) (ch9) (ch11) (ch12) (ch14) (ch15) (ch16) (Lib.hid (by simp)) (hB) (bx) (rb) (rg) (rm) (ap) (by simp)
         · have ho':=ho
           simp at hu ho;subst hu ho;clear ha;have e5:f5=false:=Bool.eq_false_iff.2 fun h=>Bool.false_ne_true ((ch5.out h));have e17:f17=false:=Bool.eq_false_iff.2 fun h=>Bool.false_ne_true ((ch5.out (ch17.out h).2.1));subst e5 e17;have k0:=(rg rfl).cell 0 _ rfl;have k1:=(rg rfl).cell 1 _ rfl;have k2:=(rg rfl).cell 2 _ rfl;have kl:=(rg rfl).lt;refine .inl ?_
           unfold pbUpd Oper.wp;go_simp
           exact pbJ.at f0 f1 f2 f3 true false f6 f7 f8 f9 f10 f11 f12 f13 f14 f15 f16 false (R) (q) (cap) rfl rfl (ch1) (ch2) (ch3) (Lib.hid (by simp)) (ch7) (ch8) (ch9) (ch11) (ch12) (ch14) (ch15) (ch16) (Lib.hid (by simp)) (hB) (bx) (rb) (rg) (rm) (ap) (by simp)
         · have ho':=ho
           simp at hu ho;subst hu ho;simp [Region.binds] at ha
           obtain rfl:f4=true:=by simp only [ha]
           clear ha;have e17:f17=false:=Bool.eq_false_iff.2 fun h=>Bool.false_ne_true ((ch17.out h).2.1);subst e17;refine .inl ?_
           unfold pbUpd Oper.wp;go_simp
           refine (id_any g w').mono ?_
           intro e w1 hO;obtain ⟨rfl,hb⟩:=hO;exact pbJ.at f0 f1 f2 f3 true true f6 f7 f8 f9 f10 f11 f12 f13 f14 f15 f16 false (R) (q) (cap) rfl rfl (ch1) (ch2) (ch3) (Lib.hid (by simp)) (ch7) (ch8) (ch9) (ch11) (ch12) (ch14) (ch15) (ch16) (Lib.hid (by simp)) (fun h0=>(hB h0).trans (hb.mono (hB h0).size)) (fun h0 h1=>BoxS.later (bx h0 h1) hb) (fun h0=>BoxS.later (rb h0) hb) (fun h0=>BoxS.later (rg h0) hb) (fun h0=>(rm h0).later hb) (fun h0 h1=>(ap h0 h1).later hb) (by simp)
         · have ho':=ho
           simp at hu ho;subst hu ho;clear ha;have e7:f7=false:=Bool.eq_false_iff.2 fun h=>Bool.false_ne_true ((ch7.out h));have e8:f8=false:=Bool.eq_false_iff.2 fun h=>Bool.false_ne_true ((ch7.out (ch8.out h)));have e9:f9=false:=Bool.eq_false_iff.2 fun h=>Bool.false_ne_true ((ch7.out (ch8.out (ch9.out h))));have e12:f12=false:=Bool.eq_false_iff.2 fun h=>Bool.false_ne_true ((ch7.out (ch8.out (ch9.out (ch12.out h).1))));have e16:f16=false:=Bool.eq_false_iff.2 fun h=>Bool.false_ne_true ((ch7.out (ch8.out (ch9.out (ch12.out (ch16.out h).1).1))));have e17:f17=false:=Bool.eq_false_iff.2 fun h=>Bool.false_ne_true ((ch7.out (ch8.out (ch9.out (ch12.out (ch16.out (ch17.out h).2.2).1).1))));subst e7 e8 e9 e12 e16 e17;refine .inl ?_
           unfold pbUpd Oper.wp;go_simp
           exact pbJ.at f0 f1 f2 f3 f4 f5 true false false false f10 f11 false f13 f14 f15 false false (R) (q) (cap) rfl rfl (ch1) (ch2) (ch3) (ch5) (Lib.hid (by simp)) (Lib.hid (by simp)) (Lib.hid (by simp)) (ch11) (Lib.hid (by simp)) (ch14) (ch15) (Lib.hid (by simp)) (Lib.hid (by simp)) (hB) (bx) (rb) (rg) (rm) (by simp) (by simp)
         · have ho':=ho
           simp at hu ho;subst hu ho;simp [Region.binds] at ha
           obtain rfl:f6=true:=by simp only [ha]
           clear ha;have e8:f8=false:=Bool.eq_false_iff.2 fun h=>Bool.false_ne_true ((ch8.out h));have e9:f9=false:=Bool.eq_false_iff.2 fun h=>Bool.false_ne_true ((ch8.out (ch9.out h)));have e12:f12=false:=Bool.eq_false_iff.2 fun h=>Bool.false_ne_true ((ch8.out (ch9.out (ch12.out h).1)));have e16:f16=false:=Bool.eq_false_iff.2 fun h=>Bool.false_ne_true ((ch8.out (ch9.out (ch12.out (ch16.out h).1).1)));have e17:f17=false:=Bool.eq_false_iff.2 fun h=>Bool.false_ne_true ((ch8.out (ch9.out (ch12.out (ch16.out (ch17.out h).2.2).1).1)));subst e8 e9 e12 e16 e17;have kb:=(rb rfl).cell 0 _ rfl;have kl:=(rb rfl).lt;refine .inl ?_
           unfold pbUpd Oper.wp;go_simp
           exact pbJ.at f0 f1 f2 f3 f4 f5 true true false false f10 f11 false f13 f14 f15 false false (R) (q) (cap) rfl rfl (ch1) (ch2) (ch3) (ch5) (Lib.hid (by simp)) (Lib.hid (by simp)) (Lib.hid (by simp)) (ch11) (Lib.hid (by simp)) (ch14) (ch15) (Lib.hid (by simp)) (Lib.hid (by simp)) (hB) (bx) (rb) (rg) (rm) (by simp) (by simp)
         · have ho':=ho
           simp at hu ho;subst hu ho;simp [Region.binds] at ha
           obtain rfl:f7=true:=by simp only [ha]
           clear ha;obtain rfl:f6=true:=(ch7.out rfl);have e9:f9=false:=Bool.eq_false_iff.2 fun h=>Bool.false_ne_true ((ch9.out h));have e12:f12=false:=Bool.eq_false_iff.2 fun h=>Bool.false_ne_true ((ch9.out (ch12.out h).1));have e16:f16=false:=Bool.eq_false_iff.2 fun h=>Bool.false_ne_true ((ch9.out (ch12.out (ch16.out h).1).1));have e17:f17=false:=Bool.eq_false_iff.2 fun h=>Bool.false_ne_true ((ch9.out (ch12.out (ch16.out (ch17.out h).2.2).1).1));subst e9 e12 e16 e17;refine .inl ?_
           unfold pbUpd Oper.wp;go_simp
           exact pbJ.at f0 f1 f2 f3 f4 f5 true true true false f10 f11 false f13 f14 f15 false false (R) (q) (cap) rfl rfl (ch1) (ch2) (ch3) (ch5) (Lib.hid (by simp)) (Lib.hid (by simp)) (Lib.hid (by simp)) (ch11) (Lib.hid (by simp)) (ch14) (ch15) (Lib.hid (by simp)) (Lib.hid (by simp)) (hB) (bx) (rb) (rg) (rm) (by simp) (by simp)
         · have ho':=ho
           simp at hu ho;subst hu ho;simp [Region.binds] at ha
           obtain rfl:f8=true:=by simp only [ha]
           clear ha;obtain rfl:f7=true:=(ch8.out rfl);obtain rfl:f6=true:=(ch7.out (ch8.out rfl));have e12:f12=false:=Bool.eq_false_iff.2 fun h=>Bool.false_ne_true ((ch12.out h).1);have e16:f16=false:=Bool.eq_false_iff.2 fun h=>Bool.false_ne_true ((ch12.out (ch16.out h).1).1);have e17:f17=false:=Bool.eq_false_iff.2 fun h=>Bool.false_ne_true ((ch12.out (ch16.out (ch17.out h).2.2).1).1);subst e12 e16 e17;have kb:=(rb rfl).cell 1 _ rfl;have kl:=(rb rfl).lt;refine .inl ?_
           unfold pbUpd Oper.wp;go_simp
           exact pbJ.at f0 f1 f2 f3 f4 f5 true true true true f10 f11 false f13 f14 f15 false false (R) (q) (cap) rfl rfl (ch1) (ch2) (ch3) (ch5) (Lib.hid (by simp)) (Lib.hid (by simp)) (Lib.hid (by simp)) (ch11) (Lib.hid (by simp)) (ch14) (ch15) (Lib.hid (by simp)) (Lib.hid (by simp)) (hB) (bx) (rb) (rg) (rm) (by simp) (by simp)
         · have ho':=ho
           simp at hu ho;subst hu ho;clear ha;have e11:f11=false:=Bool.eq_false_iff.2 fun h=>Bool.false_ne_true ((ch11.out h));have e12:f12=false:=Bool.eq_false_iff.2 fun h=>Bool.false_ne_true ((ch11.out (ch12.out h).2));have e16:f16=false:=Bool.eq_false_iff.2 fun h=>Bool.false_ne_true ((ch11.out (ch12.out (ch16.out h).1).2));have e17:f17=false:=Bool.eq_false_iff.2 fun h=>Bool.false_ne_true ((ch11.out (ch12.out (ch16.out (ch17.out h).2.2).1).2));subst e11 e12 e16 e17;have k0:=(rg rfl).cell 0 _ rfl;have k1:=(rg rfl).cell 1 _ rfl;have k2:=(rg rfl).cell 2 _ rfl;have kl:=(rg rfl).lt;refine .inl ?_
           unfold pbUpd Oper.wp;go_simp
           exact pbJ.at f0 f1 f2 f3 f4 f5 f6 f7 f8 f9 true false false f13 f14 f15 false false (R) (q) (cap) rfl rfl (ch1) (ch2) (ch3) (ch5) (ch7) (ch8) (ch9) (Lib.hid (by simp)) (Lib.hid (by simp)) (ch14) (ch15) (Lib.hid (by simp)) (Lib.hid (by simp)) (hB) (bx) (rb) (rg) (rm) (by simp) (by simp)
         · have ho':=ho
           simp at hu ho;subst hu ho;simp [Region.binds] at ha
           obtain rfl:f10=true:=by simp only [ha]
           clear ha;have e12:f12=false:=Bool.eq_false_iff.2 fun h=>Bool.false_ne_true ((ch12.out h).2);have e16:f16=false:=Bool.eq_false_iff.2 fun h=>Bool.false_ne_true ((ch12.out (ch16.out h).1).2);have e17:f17=false:=Bool.eq_false_iff.2 fun h=>Bool.false_ne_true ((ch12.out (ch16.out (ch17.out h).2.2).1).2);subst e12 e16 e17;have hS:=(hB rfl).size;refine .inl ?_
           unfold pbUpd Oper.wp;go_simp
           refine (id_any g w').mono ?_
           intro e w1 hO;obtain ⟨rfl,hb⟩:=hO;exact pbJ.at f0 f1 f2 f3 f4 f5 f6 f7 f8 f9 true true false f13 f14 f15 false false (R) (q) (cap) rfl rfl (ch1) (ch2) (ch3) (ch5) (ch7) (ch8) (ch9) (Lib.hid (by simp)) (Lib.hid (by simp)) (ch14) (ch15) (Lib.hid (by simp)) (Lib.hid (by simp)) (fun h0=>(hB h0).trans (hb.mono hS)) (fun h0 h1=>BoxS.later (bx h0 h1) hb) (fun h0=>BoxS.later (rb h0) hb) (fun h0=>BoxS.later (rg h0) hb) (fun h0=>(rm h0).later hb) (by simp) (by simp)
         · have ho':=ho
           simp at hu ho;subst hu ho;simp [Region.binds] at ha
           obtain rfl:f9=true:=by simp only [ha]
           obtain rfl:f11=true:=by simp only [ha]
           clear ha;obtain rfl:f10=true:=(ch11.out rfl);obtain rfl:f8=true:=(ch9.out rfl);obtain rfl:f7=true:=(ch8.out (ch9.out rfl));obtain rfl:f6=true:=(ch7.out (ch8.out (ch9.out rfl)));have e16:f16=false:=Bool.eq_false_iff.2 fun h=>Bool.false_ne_true ((ch16.out h).1);have e17:f17=false:=Bool.eq_false_iff.2 fun h=>Bool.false_ne_true ((ch16.out (ch17.out h).2.2).1);subst e16 e17;have kr:=HLK.out w' (rm rfl);refine .inl ?_
           unfold pbUpd Oper.wp;go_simp
           exact pbJ.at f0 f1 f2 f3 f4 f5 true true true true true true true f13 f14 f15 false false (R) (q) (cap) rfl rfl (ch1) (ch2) (ch3) (ch5) (Lib.hid (by simp)) (Lib.hid (by simp)) (Lib.hid (by simp)) (Lib.hid (by simp)) (Lib.hid (by simp)) (ch14) (ch15) (Lib.hid (by simp)) (Lib.hid (by simp)) (hB) (bx) (rb) (rg) (rm) (by simp) (by simp)
         · have ho':=ho
           simp at hu ho;subst hu ho;clear ha;have e14:f14=false:=Bool.eq_false_iff.2 fun h=>Bool.false_ne_true ((ch14.out h));have e15:f15=false:=Bool.eq_false_iff.2 fun h=>Bool.false_ne_true ((ch14.out (ch15.out h)));have e16:f16=false:=Bool.eq_false_iff.2 fun h=>Bool.false_ne_true ((ch14.out (ch15.out (ch16.out h).2)));have e17:f17=false:=Bool.eq_false_iff.2 fun h=>Bool.false_ne_true ((ch14.out (ch15.out (ch16.out (ch17.out h).2.2).2)));subst e14 e15 e16 e17;refine .inl ?_
           unfold pbUpd Oper.wp;go_simp
           exact pbJ.at f0 f1 f2 f3 f4 f5 f6 f7 f8 f9 f10 f11 f12 true false false false false (R) (q) (cap) rfl rfl (ch1) (ch2) (ch3) (ch5) (ch7) (ch8) (ch9) (ch11) (ch12) (Lib.hid (by simp)) (Lib.hid (by simp)) (Lib.hid (by simp)) (Lib.hid (by simp)) (hB) (by simp) (rb) (rg) (rm) (by simp) (by simp)
         · have ho':=ho
           simp at hu ho;subst hu ho;simp [Region.binds] at ha
           obtain rfl:f13=true:=by simp only [ha]
           clear ha;have e15:f15=false:=Bool.eq_false_iff.2 fun h=>Bool.false_ne_true ((ch15.out h));have e16:f16=false:=Bool.eq_false_iff.2 fun h=>Bool.false_ne_true ((ch15.out (ch16.out h).2));have e17:f17=false:=Bool.eq_false_iff.2 fun h=>Bool.false_ne_true ((ch15.out (ch16.out (ch17.out h).2.2).2));subst e15 e16 e17;have k0:=(rg rfl).cell 0 _ rfl;have k1:=(rg rfl).cell 1 _ rfl;have k2:=(rg rfl).cell 2 _ rfl;have kl:=(rg rfl).lt;refine .inl ?_
           unfold pbUpd Oper.wp;go_simp
           exact pbJ.at f0 f1 f2 f3 f4 f5 f6 f7 f8 f9 f10 f11 f12 true true false false false (R) (q) (cap) rfl rfl (ch1) (ch2) (ch3) (ch5) (ch7) (ch8) (ch9) (ch11) (ch12) (Lib.hid (by simp)) (Lib.hid (by simp)) (Lib.hid (by simp)) (Lib.hid (by simp)) (hB) (by simp) (rb) (rg) (rm) (by simp) (by simp)
         · have ho':=ho
           simp at hu ho;subst hu ho;simp [Region.binds] at ha
           obtain rfl:f14=true:=by simp only [ha]
           clear ha;obtain rfl:f13=true:=(ch14.out rfl);have e16:f16=false:=Bool.eq_false_iff.2 fun h=>Bool.false_ne_true ((ch16.out h).2);have e17:f17=false:=Bool.eq_false_iff.2 fun h=>Bool.false_ne_true ((ch16.out (ch17.out h).2.2).2);subst e16 e17;have hS:=(hB rfl).size;have hal:=fun o=>(Below.refl w'.heap.size w').alloc (Nat.le_refl w'.heap.size) o;refine .inl ?_
           unfold pbUpd Oper.wp;go_simp
           exact pbJ.at f0 f1 f2 f3 f4 f5 f6 f7 f8 f9 f10 f11 f12 true true true false false (w'.heap.size) (q) (cap) rfl rfl (ch1) (ch2) (ch3) (ch5) (ch7) (ch8) (ch9) (ch11) (ch12) (Lib.hid (by simp)) (Lib.hid (by simp)) (Lib.hid (by simp)) (Lib.hid (by simp)) (fun h0=>(hB h0).trans ((hal _).mono hS)) (fun h0 h1=>Box.new w' [.string g.version] _ _ rfl) (fun h0=>BoxS.later (rb h0) (hal _)) (fun h0=>BoxS.later (rg h0) (hal _)) (fun h0=>(rm h0).later (hal _)) (by simp) (by simp)
         · have ho':=ho
           simp at hu ho;subst hu ho;simp [Region.binds] at ha
           obtain rfl:f12=true:=by simp only [ha]
           obtain rfl:f15=true:=by simp only [ha]
           clear ha;obtain rfl:f14=true:=(ch15.out rfl);obtain rfl:f13=true:=(ch14.out (ch15.out rfl));obtain rfl:f11=true:=(ch12.out rfl).2;obtain rfl:f10=true:=(ch11.out (ch12.out rfl).2);obtain rfl:f9=true:=(ch12.out rfl).1;obtain rfl:f8=true:=(ch9.out (ch12.out rfl).1);obtain rfl:f7=true:=(ch8.out (ch9.out (ch12.out rfl).1));obtain rfl:f6=true:=(ch7.out (ch8.out (ch9.out (ch12.out rfl).1)));have e17:f17=false:=Bool.eq_false_iff.2 fun h=>Bool.false_ne_true ((ch17.out h).2.2);subst e17;have hB1:=hB rfl;have hbx:=bx rfl rfl;have hS1:=hB1.size;refine .inl ?_
           unfold pbUpd;refine wp_append_one rfl (.tmp 45) (.tmp 48) 24 rfl 0 9 Tryz.underlying24 info_str rfl (by decide) strC_len RV (versOf es (idOf g)) (by simp [Act.eval]) (HRV.out.below hB1) R g.version (by simp [Act.eval]) (fun j u hu=>hbx.cell j u hu) (by intro u hu; obtain rfl:=List.mem_singleton.1 hu; rfl) (by have:=HLE.out; omega) (by decide) (Nat.zero_le _) w'.heap.size rfl ?_
           intro q2 cap2 w1 hown hgr hloc hlt;have hrow:=grown_after hB1 hgr;exact pbJ.at f0 f1 f2 f3 f4 f5 true true true true true true true true true true true false (R) (q2) (cap2) rfl rfl (ch1) (ch2) (ch3) (ch5) (Lib.hid (by simp)) (Lib.hid (by simp)) (Lib.hid (by simp)) (Lib.hid (by simp)) (Lib.hid (by simp)) (Lib.hid (by simp)) (Lib.hid (by simp)) (Lib.hid (by simp)) (Lib.hid (by simp)) (by simp) (by simp) (fun _=>(rb rfl).grown hgr HN1.out) (fun _=>(rg rfl).grown hgr HN2.out) (fun _=>(rm rfl).grown hgr HN3.out) (fun _ _=>⟨hrow,hown,hloc.elim (fun e=>.inl e.symm) (fun e=>.inr ⟨q2,by omega,rfl⟩)⟩) (by simp)
         · have ho':=ho
           simp at hu ho;subst hu ho;simp [Region.binds] at ha
           obtain rfl:f3=true:=by simp only [ha]
           obtain rfl:f5=true:=by simp only [ha]
           obtain rfl:f16=true:=by simp only [ha]
           clear ha;obtain rfl:f15=true:=(ch16.out rfl).2;obtain rfl:f14=true:=(ch15.out (ch16.out rfl).2);obtain rfl:f13=true:=(ch14.out (ch15.out (ch16.out rfl).2));obtain rfl:f12=true:=(ch16.out rfl).1;obtain rfl:f11=true:=(ch12.out (ch16.out rfl).1).2;obtain rfl:f10=true:=(ch11.out (ch12.out (ch16.out rfl).1).2);obtain rfl:f9=true:=(ch12.out (ch16.out rfl).1).1;obtain rfl:f8=true:=(ch9.out (ch12.out (ch16.out rfl).1).1);obtain rfl:f7=true:=(ch8.out (ch9.out (ch12.out (ch16.out rfl).1).1));obtain rfl:f6=true:=(ch7.out (ch8.out (ch9.out (ch12.out (ch16.out rfl).1).1)));obtain rfl:f4=true:=(ch5.out rfl);obtain rfl:f2=true:=(ch3.out rfl);obtain rfl:f1=true:=(ch2.out (ch3.out rfl));obtain rfl:f0=true:=(ch1.out (ch2.out (ch3.out rfl)));have hap:=ap rfl rfl;refine .inl ?_
           unfold pbUpd;refine wp_update 90 (.tmp 36) (.tmp 38) (.tmp 49) rfl (.map (some mv)) (.agg #[.string g.group,.string g.artifact]) (.slice (some ⟨q,0,none⟩) (versOf es (idOf g)).length.succ cap) (by simp [Act.eval]) (by simp [Act.eval]) (by simp [Act.eval]) (set_row (idOf g) (.slice (some ⟨q,0,none⟩) (versOf es (idOf g)).length.succ cap) (rm rfl)) ?_
           exact pbJ.at true true true true true true true true true true true true true true true true true true (R) (q) (cap) rfl rfl (Lib.hid (by simp)) (Lib.hid (by simp)) (Lib.hid (by simp)) (Lib.hid (by simp)) (Lib.hid (by simp)) (Lib.hid (by simp)) (Lib.hid (by simp)) (Lib.hid (by simp)) (Lib.hid (by simp)) (Lib.hid (by simp)) (Lib.hid (by simp)) (Lib.hid (by simp)) (Lib.hid (by simp)) (by simp) (by simp) (by simp) (by simp) (by simp) (by simp) (fun _=>⟨w',hap,rfl⟩)
     case step =>
      intro listed a' w' hJ i hi;cases hJ with
      | mk f0 f1 f2 f3 f4 f5 f6 f7 f8 P _ ch1 ch2 ch3 ch6 ch7 ch8 hB bx fin =>
       rw [mem_ready] at hi;obtain ⟨hu,o,ho,ha⟩:=hi;have hi8:i<9:=(Array.getElem?_eq_some_iff.1 ho).1;rcases (by omega:i=0∨i=1∨i=2∨i=3∨i=4∨i=5∨i=6∨i=7∨i=8) with rfl | rfl | rfl | rfl | rfl | rfl | rfl | rfl | rfl
       · have ho':=ho
         simp at hu ho;subst hu ho;clear ha;have e1:f1=false:=Bool.eq_false_iff.2 fun h=>Bool.false_ne_true ((ch1.out h));have e2:f2=false:=Bool.eq_false_iff.2 fun h=>Bool.false_ne_true ((ch1.out (ch2.out h)));have e3:f3=false:=Bool.eq_false_iff.2 fun h=>Bool.false_ne_true ((ch1.out (ch2.out (ch3.out h))));have e8:f8=false:=Bool.eq_false_iff.2 fun h=>Bool.false_ne_true ((ch1.out (ch2.out (ch3.out (ch8.out h).1))));subst e1 e2 e3 e8;refine .inl ?_
         unfold paUpd Oper.wp;go_simp
         exact paJ.at true false false false f4 f5 f6 f7 false (P) rfl rfl (Lib.hid (by simp)) (Lib.hid (by simp)) (Lib.hid (by simp)) (ch6) (ch7) (Lib.hid (by simp)) (hB) (bx) (by simp)
       · have ho':=ho
         simp at hu ho;subst hu ho;simp [Region.binds] at ha
         obtain rfl:f0=true:=by simp only [ha]
         clear ha;have e2:f2=false:=Bool.eq_false_iff.2 fun h=>Bool.false_ne_true ((ch2.out h));have e3:f3=false:=Bool.eq_false_iff.2 fun h=>Bool.false_ne_true ((ch2.out (ch3.out h)));have e8:f8=false:=Bool.eq_false_iff.2 fun h=>Bool.false_ne_true ((ch2.out (ch3.out (ch8.out h).1)));subst e2 e3 e8;have hB1:=hB rfl;have k0:=(hB1.cell (p:=⟨b,0,none⟩) (by exact HSB.out.lt)).trans (HSB.out.cell 0 _ rfl);have kl:=Nat.lt_of_lt_of_le HSB.out.lt hB1.size;refine .inl ?_
         unfold paUpd Oper.wp;go_simp
         exact paJ.at true true false false f4 f5 f6 f7 false (P) rfl rfl (Lib.hid (by simp)) (Lib.hid (by simp)) (Lib.hid (by simp)) (ch6) (ch7) (Lib.hid (by simp)) (hB) (bx) (by simp)
       · have ho':=ho
         simp at hu ho;subst hu ho;simp [Region.binds] at ha
         obtain rfl:f1=true:=by simp only [ha]
         clear ha;obtain rfl:f0=true:=(ch1.out rfl);have e3:f3=false:=Bool.eq_false_iff.2 fun h=>Bool.false_ne_true ((ch3.out h));have e8:f8=false:=Bool.eq_false_iff.2 fun h=>Bool.false_ne_true ((ch3.out (ch8.out h).1));subst e3 e8;refine .inl ?_
         unfold paUpd Oper.wp;go_simp
         exact paJ.at true true true false f4 f5 f6 f7 false (P) rfl rfl (Lib.hid (by simp)) (Lib.hid (by simp)) (Lib.hid (by simp)) (ch6) (ch7) (Lib.hid (by simp)) (hB) (bx) (by simp)
       · have ho':=ho
         simp at hu ho;subst hu ho;simp [Region.binds] at ha
         obtain rfl:f2=true:=by simp only [ha]
         clear ha;obtain rfl:f1=true:=(ch2.out rfl);obtain rfl:f0=true:=(ch1.out (ch2.out rfl));have e8:f8=false:=Bool.eq_false_iff.2 fun h=>Bool.false_ne_true ((ch8.out h).1);subst e8;have hB1:=hB rfl;have k0:=(hB1.cell (p:=⟨b,0,none⟩) (by exact HSB.out.lt)).trans (HSB.out.cell 0 _ rfl);have kl:=Nat.lt_of_lt_of_le HSB.out.lt hB1.size;refine .inl ?_
         unfold paUpd Oper.wp;go_simp
         exact paJ.at true true true true f4 f5 f6 f7 false (P) rfl rfl (Lib.hid (by simp)) (Lib.hid (by simp)) (Lib.hid (by simp)) (ch6) (ch7) (Lib.hid (by simp)) (hB) (bx) (by simp)
       · have ho':=ho
         simp at hu ho;subst hu ho;clear ha;have e8:f8=false:=Bool.eq_false_iff.2 fun h=>Bool.false_ne_true ((ch8.out h).2.1);subst e8;have hB1:=hB rfl;have k0:=(hB1.cell (p:=⟨w.heap.size,0,none⟩) (by exact HX.out.lt)).trans (HX.out.cell 0 _ rfl);have k1:=(hB1.cell (p:=⟨w.heap.size,1,none⟩) (by exact HX.out.lt)).trans (HX.out.cell 1 _ rfl);have k2:=(hB1.cell (p:=⟨w.heap.size,2,none⟩) (by exact HX.out.lt)).trans (HX.out.cell 2 _ rfl);have kl:=Nat.lt_of_lt_of_le HX.out.lt hB1.size;refine .inl ?_
         unfold paUpd Oper.wp;go_simp
         exact paJ.at f0 f1 f2 f3 true f5 f6 f7 false (P) rfl rfl (ch1) (ch2) (ch3) (ch6) (ch7) (Lib.hid (by simp)) (hB) (bx) (by simp)
       · have ho':=ho
         simp at hu ho;subst hu ho;clear ha;have e6:f6=false:=Bool.eq_false_iff.2 fun h=>Bool.false_ne_true ((ch6.out h));have e7:f7=false:=Bool.eq_false_iff.2 fun h=>Bool.false_ne_true ((ch6.out (ch7.out h)));have e8:f8=false:=Bool.eq_false_iff.2 fun h=>Bool.false_ne_true ((ch6.out (ch7.out (ch8.out h).2.2)));subst e6 e7 e8;refine .inl ?_
         unfold paUpd Oper.wp;go_simp
         exact paJ.at f0 f1 f2 f3 f4 true false false false (P) rfl rfl (ch1) (ch2) (ch3) (Lib.hid (by simp)) (Lib.hid (by simp)) (Lib.hid (by simp)) (hB) (by simp) (by simp)
       · have ho':=ho
         simp at hu ho;subst hu ho;simp [Region.binds] at ha
         obtain rfl:f5=true:=by simp only [ha]
         clear ha;have e7:f7=false:=Bool.eq_false_iff.2 fun h=>Bool.false_ne_true ((ch7.out h));have e8:f8=false:=Bool.eq_false_iff.2 fun h=>Bool.false_ne_true ((ch7.out (ch8.out h).2.2));subst e7 e8;refine .inl ?_
         unfold paUpd Oper.wp;go_simp
         exact paJ.at f0 f1 f2 f3 f4 true true false false (P) rfl rfl (ch1) (ch2) (ch3) (Lib.hid (by simp)) (Lib.hid (by simp)) (Lib.hid (by simp)) (hB) (by simp) (by simp)
       · have ho':=ho
         simp at hu ho;subst hu ho;simp [Region.binds] at ha
         obtain rfl:f6=true:=by simp only [ha]
         clear ha;obtain rfl:f5=true:=(ch6.out rfl);have e8:f8=false:=Bool.eq_false_iff.2 fun h=>Bool.false_ne_true ((ch8.out h).2.2);subst e8;have hS:=(hB rfl).size;have hal:=fun o=>(Below.refl w'.heap.size w').alloc (Nat.le_refl w'.heap.size) o;refine .inl ?_
         unfold paUpd Oper.wp;go_simp
         exact paJ.at f0 f1 f2 f3 f4 true true true false (w'.heap.size) rfl rfl (ch1) (ch2) (ch3) (Lib.hid (by simp)) (Lib.hid (by simp)) (Lib.hid (by simp)) (fun h0=>(hB h0).trans ((hal _).mono hS)) (fun h0 h1=>⟨hS,Box.new w' [.string s,.int .u32 0,.int .i32 0,.int .u32 0,.bool false,.string ⟨#[]⟩,.string ⟨#[]⟩,.string ⟨#[]⟩,.string ⟨#[]⟩,.string ⟨#[]⟩,.string ⟨#[]⟩,.string ⟨#[]⟩,.slice none 0 0,.slice none 0 0,.slice none 0 0,.int .i64 0,.string ⟨#[]⟩,.string ⟨#[]⟩,.string ⟨#[]⟩,.int .i64 0,.int .i64 0,.int .i64 0,.string ⟨#[]⟩] _ _ rfl⟩) (by simp)
       · have ho':=ho
         simp at hu ho;subst hu ho;simp [Region.binds] at ha
         obtain rfl:f3=true:=by simp only [ha]
         obtain rfl:f4=true:=by simp only [ha]
         obtain rfl:f7=true:=by simp only [ha]
         clear ha;obtain rfl:f6=true:=(ch7.out rfl);obtain rfl:f5=true:=(ch6.out (ch7.out rfl));obtain rfl:f2=true:=(ch3.out rfl);obtain rfl:f1=true:=(ch2.out (ch3.out rfl));obtain rfl:f0=true:=(ch1.out (ch2.out (ch3.out rfl)));have hB1:=hB rfl;have hbx:=bx rfl rfl;refine .inl ?_
         unfold paUpd;refine wp_update 89 (.tmp 28) (.tmp 29) (.tmp 32) rfl (.map (some me)) (.agg #[.string g.group,.string g.artifact,.string g.version]) (.pointer (some ⟨P,0,none⟩)) (by simp [Act.eval]) (by simp [Act.eval]) (by simp [Act.eval]) (set_ent g (.pointer (some ⟨P,0,none⟩)) (HME.out.below hB1 HME.out.lt)) ?_
         exact paJ.at true true true true true true true true true (P) rfl rfl (Lib.hid (by simp)) (Lib.hid (by simp)) (Lib.hid (by simp)) (Lib.hid (by simp)) (Lib.hid (by simp)) (Lib.hid (by simp)) (by simp) (by simp) (fun _=>⟨w',hB1,hbx,rfl⟩)
theorem put_any (g:Gav) (s:S) (w:World) {F:Nat→Prop} {b:Nat} {es:List (SEnt × Nat)} {r a:Int} (h:StoreAt F w b es r a) (hg:gavSm g) :
    Calls Tryz.prog 18 #[ptr b,.agg #[.string g.group,.string g.artifact,.string g.version],.string s] w (PutOut F b es r a g s w):=(putF_any g s w h hg).mono fun _ _ h=>h.out
def VersOut (l:List S) (w:World) (e:Ending) (w':World):Prop:=∃ v' M,e = .returned v'∧Owns w.heap.size 9 1 strC w' v' M∧Srt ltSV M∧SameE ltSV l M∧Below w.heap.size w w'
set_option maxRecDepth 100000 in
theorem versions_any (x:Id) (w:World) {F:Nat→Prop} {b:Nat} {es:List (SEnt × Nat)} {r a:Int} (h:StoreAt F w b es r a) (hl:(versOf es x).length≤1000000) (hs:AllSmall (versOf es x)) :
    Calls Tryz.prog 43 #[ptr b,.agg #[.string x.group,.string x.artifact]] w (VersOut (versOf es x) w):=by
 obtain ⟨me,mv,L,cl,V,cv,h⟩:=h;have hrow:=(h.rowV_owns x).slice strC_lV;have hlt:=h.box.lt;have HS:=Lib.hid h;have HR:=Lib.hid hrow;have HL:=Lib.hid hl;have HSM:=Lib.hid hs;clear h hrow hl hs;generalize versOf es x=l at *;unfold ptr;go_enter Tryz.func43,Tryz.ntmps43
 go_upto_region 1 with fail
 refine wp_world ?_
 intro W hW;have hx:Box W w.heap.size [.string x.group,.string x.artifact]:=by rw [hW]; exact Box.new w [.string x.group,.string x.artifact] _ _ rfl
 have hb:Below w.heap.size w W:=by rw [hW]; exact (Below.refl _ _).alloc (Nat.le_refl _) _
 clear hW;have HB:=Lib.hid hb;have x0:=hx.cell 0 _ rfl;have x1:=hx.cell 1 _ rfl;have lx:=hx.lt;have b1:=(HS.out.box.below hb hlt).cell 1 _ rfl;have lb:=(HS.out.box.below hb hlt).lt;have hm:=HS.out.vers.below hb HS.out.vers.lt;have hlk : ∀ z:Later W,(Instr.lookup 90 (.map (some mv)) (.agg #[.string x.group,.string x.artifact]) false).run Tryz.prog z.at_ = .ok (rowV V x) z.at_:=fun z=>look_row x (hm.below z.below hm.lt);have HRW:=Lib.hid (HR.out.below hb);clear hx hb hm hlt HR HS;have hLC:=@Later.cells W;go_wp2_with fail
 refine region_later_tail 6 (by kernel_rfl) (by kernel_rfl) ?_
 simp only [List.take_succ_cons,List.take_zero,List.drop_succ_cons,List.drop_zero];repeat (go_big_quiet_step (fail))
 refine wpQuiet_nil ?_
 rintro _ ⟨nx,rfl⟩;have HRN:=Lib.hid (HRW.out.below nx.below);have HBN:=Lib.hid (HB.out.trans (nx.below.mono HB.out.size));clear hlk hLC x0 x1 lx b1 lb HRW HB;generalize nx.at_=wn at *;have HSO:=Lib.hid (sort_any HRN.out HL.out HSM.out);generalize rowV V x=rv at *;go_wp2_with fail
 refine HSO.out.mono ?_
 rintro e w2 ⟨v',M,rfl,h1,h2,h3,h4⟩;have H1:=Lib.hid (h1.base_mono HBN.out.size);have H2:=Lib.hid h2;have H3:=Lib.hid h3;have H4:=Lib.hid (HBN.out.trans (h4.mono HBN.out.size));clear h1 h2 h3 h4;go_wp2
 go_ret
 exact ⟨_,M,rfl,H1.out,H2.out,H3.out,H4.out⟩
theorem small_same {l M:List S} (h:SameE ltSV l M) (hs:AllSmall l):AllSmall M:=fun x hx=>hs x (h.symm.mem ltSV_weak hx)
theorem len_same {l M:List S} (h:SameE ltSV l M):M.length=l.length:=(h.perm ltSV_weak).length_eq.symm
def MetaOut (d:Id) (l:List S) (w:World) (e:Ending) (w':World):Prop:=∃ v' M,Owns w.heap.size 9 1 strC w' v' M∧Srt ltSV M∧SameE ltSV l M∧Below w.heap.size w w' ∧
 e = .returned (.tuple (if l=[] then #[.agg metaZ.toArray,.bool false] else #[metaAg ⟨d,M,lastV M,relV M⟩ v',.bool true]))
set_option maxRecDepth 100000 in
set_option maxHeartbeats 4000000 in
theorem metaOfS_any (x:Id) (w:World) {F:Nat→Prop} {b:Nat} {es:List (SEnt × Nat)} {r a:Int} (h:StoreAt F w b es r a) (hl:(versOf es x).length≤1000000) (hs:AllSmall (versOf es x)) :
    Calls Tryz.prog 19 #[ptr b,.agg #[.string x.group,.string x.artifact]] w (MetaOut x (versOf es x) w):=by
 have HV:Hid (∀ W,Below w.heap.size w W→Calls Tryz.prog 43 #[ptr b,.agg #[.string x.group,.string x.artifact]] W (VersOut (versOf es x) W)):=fun W hb=>versions_any x W (h.below hb) hl hs;have HL:=Lib.hid hl;have HSM:=Lib.hid hs;clear h hl hs;generalize versOf es x=l at *;unfold ptr at *;go_enter Tryz.func19,Tryz.ntmps19
 go_upto_region 1 with fail
 refine wp_world ?_
 intro W hW;have x1:Box W w.heap.size [.string x.group,.string x.artifact]:=by rw [hW]; exact (Box.new w [.string x.group,.string x.artifact] _ _ rfl).alloc _
 have y1:Box W (w.heap.size+1) metaZ:=by rw [hW]; exact Box.new _ metaZ _ _ (by simp)
 have hb:Below w.heap.size w W:=by rw [hW]; exact ((Below.refl _ w).alloc (Nat.le_refl _) _).alloc (by simp) _
 clear hW;have HX:=Lib.hid x1;have HY:=Lib.hid y1;have HB:=Lib.hid hb;have x0:=x1.cell 0 _ rfl;have x1':=x1.cell 1 _ rfl;have xl:=x1.lt;clear x1 y1 hb;go_wp2_with fail
 refine (HV.out W HB.out).mono ?_
 rintro e w1 ⟨v',M,rfl,h1,h2,h3,h4⟩;have HO1:=Lib.hid h1;have HWS:=Lib.hid HY.out.lt;have HWB:=Lib.hid HB.out.size;have HSL1:=Lib.hid (h1.slice strC_lV);have H2:=Lib.hid h2;have H3:=Lib.hid h3;have HX1:=Lib.hid (HX.out.below h4 HX.out.lt);have HY1:=Lib.hid (HY.out.below h4 HY.out.lt);have HB1:=Lib.hid (HB.out.trans (h4.mono HB.out.size));obtain ⟨ao,c,rfl⟩:=h1.shape;have HLM:=Lib.hid (len_same h3);have HSS:=Lib.hid (small_same h3 HSM.out);clear h1 h2 h3 h4 x0 x1' xl HX HY HB HV;by_cases h0:l=[]
 · have hm0:M=[]:=List.eq_nil_of_length_eq_zero (by have:=HLM.out; rw [h0] at this; exact this)
   subst h0 hm0;go_wp2_with ((with_reducible show wpList _ _ _ (Oper.mk none (Op.store 26 (.tmp 4) (.tmp 13)) _ _ _ _::_) _ _); refine wpList_store_box rfl 26 (.tmp 4) (.tmp 13) rfl (w.heap.size+1) _ metaZ rfl rfl HY1.out rfl (by kernel_rfl) (by simp [metaZ,Value.oneCell']) ?_; intro W7 v7 hg7; have HV7:=Lib.hid v7; have HB7:=Lib.hid (gr_belowV HB1.out hg7 (by omega) (Nat.le_refl _)); have HO7:=Lib.hid ((HO1.out.keptR hg7 HWS.out).base_mono HWB.out); clear v7 hg7)
   have z0:=HV7.out.cell 0 _ rfl;have z1:=HV7.out.cell 1 _ rfl;have z2:=HV7.out.cell 2 _ rfl;have z3:=HV7.out.cell 3 _ rfl;have z4:=HV7.out.cell 4 _ rfl;have zl:=HV7.out.lt;clear HY1 HX1 HB1;go_wp2
   refine bodyPost_ret (v:=.tuple #[.agg metaZ.toArray,.bool false]) (by simp [results,Tryz.results19,go_sem,z0,z1,z2,z3,z4,metaZ]) rfl ?_
   exact ⟨_,[],HO7.out,H2.out,H3.out,HB7.out,by rw [if_pos rfl]⟩
 · have hne:M≠[]:=fun e=>h0 (List.eq_nil_of_length_eq_zero (by rw [← show M.length=_ from HLM.out,e]; rfl))
   have hm1:1≤M.length:=by have:=List.length_pos_iff.2 hne; omega
   have e0:((M.length:Int) == 0)=false:=by rw [beq_eq_false_iff_ne]; omega
   have e0n:(M.length == 0)=false:=by rw [beq_eq_false_iff_ne]; omega
   have HOF:Hid (Calls Tryz.prog 44 #[.agg #[.string x.group,.string x.artifact],.slice ao M.length c] w1 fun e w'=>e = .returned (.agg #[.string x.group,.string x.artifact,.slice ao M.length c,.string (lastV M),.string (relV M)])∧Below w1.heap.size w1 w'):=metaOf_any x M _ w1 HSL1.out (by have:=HLM.out; have:=HL.out; omega) HSS.out hne;have HR:Hid (MetaOut x l w=fun e w'=>∃ v' M,Owns w.heap.size 9 1 strC w' v' M∧Srt ltSV M∧SameE ltSV l M∧Below w.heap.size w w'∧e = .returned (.tuple #[metaAg ⟨x,M,lastV M,relV M⟩ v',.bool true])):=by show _=_; unfold MetaOut; simp only [if_neg h0]
   obtain ⟨la,hla⟩ : ∃ y,lastV M=y:=⟨_,rfl⟩;obtain ⟨re,hre⟩ : ∃ y,relV M=y:=⟨_,rfl⟩;rw [hla,hre] at HOF;have HLA:=Lib.hid hla;have HRE:=Lib.hid hre;have x0:=HX1.out.cell 0 _ rfl;have x1':=HX1.out.cell 1 _ rfl;have xl:=HX1.out.lt;clear h0 hne hla hre HSS HSL1 hm1;go_wp2_with fail
   refine HOF.out.mono ?_
   rintro e w2 ⟨rfl,hb2⟩;have HY2:=Lib.hid (HY1.out.below hb2 HY1.out.lt);have HB2:=Lib.hid (HB1.out.trans (hb2.mono HB1.out.size));have HO2:=Lib.hid (HO1.out.below hb2);clear hb2 x0 x1' xl HX1 HY1 HB1 HO1 HOF;go_wp2_with ((with_reducible show wpList _ _ _ (Oper.mk none (Op.store 26 (.tmp 4) (.tmp 16)) _ _ _ _::_) _ _); refine wpList_store_box rfl 26 (.tmp 4) (.tmp 16) rfl (w.heap.size+1) _ [.string x.group,.string x.artifact,.slice ao M.length c,.string la,.string re] rfl rfl HY2.out rfl (by kernel_rfl) (by simp [Value.oneCell']) ?_; intro W7 v7 hg7; have HV7:=Lib.hid v7; have HB7:=Lib.hid (gr_belowV HB2.out hg7 (by omega) (Nat.le_refl _)); have HO7:=Lib.hid ((HO2.out.keptR hg7 HWS.out).base_mono HWB.out); clear v7 hg7)
   have z0:=HV7.out.cell 0 _ rfl;have z1:=HV7.out.cell 1 _ rfl;have z2:=HV7.out.cell 2 _ rfl;have z3:=HV7.out.cell 3 _ rfl;have z4:=HV7.out.cell 4 _ rfl;have zl:=HV7.out.lt;clear HY2 HB2 HO2;go_wp2
   refine bodyPost_ret (v:=.tuple #[.agg #[.string x.group,.string x.artifact,.slice ao M.length c,.string la,.string re],.bool true]) (by simp [results,Tryz.results19,go_sem,z0,z1,z2,z3,z4]) rfl ?_
   rw [HR.out];exact ⟨_,M,HO7.out,H2.out,H3.out,HB7.out,by rw [HLA.out,HRE.out]; rfl⟩
def gavM1:Gav:=⟨⟨#[103]⟩,⟨#[97]⟩,⟨#[50,45,115,110,97,112,115,104,111,116]⟩⟩
def gavM2:Gav:=⟨⟨#[103]⟩,⟨#[97]⟩,⟨#[49]⟩⟩
def idM:Id:=⟨⟨#[103]⟩,⟨#[97]⟩⟩
def rowM2:List S:=[⟨#[49]⟩,⟨#[50,45,115,110,97,112,115,104,111,116]⟩]
theorem gavM1_may:gavMay gavM1=true:=by kernel_rfl
theorem gavM2_may:gavMay gavM2=true:=by kernel_rfl
theorem rowM2_lt:ltSV ⟨#[49]⟩ ⟨#[50,45,115,110,97,112,115,104,111,116]⟩=true:=by kernel_rfl
theorem rowM2_srt:Srt ltSV rowM2:=List.pairwise_cons.2 ⟨fun y hy=>by rw [List.mem_singleton.1 hy]; exact ltSV_weak.asym _ _ rowM2_lt,srt_one _⟩
theorem rowM2_same:SameE ltSV [⟨#[50,45,115,110,97,112,115,104,111,116]⟩,⟨#[49]⟩] rowM2 :=
 SameE.turn ltSV_weak (u:=[⟨#[50,45,115,110,97,112,115,104,111,116]⟩]) (v:=[⟨#[49]⟩]) fun a ha b hb=>by rw [List.mem_singleton.1 ha,List.mem_singleton.1 hb]; exact rowM2_lt
theorem rowM2_last:lastV rowM2=⟨#[50,45,115,110,97,112,115,104,111,116]⟩:=by kernel_rfl
theorem rowM2_rel:relV rowM2=⟨#[49]⟩:=by kernel_rfl
theorem versM {e1 e2:Nat}:versOf ([] ++ [(freshE gavM1 ⟨#[]⟩,e1)] ++ [(freshE gavM2 ⟨#[]⟩,e2)]) idM=[⟨#[50,45,115,110,97,112,115,104,111,116]⟩,⟨#[49]⟩]:=by
 rw [versOf_snoc,versOf_snoc];simp [versOf,freshE,idOf,gavM1,gavM2,idM]
theorem putM1:putE [] gavM1=0:=by unfold putE; rw [gavM1_may]; simp [hasG]
theorem putM2 {e1:Nat}:putE ([] ++ [(freshE gavM1 ⟨#[]⟩,e1)]) gavM2=0:=by
 unfold putE;rw [gavM2_may]
 have:hasG ([] ++ [(freshE gavM1 ⟨#[]⟩,e1)]) gavM2=false:=by
  have hn : ¬ gavM2=gavM1:=by decide
  simp [hasG,freshE,hn]
 rw [this]; simp
set_option maxRecDepth 100000 in
set_option maxHeartbeats 8000000 in
theorem metaLives_any (w:World):Calls Tryz.prog 6 #[] w fun e w'=>e = .returned (.bool true)∧Below w.heap.size w w':=by
 go_enter Tryz.func6,Tryz.ntmps6
 go_wp2_with fail
 refine (new_any w).mono ?_
 rintro e w1 ⟨b,F,rfl,hS,hF,hb1⟩;have HS1:=Lib.hid hS;have HF:=Lib.hid hF;have HB1:=Lib.hid hb1;clear hS hF hb1;have HP1:Hid (Calls Tryz.prog 18 #[.pointer (some ⟨b,0,none⟩),.agg #[.string ⟨#[103]⟩,.string ⟨#[97]⟩,.string ⟨#[50,45,115,110,97,112,115,104,111,116]⟩],.string ⟨#[]⟩] w1 (PutOut F b [] 0 0 gavM1 ⟨#[]⟩ w1)):=put_any gavM1 ⟨#[]⟩ w1 HS1.out ⟨by decide,by decide,by decide⟩;unfold ptr;go_wp2_with fail
 refine HP1.out.mono ?_
 rintro e w2 ⟨rfl,ho2,F2,es2,hS2,hF2,-,he2⟩;obtain ⟨eb1,rfl⟩:=he2 putM1;rw [putM1];have HS2:=Lib.hid hS2
 have HF2:Hid (∀ k,F2 k→w.heap.size≤k):=fun k hk=>by
  by_cases h:k<w1.heap.size
  · exact HF.out k (hF2 k h hk)
  · have:=HB1.out.size; omega
 have HB2:=Lib.hid (HB1.out.trans (ho2.below HB1.out.size HF.out));clear ho2 hS2 hF2 he2 HS1 HF HB1 HP1;have HP2:Hid (Calls Tryz.prog 18 #[.pointer (some ⟨b,0,none⟩),.agg #[.string ⟨#[103]⟩,.string ⟨#[97]⟩,.string ⟨#[49]⟩],.string ⟨#[]⟩] w2 (PutOut F2 b ([] ++ [(freshE gavM1 ⟨#[]⟩,eb1)]) 0 0 gavM2 ⟨#[]⟩ w2)):=put_any gavM2 ⟨#[]⟩ w2 HS2.out ⟨by decide,by decide,by decide⟩;go_wp2_with fail
 refine HP2.out.mono ?_
 rintro e w3 ⟨rfl,ho3,F3,es3,hS3,-,-,he3⟩;obtain ⟨eb2,rfl⟩:=he3 putM2;rw [putM2];have HB3:=Lib.hid (HB2.out.trans (ho3.below HB2.out.size HF2.out));have hmo:=metaOfS_any idM w3 hS3 (by rw [versM]; decide) (by rw [versM]; intro x hx; simp at hx; rcases hx with rfl | rfl <;> decide);rw [versM] at hmo
 have HMO:Hid (Calls Tryz.prog 19 #[.pointer (some ⟨b,0,none⟩),.agg #[.string ⟨#[103]⟩,.string ⟨#[97]⟩]] w3 fun e w'=>∃ v',e = .returned (.tuple #[.agg #[.string ⟨#[103]⟩,.string ⟨#[97]⟩,v',.string ⟨#[50,45,115,110,97,112,115,104,111,116]⟩,.string ⟨#[49]⟩],.bool true])∧(∃ ao c,v' = .slice ao 2 c)∧Below w3.heap.size w3 w'):=hmo.mono (by
  rintro e w' ⟨v',M,h1,h2,h3,h4,h5⟩;obtain rfl:M=rowM2:=(srt_uniq ltSV_weak h2 rowM2_srt (h3.symm.trans rowM2_same));rw [if_neg (by simp),rowM2_last,rowM2_rel] at h5
  exact ⟨v',h5,h1.shape,h4⟩)
 clear ho3 hS3 he3 HS2 HF2 HB2 HP2 hmo;go_wp2_with fail
 refine HMO.out.mono ?_
 rintro e w4 ⟨v',rfl,⟨ao,c,rfl⟩,hb4⟩;have HB4:=Lib.hid (HB3.out.trans (hb4.mono HB3.out.size));clear hb4 HB3 HMO;go_upto_region 5 with fail
 refine wp_world ?_
 intro W hW;have x1:Box W w4.heap.size [.string ⟨#[103]⟩,.string ⟨#[97]⟩,.slice ao 2 c,.string ⟨#[50,45,115,110,97,112,115,104,111,116]⟩,.string ⟨#[49]⟩]:=by rw [hW]; exact Box.new w4 [.string ⟨#[103]⟩,.string ⟨#[97]⟩,.slice ao 2 c,.string ⟨#[50,45,115,110,97,112,115,104,111,116]⟩,.string ⟨#[49]⟩] _ _ rfl
 have hb:Below w4.heap.size w4 W:=by rw [hW]; exact (Below.refl _ _).alloc (Nat.le_refl _) _
 clear hW;have HB:=Lib.hid (HB4.out.trans (hb.mono HB4.out.size));have x2:=x1.cell 2 _ rfl;have x3:=x1.cell 3 _ rfl;have x4:=x1.cell 4 _ rfl;have xl:=x1.lt;clear x1 hb HB4;go_wp2
 go_ret
 exact ⟨rfl,HB.out⟩
theorem ret_int {k:IntKind} {a b:Int} (h:a=b):Ending.returned (.int k a) = .returned (.int k b):=by rw [h]
theorem data_bs (s:S):bs s.data.toList=s:=Lib.mk_data s
theorem bs_extract (l:Bs) (a b:Nat):(bs l).extract a b=bs ((l.drop a).take (b - a)):=by rw [Lib.extract_eq,bs_data]; rfl
theorem suf_tail {T r:Bs} {c:UInt8} (h:c::r <:+ T):r <:+ T:=(List.suffix_cons c r).trans h
theorem str_lit (s:S) (l:Bs):(s.toList == l)=decide (s.data.toList=l):=by
 rw [ByteArray.toList_eq,Bool.eq_iff_iff]; simp
def Qt (v:Value) (w:World) (e:Ending) (w':World):Prop:=e = .returned v ∧ ∃ n,w'=w.drewN n
theorem Qt.quiet {P:Program} {f:FuncId} {args:Array Value} {w:World} {n:Nat} {v:Value} (h:Calls P f args (w.drewN n) (Qt v (w.drewN n))):Calls P f args (w.drewN n) fun e w''=>e = .returned v ∧ ∃ m,w''=w.drewN m:=Calls.quiet_of h
theorem quietS {P:Program} {f:FuncId} {args:Array Value} {w:World} {n:Nat} {v:Value}
    (h:Calls P f args (w.drewN n) fun e w'=>e = .returned v∧w.drewN n=w'):Calls P f args (w.drewN n) fun e w''=>e = .returned v ∧ ∃ m,w''=w.drewN m :=
 Calls.quiet_of_same (h.mono fun _ _ ⟨he,hm⟩=>⟨he,hm.symm⟩)
theorem grownN (w:World) (n:Nat) (row:Option Nat):w.grownBy (w.drewN n) row:=⟨rfl,rfl,rfl,Nat.le_refl _,fun _ _ _=>rfl⟩
theorem grownOf {w w':World} (h:Below w.heap.size w w') (row:Option Nat):w.grownBy w' row:=⟨h.os,h.tape,h.output,h.size,fun k hk _=>h.block k hk⟩
theorem grown_below {w x w':World} {B:Nat} {row:Option Nat} (h:w.grownBy x row) (hb:Below B x w') (hB:w.heap.size≤B):w.grownBy w' row :=
 ⟨hb.os.trans h.os,hb.tape.trans h.tape,hb.output.trans h.output,Nat.le_trans h.size hb.size,fun k hk hne=>(hb.block k (by omega)).trans (h.block k hk hne)⟩
theorem Box.grownB {w w':World} {b:Nat} {cs:List Value} {r:Nat} (h:Box w b cs) (hg:w.grownBy w' (some r)) (hne:b≠r):Box w' b cs:=h.grown hg (by simpa using hne)
theorem own_types {α β:Type} {b1 b2 E1 E2 n1 n2:Nat} {C1:α→List Value} {C2:β→List Value} {w:World} {v1 v2:Value} {l1:List α} {l2:List β} (h1:Owns b1 E1 n1 C1 w v1 l1) (h2:Owns b2 E2 n2 C2 w v2 l2) (hE:E1≠E2):v1.ownBlock=none∨v1.ownBlock≠v2.ownBlock:=by
 rcases h1.2 with ⟨rfl,-⟩ | ⟨g,cap,cur,rfl,-,hg,-⟩
 · exact .inl rfl
 · right
   rcases h2.2 with ⟨rfl,-⟩ | ⟨g2,cap2,cur2,rfl,-,hg2,-⟩
   · simp [Value.ownBlock]
   · intro e
     simp only [Value.ownBlock,Option.some.injEq] at e;subst e;rw [hg] at hg2;simp only [Option.some.injEq,Obj.cells.injEq] at hg2;exact hE hg2.2.1
def cmpS (a b:S):Int:=Lib.compareBytes a.data.toList b.data.toList
def fieldsOf (k:Key):List S:=[k.group,k.artifact,k.type,k.classifier]
def cmpL:List S→List S→Int
 | a::l,b::m=>if cmpS a b=0 then cmpL l m else cmpS a b
 | _,_=>0
def cmpK (a b:Key):Int:=cmpL (fieldsOf a) (fieldsOf b)
def rises:List Key→Bool
 | []=>true
 | [_]=>true
 | a::b::l=>decide (cmpK a b = -1) && rises (b::l)
def cFirst (c:UInt8):Bool:=(decide (65≤c.toNat) && decide (c.toNat≤90)) || (decide (97≤c.toNat) && decide (c.toNat≤122)) || c.toNat == 95
def cName (c:UInt8):Bool:=cFirst c || cDigit c || c.toNat == 46 || c.toNat == 45 || c.toNat == 58
def nameLen:Bs→Nat
 | []=>0
 | c::l=>if cFirst c then span cName (c::l) else 0
def blanks:Bs→Bs
 | []=>[]
 | c::l=>if cBlank c then blanks l else c::l
def wantC (c:UInt8):Bs→Res Unit
 | []=>.bad 13 []
 | x::l=>if x=c then .ok () l else .bad 10 (x::l)
def nameR (e:Int):Bs→Res Bs
 | []=>.bad 13 []
 | c::l=>if nameLen (c::l)=0 then .bad e (c::l) else .ok ((c::l).take (nameLen (c::l))) ((c::l).drop (nameLen (c::l)))
def valueR:Bs→Res Bs
 | []=>.bad 13 []
 | q::l=>if q=34∨q=39 then (letters q l).bind fun s r=>match r with
     | []=>.bad 13 []
     | _::r'=>.ok s r'
  else .bad 10 (q::l)
def attrR (acc:List At2) (l:Bs):Res At2 :=
 (nameR 10 l).bind fun nm r=>if acc.any (fun a=>a.1 == nm) then .bad 15 l else
  (wantC 61 (blanks r)).bind fun _ r'=>(valueR (blanks r')).map fun v=>(nm,v)
def tagEnds (l:Bs):Bool:=decide ((blanks l).length=l.length) || (blanks l).isEmpty || (blanks l).head? == some 47 || (blanks l).head? == some 62
def attrsGo:Nat→List At2→Bs→Res (List At2)
 | 0,_,l=>.bad 13 l
 | f+1,acc,l=>if tagEnds l then .ok acc (blanks l) else match attrR acc (blanks l) with
  | .ok a r=>attrsGo f (acc ++ [a]) r
  | .bad e r=>.bad e r
def attrsR (l:Bs):Res (List At2):=attrsGo (l.length+1) [] l
structure Tk where
 kind:Int
 name:Bs
 attrs:List At2
 text:Bs
 deriving DecidableEq
def sNote:Bs:=[60,33,45,45]
def eNote:Bs:=[45,45,62]
def sData:Bs:=[60,33,91,67,68,65,84,65,91]
def eData:Bs:=[93,93,62]
def sHead:Bs:=[60,63,120,109,108]
def eHead:Bs:=[63,62]
def isHead (l:Bs):Bool:=sHead.isPrefixOf l && match l[5]? with
 | none=>false
 | some c=>cBlank c || c == 63
def closeR (l:Bs):Res Tk:=(nameR 11 l).bind fun nm r=>(wantC 62 (blanks r)).map fun _=>⟨3,nm,[],[]⟩
def openR (l:Bs):Res Tk:=(nameR 11 l).bind fun nm r=>(attrsR r).bind fun ats r'=>match r' with
 | 47::r''=>(wantC 62 r'').map fun _=>⟨2,nm,ats,[]⟩
 | _=>(wantC 62 r').map fun _=>⟨1,nm,ats,[]⟩
def tokenR (first:Bool) (l:Bs):Res Tk :=
 if sNote.isPrefixOf l then (plain eNote (l.drop 4)).map fun t=>⟨5,[],[],t⟩
 else if sData.isPrefixOf l then (plain eData (l.drop 9)).map fun t=>⟨4,[],[],t⟩
 else if first && isHead l then (plain eHead (l.drop 5)).map fun t=>⟨6,[],[],t⟩
 else match l with
  | 60::47::l'=>closeR l'
  | 60::l'=>openR l'
  | _=>(letters 60 l).map fun t=>⟨4,[],[],t⟩
def allGo:Nat→Bool→List (Tk × Bs)→Bs→Res (List (Tk × Bs))
 | _,_,acc,[]=>.ok acc []
 | 0,_,_,l=>.bad 13 l
 | f+1,first,acc,l=>match tokenR first l with
  | .ok t r=>allGo f false (acc ++ [(t,l)]) r
  | .bad e r=>.bad e r
def allR (l:Bs):Res (List (Tk × Bs)):=allGo l.length true [] l
def lineCol (l:Bs):Nat × Nat:=l.foldl (fun p c=>if c=10 then (p.1+1,1) else (p.1,p.2+1)) (1,1)
theorem span_le (p:UInt8→Bool) (l:Bs):span p l≤l.length:=by
 induction l with
 | nil=>simp [span]
 | cons c l ih=>simp only [span,List.length_cons]; split <;> omega
theorem nameLen_le (l:Bs):nameLen l≤l.length:=by
 cases l with
 | nil=>simp [nameLen]
 | cons c l=>simp only [nameLen]; split; exact span_le _ _; omega
theorem span_lt {p:UInt8→Bool} {l:Bs} {i:Nat} (h:i<span p l) : ∃ c,l[i]? = some c∧p c=true:=by
 induction l generalizing i with
 | nil=>simp [span] at h
 | cons c l ih =>
  simp only [span] at h;split at h
  · rename_i hp
    cases i with
    | zero=>exact ⟨c,rfl,hp⟩
    | succ i=>simpa using ih (by omega)
  · omega
theorem span_end {p:UInt8→Bool} {l:Bs} {c:UInt8} (h:l[span p l]? = some c):p c=false:=by
 induction l with
 | nil=>simp [span] at h
 | cons x l ih =>
  simp only [span] at h;split at h
  · exact ih (by simpa using h)
  · simp at h; subst h; simpa using ‹¬ p x=true›
theorem span_eq {p:UInt8→Bool} {l:Bs} {n:Nat} (h1 : ∀ i c,i<n→l[i]? = some c→p c=true) (h2 : ∀ c,l[n]? = some c→p c=false) (hn:n≤l.length):span p l=n:=by
 rcases Nat.lt_trichotomy (span p l) n with h | h | h
 · have hl:span p l<l.length:=by omega
   have:=h1 _ l[span p l] h (by simp [hl])
   rw [span_end (p:=p) (l:=l) (by simp [hl])] at this;cases this
 · exact h
 · obtain ⟨c,h3,h4⟩:=span_lt h
   rw [h2 c h3] at h4; cases h4
theorem blanks_suf (l:Bs):blanks l <:+ l:=by
 induction l with
 | nil=>exact List.suffix_refl _
 | cons c l ih=>simp only [blanks]; split; exact ih.trans (List.suffix_cons c l); exact List.suffix_refl _
theorem blanks_le (l:Bs):(blanks l).length≤l.length:=(blanks_suf l).length_le
def Res.Suf {α:Type} (l:Bs):Res α→Prop
 | .ok _ r=>r <:+ l
 | .bad _ r=>r <:+ l
theorem Res.Suf.map {α β:Type} {l:Bs} {x:Res α} (f:α→β) (h:x.Suf l):(x.map f).Suf l:=by cases x <;> exact h
theorem Res.Suf.trans {α:Type} {l l':Bs} {x:Res α} (h:x.Suf l) (h':l <:+ l'):x.Suf l':=by cases x <;> exact List.IsSuffix.trans h h'
theorem Res.Suf.bind {α β:Type} {l:Bs} {x:Res α} {f:α→Bs→Res β} (h:x.Suf l) (hf : ∀ a r,x = .ok a r→(f a r).Suf r):(x.bind f).Suf l:=by
 cases x with
 | ok a r=>exact (hf a r rfl).trans h
 | bad e r=>exact h
theorem wantC_suf (c:UInt8) (l:Bs):(wantC c l).Suf l:=by
 cases l with
 | nil=>exact List.suffix_refl _
 | cons x l=>simp only [wantC]; split; exact List.suffix_cons x l; exact List.suffix_refl _
theorem nameR_suf (e:Int) (l:Bs):(nameR e l).Suf l:=by
 cases l with
 | nil=>exact List.suffix_refl _
 | cons x l=>simp only [nameR]; split; exact List.suffix_refl _; exact List.drop_suffix _ _
theorem plain_suf (til l:Bs):(plain til l).Suf l:=by
 induction l with
 | nil=>simp only [plain]; split; exact List.drop_suffix _ _; exact List.suffix_refl _
 | cons c l ih =>
  simp only [plain];split
  · exact List.drop_suffix _ _
  · split
    · exact (ih.trans (List.suffix_cons c l)).map _
    · exact List.suffix_refl _
theorem lettersGo_suf (stop:UInt8) (k:Nat) (l:Bs):(lettersGo stop k l).Suf l:=by
 induction l generalizing k with
 | nil=>cases k <;> exact List.suffix_refl _
 | cons c l ih =>
  cases k with
  | succ k=>exact (ih k).trans (List.suffix_cons c l)
  | zero =>
   simp only [lettersGo];split
   · exact List.suffix_refl _
   · split
     · cases refSpec (c::l) with
       | ok t n=>exact ((ih _).trans (List.suffix_cons c l)).map _
       | bad e=>exact List.suffix_refl _
     · split
       · exact List.suffix_refl _
       · exact ((ih 0).trans (List.suffix_cons c l)).map _
theorem lettersGo_drop (stop:UInt8) (k:Nat) (l:Bs):lettersGo stop k l=lettersGo stop 0 (l.drop k):=by
 induction l generalizing k with
 | nil=>cases k <;> rfl
 | cons c l ih =>
  cases k with
  | zero=>rfl
  | succ k=>simp only [lettersGo,List.drop_succ_cons]; exact ih k
theorem letters_suf (stop:UInt8) (l:Bs):(letters stop l).Suf l:=lettersGo_suf stop 0 l
theorem valueR_suf (l:Bs):(valueR l).Suf l:=by
 cases l with
 | nil=>exact List.suffix_refl _
 | cons q l =>
  simp only [valueR];split
  · refine Res.Suf.trans (Res.Suf.bind (letters_suf q l) fun s r _=>?_) (List.suffix_cons q l)
    cases r with
    | nil=>exact List.suffix_refl _
    | cons x r=>exact List.suffix_cons x r
  · exact List.suffix_refl _
theorem attrR_suf (acc:List At2) (l:Bs):(attrR acc l).Suf l:=by
 unfold attrR;cases h:nameR 10 l with
 | bad e r=>have:=nameR_suf 10 l; rw [h] at this; exact this
 | ok nm r =>
  have hs:=nameR_suf 10 l;rw [h] at hs;simp only [Res.bind];split
  · exact List.suffix_refl _
  · refine Res.Suf.trans (l:=r) (Res.Suf.trans (l:=blanks r) (Res.Suf.bind (wantC_suf _ _) fun _ r' _=>?_) (blanks_suf r)) hs
    exact ((valueR_suf _).map _).trans (blanks_suf r')
theorem attrsGo_suf (f:Nat) (acc:List At2) (l:Bs):(attrsGo f acc l).Suf l:=by
 induction f generalizing acc l with
 | zero=>exact List.suffix_refl _
 | succ f ih =>
  simp only [attrsGo];split
  · exact blanks_suf l
  · cases h:attrR acc (blanks l) with
    | ok a r=>have:=attrR_suf acc (blanks l); rw [h] at this; exact (ih _ r).trans (List.IsSuffix.trans this (blanks_suf l))
    | bad e r=>have:=attrR_suf acc (blanks l); rw [h] at this; exact List.IsSuffix.trans this (blanks_suf l)
theorem attrsR_suf (l:Bs):(attrsR l).Suf l:=attrsGo_suf _ _ _
theorem closeR_suf (l:Bs):(closeR l).Suf l:=Res.Suf.bind (nameR_suf _ _) fun _ r _=>((wantC_suf _ _).trans (blanks_suf r)).map _
theorem openR_suf (l:Bs):(openR l).Suf l:=Res.Suf.bind (nameR_suf _ _) fun nm r _=>Res.Suf.bind (attrsR_suf r) fun ats r' _=>by
 split
 · exact ((wantC_suf _ _).trans (List.suffix_cons _ _)).map _
 · exact (wantC_suf _ _).map _
theorem tokenR_suf (first:Bool) (l:Bs):(tokenR first l).Suf l:=by
 unfold tokenR;split
 · exact ((plain_suf _ _).trans (List.drop_suffix _ _)).map _
 · split
   · exact ((plain_suf _ _).trans (List.drop_suffix _ _)).map _
   · split
     · exact ((plain_suf _ _).trans (List.drop_suffix _ _)).map _
     · split
       · exact (closeR_suf _).trans ((List.suffix_cons _ _).trans (List.suffix_cons _ _))
       · exact (openR_suf _).trans (List.suffix_cons _ _)
       · exact (letters_suf _ _).map _
def untilP (til l:Bs):Res Bs :=
 if 0≤Lib.index l til then
  if span cText (l.take (Lib.index l til).toNat)<(Lib.index l til).toNat then .bad 10 (l.drop (span cText (l.take (Lib.index l til).toNat)))
  else .ok (l.take (Lib.index l til).toNat) (l.drop ((Lib.index l til).toNat+til.length))
 else if span cText l<l.length then .bad 10 (l.drop (span cText l)) else .bad 13 []
theorem plain_until {til:Bs} (ht:til≠[]) (l:Bs):plain til l=untilP til l:=by
 have hp0:til.isPrefixOf []=false:=by cases til with
  | nil=>exact absurd rfl ht
  | cons a t=>rfl
 induction l with
 | nil =>
  have hi:Lib.index [] til = -1:=by
   unfold Lib.index;cases til with
   | nil=>exact absurd rfl ht
   | cons a t=>rfl
  unfold untilP plain;rw [hi,hp0]; simp [span]
 | cons c l ih =>
  have hge:=Lib.index_ge l til;simp only [plain];by_cases hp:til.isPrefixOf (c::l)
  · have hi:Lib.index (c::l) til=0:=by simp [Lib.index,hp]
    unfold untilP;rw [if_pos hp,hi]; simp
  · rw [if_neg hp,ih]
    by_cases hl:Lib.index l til = -1
    · have hi:Lib.index (c::l) til = -1:=by simp [Lib.index,hp,hl]
      unfold untilP;rw [hi,hl];simp only [show ¬ (0:Int) ≤ -1 by decide,if_false,span,List.length_cons];by_cases hc:cText c=true
      rotate_left
      · simp [hc]
      · simp only [hc,if_true]
        by_cases h2:span cText l<l.length
        · rw [if_pos h2,if_pos (by omega)]; rfl
        · rw [if_neg h2,if_neg (by omega)]; rfl
    · have hi:Lib.index (c::l) til=Lib.index l til+1:=by simp [Lib.index,hp,hl]
      unfold untilP;have hn0:0≤Lib.index l til:=by omega
      rw [hi,if_pos hn0,if_pos (show 0≤Lib.index l til+1 by omega)];have hn:(Lib.index l til+1).toNat=(Lib.index l til).toNat+1:=by omega
      rw [hn,List.take_succ_cons];simp only [span];by_cases hc:cText c=true
      rotate_left
      · simp [hc]
      · simp only [hc,if_true]
        by_cases h2:span cText (l.take (Lib.index l til).toNat)<(Lib.index l til).toNat
        · rw [if_pos h2,if_pos (by omega)]; rfl
        · rw [if_neg h2,if_neg (by omega)]
          show Res.ok _ _=_
          rw [show (Lib.index l til).toNat+1+til.length=(Lib.index l til).toNat+til.length+1 by omega]; rfl
theorem lineCol_snoc (l:Bs) (c:UInt8):lineCol (l ++ [c])=if c=10 then ((lineCol l).1+1,1) else ((lineCol l).1,(lineCol l).2+1):=by
 unfold lineCol; rw [List.foldl_append]; rfl
theorem snoc_ind {P:Bs→Prop} (h0:P []) (h1 : ∀ l c,P l→P (l ++ [c])) (l:Bs):P l:=by
 have h : ∀ m:Bs,P m.reverse:=fun m=>by
  induction m with
  | nil=>exact h0
  | cons c m ih=>rw [List.reverse_cons]; exact h1 _ _ ih
 have:=h l.reverse
 rwa [List.reverse_reverse] at this
theorem lineCol_pos (l:Bs):1≤(lineCol l).1∧1≤(lineCol l).2∧(lineCol l).1≤l.length+1∧(lineCol l).2≤l.length+1:=by
 induction l using snoc_ind with
 | h0=>decide
 | h1 l c ih =>
 rw [lineCol_snoc];simp only [List.length_append,List.length_singleton];split <;> simp <;> omega
theorem lineCol_line (l:Bs):(lineCol l).1=1+l.count 10:=by
 induction l using snoc_ind with
 | h0=>rfl
 | h1 l c ih =>
 rw [lineCol_snoc,List.count_append];split
 · rename_i h; subst h; simp [ih]; omega
 · rename_i h; simp [ih,h]
theorem lastIdx_congr {s t:ByteArray} {c:Int} (k:Nat) (h : ∀ j,j<k→s.data[j]! = t.data[j]!):Lib.lastIdx s c k=Lib.lastIdx t c k:=by
 induction k with
 | zero=>rfl
 | succ k ih=>simp only [Lib.lastIdx]; rw [h k (by omega),ih fun j hj=>h j (by omega)]
theorem bs_bang (l:Bs) (j:Nat) (h:j<l.length):(bs l).data[j]! = l[j]:=by
 rw [getElem!_pos (bs l).data j (by simpa [bs] using h)]; simp [bs]
theorem lineCol_col (l:Bs):Lib.lastIndexByte (bs l) 10=(l.length:Int) - (lineCol l).2:=by
 induction l using snoc_ind with
 | h0=>rfl
 | h1 l c ih =>
 unfold Lib.lastIndexByte at ih ⊢;rw [bs_size] at ih ⊢;rw [lineCol_snoc,List.length_append,List.length_singleton];simp only [Lib.lastIdx];rw [bs_bang _ _ (by simp)];have e:(l ++ [c])[l.length]'(by simp)=c:=by simp
 rw [e];by_cases h:c=10
 · subst h; simp
 · have h' : ¬ ((c.toNat:Nat):Int)=10:=fun e=>h (UInt8.toNat_inj.1 (by simpa using (by omega:c.toNat=10)))
   rw [if_neg h',if_neg h,lastIdx_congr (t:=bs l) l.length (fun j hj=>by rw [bs_bang _ _ (by simp; omega),bs_bang _ _ hj]; simp [hj]),ih];simp; omega
theorem lastOcc_one (l:Bs) (c:UInt8) (k:Nat) (hk:k≤l.length):Lib.lastOcc l [c] k=Lib.lastIdx (bs l) c.toNat k:=by
 induction k with
 | zero=>rfl
 | succ k ih =>
  have hl:k<l.length:=by omega
  have ho:Lib.occAt l [c] k=decide (l[k]=c):=by
   unfold Lib.occAt;rw [List.drop_eq_getElem_cons hl];simp only [List.isPrefixOf,Bool.and_true];by_cases e:c=l[k]
   · simp [← e]
   · simp [e,Ne.symm e]
  simp only [Lib.lastIdx];rw [bs_bang _ _ hl];by_cases h:l[k]=c
  · rw [Lib.lastOcc_hit _ _ _ (by rw [ho]; simpa using h),if_pos (by rw [h])]
  · rw [Lib.lastOcc_miss _ _ _ (by rw [ho]; simpa using h),ih (by omega),if_neg]
    intro e; exact h (UInt8.toNat_inj.1 (by omega))
theorem lastIndex_one (l:Bs):Lib.lastIndex l [10]=(l.length:Int) - (lineCol l).2:=by
 rw [← lineCol_col];unfold Lib.lastIndex Lib.lastIndexByte;rw [bs_size];cases l with
 | nil=>rfl
 | cons c l =>
  rw [if_pos (by simp),show (c::l).length - ([10]:Bs).length+1=(c::l).length by simp,lastOcc_one _ _ _ (Nat.le_refl _)]; rfl
theorem isBlank_any (c:UInt8) (w:World):Calls Tryz.prog 71 #[.int .u8 c.toNat] w fun e w'=>e = .returned (.bool (cBlank c))∧w=w':=by
 go_enter Tryz.func71,Tryz.ntmps71
 go_wp2
 all_goals (go_ret; exact ⟨ret_bool (by rw [Bool.eq_iff_iff]; simp [cBlank]; omega),rfl⟩)
theorem isLower_any (c:UInt8) (w:World):Calls Tryz.prog 134 #[.int .u8 c.toNat] w fun e w'=>e = .returned (.bool (cLower c))∧w=w':=by
 go_enter Tryz.func134,Tryz.ntmps134
 go_wp2
 all_goals (go_ret; exact ⟨ret_bool (by rw [Bool.eq_iff_iff]; simp [cLower]; omega),rfl⟩)
set_option maxHeartbeats 1000000 in
theorem isFirst_any (c:UInt8) (w:World):Calls Tryz.prog 124 #[.int .u8 c.toNat] w fun e w'=>e = .returned (.bool (cFirst c))∧w=w':=by
 go_enter Tryz.func124,Tryz.ntmps124
 go_wp2
 all_goals (go_ret; exact ⟨ret_bool (by rw [Bool.eq_iff_iff]; simp [cFirst]; omega),rfl⟩)
set_option maxHeartbeats 1000000 in
theorem isText_any (c:UInt8) (w:World):Calls Tryz.prog 115 #[.int .u8 c.toNat] w fun e w'=>e = .returned (.bool (cText c))∧w=w':=by
 by_cases h:32≤(c.toNat:Int)
 · go_enter Tryz.func115,Tryz.ntmps115
   go_wp2
   go_ret
   exact ⟨ret_bool (by have:32≤c.toNat:=by omega
                       simp [cText,this]),rfl⟩
 · go_enter Tryz.func115,Tryz.ntmps115
   go_wp2_with (go_at_call 71; refine (isBlank_any c _).mono ?_; rintro e w' ⟨rfl,rfl⟩)
   go_ret
   exact ⟨ret_bool (by have : ¬ 32≤c.toNat:=by omega
                       simp [cText,this]),rfl⟩
set_option maxHeartbeats 1000000 in
theorem isName_any (c:UInt8) (w:World):Calls Tryz.prog 99 #[.int .u8 c.toNat] w fun e w'=>e = .returned (.bool (cName c))∧w=w':=by
 cases h1:cFirst c
 · cases h2:cDigit c
   · go_enter Tryz.func99,Tryz.ntmps99
     go_wp2_with (first | (go_at_call 124; refine (isFirst_any c _).mono ?_; rintro e w' ⟨rfl,rfl⟩; rw [h1]) | (go_at_call 72; refine (isDigit_any c _).mono ?_; rintro e w' ⟨rfl,rfl⟩; rw [h2]))
     all_goals (go_ret; exact ⟨ret_bool (by rw [Bool.eq_iff_iff]; simp [cName,h1,h2]; omega),rfl⟩)
   · go_enter Tryz.func99,Tryz.ntmps99
     go_wp2_with (first | (go_at_call 124; refine (isFirst_any c _).mono ?_; rintro e w' ⟨rfl,rfl⟩; rw [h1]) | (go_at_call 72; refine (isDigit_any c _).mono ?_; rintro e w' ⟨rfl,rfl⟩; rw [h2]))
     go_ret
     exact ⟨ret_bool (by simp [cName,h2]),rfl⟩
 · go_enter Tryz.func99,Tryz.ntmps99
   go_wp2_with (go_at_call 124; refine (isFirst_any c _).mono ?_; rintro e w' ⟨rfl,rfl⟩; rw [h1])
   go_ret
   exact ⟨ret_bool (by simp [cName,h1]),rfl⟩
def classV (c:UInt8):Int:=(if cBlank c then 1 else 0)+(if cDigit c then 10 else 0)+(if cFirst c then 12 else 0)+(if c.toNat=46∨c.toNat=45∨c.toNat=58 then 8 else 0)+(if cText c then 16 else 0)
set_option maxRecDepth 100000 in
set_option maxHeartbeats 4000000 in
theorem class_eq (c:UInt8) (w:World) (h:c.toNat=9∨c.toNat=10∨c.toNat=13∨c.toNat=32∨c.toNat=45∨c.toNat=46∨c.toNat=58∨c.toNat=95):Calls Tryz.prog 122 #[.int .u8 c.toNat] w fun e w'=>e = .returned (.int .i64 (classV c))∧w=w':=by
 rcases h with h | h | h | h | h | h | h | h
 all_goals
  rw [h];have HH:=Lib.hid h;clear h;go_enter Tryz.func122,Tryz.ntmps122
  go_wp2
  go_ret
  exact ⟨ret_int (by simp [classV,cBlank,cDigit,cFirst,cText,HH.out]),rfl⟩
set_option maxRecDepth 100000 in
set_option maxHeartbeats 8000000 in
theorem class_ne (c:UInt8) (w:World) (e1:((c.toNat:Int) == 9)=false) (e2:((c.toNat:Int) == 10)=false) (e3:((c.toNat:Int) == 13)=false) (e4:((c.toNat:Int) == 32)=false) (e5:((c.toNat:Int) == 45)=false) (e6:((c.toNat:Int) == 46)=false) (e7:((c.toNat:Int) == 58)=false) (e8:((c.toNat:Int) == 95)=false) :
    Calls Tryz.prog 122 #[.int .u8 c.toNat] w fun e w'=>e = .returned (.int .i64 (classV c))∧w=w':=by
 have hc:(c.toNat:Int)<32∨(32<(c.toNat:Int)∧(c.toNat:Int)<48)∨(48≤(c.toNat:Int)∧(c.toNat:Int)≤57)∨(57<(c.toNat:Int)∧(c.toNat:Int)<65)∨(65≤(c.toNat:Int)∧(c.toNat:Int)≤90)∨(90<(c.toNat:Int)∧(c.toNat:Int)<97)∨(97≤(c.toNat:Int)∧(c.toNat:Int)≤122)∨122<(c.toNat:Int):=by
  have:c.toNat≠32:=by intro h; simp [h] at e4
  omega
 have f1:c.toNat≠9:=by intro h; simp [h] at e1
 have f2:c.toNat≠10:=by intro h; simp [h] at e2
 have f3:c.toNat≠13:=by intro h; simp [h] at e3
 have f4:c.toNat≠32:=by intro h; simp [h] at e4
 have f5:c.toNat≠45:=by intro h; simp [h] at e5
 have f6:c.toNat≠46:=by intro h; simp [h] at e6
 have f7:c.toNat≠58:=by intro h; simp [h] at e7
 have f8:c.toNat≠95:=by intro h; simp [h] at e8
 have H:Hid (classV c=(if 48≤c.toNat∧c.toNat≤57 then 10 else 0)+(if (65≤c.toNat∧c.toNat≤90)∨(97≤c.toNat∧c.toNat≤122) then 12 else 0)+(if 32≤c.toNat then 16 else 0)):=by
  show _=_
  simp [classV,cBlank,cDigit,cFirst,cText,f1,f2,f3,f4,f5,f6,f7,f8]
 clear f1 f2 f3 f4 f5 f6 f7 f8;rcases hc with h | ⟨h,h'⟩ | ⟨h,h'⟩ | ⟨h,h'⟩ | ⟨h,h'⟩ | ⟨h,h'⟩ | ⟨h,h'⟩ | h
 all_goals
  go_enter Tryz.func122,Tryz.ntmps122
  go_wp2
  go_ret
  exact ⟨ret_int (by rw [H.out]; simp (disch:=omega) [if_pos,if_neg]),rfl⟩
theorem class_any (c:UInt8) (w:World):Calls Tryz.prog 122 #[.int .u8 c.toNat] w fun e w'=>e = .returned (.int .i64 (classV c))∧w=w':=by
 by_cases h:c.toNat=9∨c.toNat=10∨c.toNat=13∨c.toNat=32∨c.toNat=45∨c.toNat=46∨c.toNat=58∨c.toNat=95
 · exact class_eq c w h
 · refine class_ne c w ?_ ?_ ?_ ?_ ?_ ?_ ?_ ?_ <;> (simp; omega)
def inClass (k:Int) (c:UInt8):Bool:=if k=1 then cBlank c else if k=4 then cFirst c else if k=8 then cName c else cText c
theorem classV_is (c:UInt8):(classV c % 2=1↔cBlank c=true)∧(classV c / 4 % 2=1↔cFirst c=true)∧(classV c / 8 % 2=1↔cName c=true)∧(classV c / 16 % 2=1↔cText c=true)∧0≤classV c∧classV c<64:=by
 have h : ∀ n:Fin 256,(classV (UInt8.ofNat n) % 2=1↔cBlank (UInt8.ofNat n)=true)∧(classV (UInt8.ofNat n) / 4 % 2=1↔cFirst (UInt8.ofNat n)=true)∧(classV (UInt8.ofNat n) / 8 % 2=1↔cName (UInt8.ofNat n)=true)∧(classV (UInt8.ofNat n) / 16 % 2=1↔cText (UInt8.ofNat n)=true)∧0≤classV (UInt8.ofNat n)∧classV (UInt8.ofNat n)<64:=by decide +kernel
 have:=h ⟨c.toNat,c.toNat_lt⟩
 simpa using this
end Go.Proofs.YtecffghcpknmjaaGreatDoor
