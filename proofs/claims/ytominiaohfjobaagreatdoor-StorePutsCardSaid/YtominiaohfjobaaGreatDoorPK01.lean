/- The base: what slices of structs are in memory; the data of the layers; no program in sight. -/
import Derived.WalkKit
import Derived.Lib.Hide
import Derived.Deep.QuietTactic
import Derived.BigQuiet
import Derived.Lib.Strings
import Derived.Lib.Index
import Derived.Lib.LastIndexByte
import Derived.Lib.LastIndexLaws
import Derived.Test.YtominiaohfjobaaGreatDoorProg
import Derived.WalkSpells
import Derived.WalkLawsBesides
import Derived.LoopTactic
import Derived.Laws.Cover4
import Derived.IntWalk
import Derived.Test.YtominiaohfjobaaGreatDoorShelf
import Derived.Laws.AppendOwnNone
import Derived.Maps.AppendAt
import Derived.OwnWalk
set_option maxRecDepth 100000
set_option maxHeartbeats 64000000
namespace Go.Proofs.YtominiaohfjobaaGreatDoor
open Go Go.RowKit
def af {α:Type} (n:Nat) (C:α→List Value) (w:World) (v:Value) (l:List α):Prop :=
 ∃ ao cap,v = .slice ao l.length cap∧l.length≤cap∧cap≤maxLen∧(ao=none→cap=0) ∧
  ∀ i x,l[i]? = some x → ∃ b o,ao=some ⟨b,o,none⟩∧b<w.heap.size ∧ ∀ j u,(C x)[j]? = some u→w.cell? ⟨b,o+i*n+j,none⟩=some u
theorem af.below {α:Type} {n:Nat} {C:α→List Value} {w w':World} {v:Value} {l:List α} (h:af n C w v l) (A:Below w.heap.size w w'):af n C w' v l:=by
 obtain ⟨ao,cap,h1,h2,hm,h3,J⟩:=h;refine ⟨ao,cap,h1,h2,hm,h3,fun i x hx=>?_⟩
 obtain ⟨b,o,ha,hlt,I⟩:=J i x hx;exact ⟨b,o,ha,Nat.lt_of_lt_of_le hlt A.size,fun j u D=>(A.cell (by exact hlt)).trans (I j u D)⟩
theorem af.nil {α:Type} {n:Nat} {C:α→List Value} {w:World}:af n C w (.slice none 0 0) ([]:List α) :=
 ⟨none,0,rfl,Nat.le_refl _,Nat.zero_le _,fun _=>rfl,fun i x h=>by simp at h⟩
theorem af.shape {α:Type} {n:Nat} {C:α→List Value} {w:World} {v:Value} {l:List α} (h:af n C w v l) : ∃ ao cap,v = .slice ao l.length cap:=by
 obtain ⟨ao,cap,h1,_⟩:=h; exact ⟨ao,cap,h1⟩
theorem af.at {α:Type} {n:Nat} {C:α→List Value} {w:World} {ao:Option Addr} {len cap:Nat} {l:List α} (h:af n C w (.slice ao len cap) l) {k:Nat} (hk:k<l.length) :
    ∃ b o,ao=some ⟨b,o,none⟩∧b<w.heap.size ∧ ∀ j u,(C l[k])[j]? = some u→w.cell? ⟨b,o+k*n+j,none⟩=some u:=by
 obtain ⟨I,D,h1,h2,hm,h3,A⟩:=h;cases h1
 exact A k l[k] (by simp [hk])
structure ak (w:World) (b:Nat) (cs:List Value):Prop where
 lt:b<w.heap.size
 cell : ∀ j u,cs[j]? = some u→w.cell? ⟨b,j,none⟩=some u
 free : ∀ j,w.frozen? ⟨b,j,none⟩=false
theorem ak.new (w:World) (cs:List Value) (T:TypeId) (H:Nat) (A:w.heap.size=H):ak (w.alloc (.cells cs.toArray T)) H cs:=by
 subst A;refine ⟨by simp,fun j u h=>?_,fun j=>?_⟩
 · rw [cell_of_row _ w.heap.size j _ T (0,0) (heap_alloc_new w _)]; simpa using h
 · have h:=heap_alloc_new w (.cells cs.toArray T)
   simp only [World.frozen?,h]; simp
theorem ak.below {w w':World} {b B:Nat} {cs:List Value} (h:ak w b cs) (A:Below B w w') (hlt:b<B):ak w' b cs :=
 ⟨Nat.lt_of_lt_of_le h.lt A.size,fun j u D=>(A.cell (by exact hlt)).trans (h.cell j u D),fun j=>(A.frozen (by exact hlt)).trans (h.free j)⟩
theorem ak.alloc {w:World} {b:Nat} {cs:List Value} (h:ak w b cs) (o:Obj):ak (w.alloc o) b cs :=
 h.below ((Below.refl w.heap.size w).alloc (Nat.le_refl _) o) h.lt
theorem ak.drewN {w:World} {b:Nat} {cs:List Value} (h:ak w b cs) (n:Nat):ak (w.drewN n) b cs:=⟨h.lt,h.cell,h.free⟩
theorem ak.grown {w w':World} {b:Nat} {cs:List Value} {row:Option Nat} (h:ak w b cs) (D:w.grownBy w' row) (A:some b≠row):ak w' b cs :=
 ⟨Nat.lt_of_lt_of_le h.lt D.size,fun j u I=>(World.cell?_of_block (by exact D.block b h.lt A)).trans (h.cell j u I),fun j=>(World.frozen?_of_block (by exact D.block b h.lt A)).trans (h.free j)⟩
structure aJ (w:World) where
 at_:World
 below:Below w.heap.size w at_
instance yD (w:World):Inhabited (aJ w):=⟨⟨w,Below.refl _ _⟩⟩
theorem cG {P:Program} {id:Nat} {Q:Exit→Act→World→Prop} {a:Act} {w:World} {l:List Oper} (hm:P.follows .mixedOrders=true) (hB:Region.lexB .any l.toArray=true)
    (h:wpQuiet P l.toArray (fun w'=>∃ x:aJ w,w'=x.at_) (fun a'=>∀ w',(∃ x:aJ w,w'=x.at_)→Q .normal a' w') l a):(Code.region id l.toArray true).wp P Q a w :=
 wp_region_quiet (C:=fun w'=>∃ x:aJ w,w'=x.at_) hm hB ⟨⟨{ w with drawn:=w.drawn+1 },⟨rfl,rfl,rfl,Nat.le_refl _,fun _ _=>rfl⟩⟩,rfl⟩ (by simpa using h)
theorem aJ.call {P:Program} {f:FuncId} {args:Array Value} {w:World} {x:aJ w} {v:Value}
    (h:Calls P f args x.at_ fun e w'=>e = .returned v∧Below x.at_.heap.size x.at_ w'):Calls P f args x.at_ fun e A=>e = .returned v ∧ ∃ y:aJ w,A=y.at_ :=
 h.mono fun _ w' ⟨he,D⟩=>⟨he,⟨w',x.below.trans (D.mono x.below.size)⟩,rfl⟩
theorem aJ.cells {w:World} (x:aJ w) (b o:Nat) (h:b<w.heap.size):x.at_.cell? ⟨b,o,none⟩=w.cell? ⟨b,o,none⟩:=x.below.cell h
theorem aD {a b:Bool} (h:a=b):Ending.returned (.bool a) = .returned (.bool b):=by rw [h]
theorem dK {k:IntKind} {a b:Int} (h:a=b):Ending.returned (.int k a) = .returned (.int k b):=by rw [h]
theorem um {α:Type} {l:List α} {k:Nat} (h:k<l.length):l.drop k=l[k]::l.drop (k+1):=List.drop_eq_getElem_cons h
abbrev S:=ByteArray
def Cd (s:S):Bool:=s.toList.isEmpty
structure Id where
 group:S
 artifact:S
 deriving DecidableEq
structure bp where
 group:S
 artifact:S
 version:S
 deriving DecidableEq
structure B6 where
 group:S
 artifact:S
 type:S
 classifier:S
 deriving DecidableEq
structure rB where
 name:S
 value:S
 deriving DecidableEq
structure jk where
 group:S
 artifact:S
 version:S
 type:S
 classifier:S
 scope:Int
 opt:Int
 excl:List Id
 deriving DecidableEq
structure pq where
 hasParent:Bool
 parent:bp
 group:S
 artifact:S
 version:S
 packaging:S
 props:List rB
 managed:List jk
 deps:List jk
 deriving DecidableEq
def gq (s:S):List Value:=[.string s]
def jj (x:Id):List Value:=[.string x.group,.string x.artifact]
def gu (x:bp):List Value:=[.string x.group,.string x.artifact,.string x.version]
def gM (x:rB):List Value:=[.string x.name,.string x.value]
def gQ (p:jk × Value):List Value:=[.string p.1.group,.string p.1.artifact,.string p.1.version,.string p.1.type,.string p.1.classifier,.int .i64 p.1.scope,.int .i64 p.1.opt,p.2]
def mK (w:World) (p:jk × Value):Prop:=af 2 jj w p.2 p.1.excl
def jN (w:World) (v:Value) (ds:List jk):Prop:=∃ l:List (jk × Value),l.map (·.1)=ds∧af 8 gQ w v l ∧ ∀ p ∈ l,mK w p
theorem mK.below {w w':World} {p:jk × Value} (h:mK w p) (A:Below w.heap.size w w'):mK w' p:=af.below h A
theorem mK.shape {w:World} {d:jk} {x:Value} (h:mK w (d,x)) : ∃ ao cap,x = .slice ao d.excl.length cap:=af.shape h
theorem jN.shape {w:World} {v:Value} {ds:List jk} (h:jN w v ds) : ∃ ao cap,v = .slice ao ds.length cap:=by
 obtain ⟨l,rfl,h2,h3⟩:=h;obtain ⟨ao,cap,h⟩:=h2.shape;exact ⟨ao,cap,by simpa using h⟩
theorem jN.below {w w':World} {v:Value} {ds:List jk} (h:jN w v ds) (A:Below w.heap.size w w'):jN w' v ds:=by
 obtain ⟨l,h1,h2,h3⟩:=h;exact ⟨l,h1,h2.below A,fun p hp=>(h3 p hp).below A⟩
def nF (p:pq) (pv mv dv:Value):List Value :=
 [.bool p.hasParent,.string p.parent.group,.string p.parent.artifact,.string p.parent.version,.string p.group,.string p.artifact,.string p.version,.string p.packaging,pv,mv,dv]
structure vz (w:World) (v:Value) (p:pq) (pv mv dv:Value):Prop where
 val:v = .agg (nF p pv mv dv).toArray
 props:af 2 gM w pv p.props
 managed:jN w mv p.managed
 deps:jN w dv p.deps
theorem vz.below {w w':World} {v:Value} {p:pq} {pv mv dv:Value} (h:vz w v p pv mv dv) (A:Below w.heap.size w w'):vz w' v p pv mv dv :=
 ⟨h.val,h.props.below A,h.managed.below A,h.deps.below A⟩
def Cc:S:=⟨#[106,97,114]⟩
def Bz (d:jk):B6:=⟨d.group,d.artifact,if Cd d.type then Cc else d.type,d.classifier⟩
def has:List jk→B6→Bool
 | [],_=>false
 | d::l,k=>decide (Bz d=k) || has l k
def at_:Nat→List rB→S→Int
 | _,[],_=>-1
 | i,p::l,n=>if p.name=n then i else at_ (i+1) l n
theorem zH {p:Prop} (h:p):Hid p:=h
theorem zN {f:Bool} (c:f=true→false=true):f=false:=Bool.eq_false_iff.2 fun h=>Bool.false_ne_true (c h)
theorem zB {w:World} {b:Nat} {l:List Value} {v:Value} (h:ak w b l) (j:Nat) (e:l[j]? = some v):w.cell? ⟨b,j,none⟩=some v∧w.frozen? ⟨b,j,none⟩=false∧b<w.heap.size:=⟨h.cell j v e,h.free j,h.lt⟩
theorem ej {w:World} {b:Nat} {A v1 v2:Value} {r:List Value} (h:ak w b (A::v1::v2::r)):w.cell? ⟨b,0,none⟩=some A∧w.cell? ⟨b,1,none⟩=some v1∧w.cell? ⟨b,2,none⟩=some v2 :=
 ⟨h.cell 0 _ rfl,h.cell 1 _ rfl,h.cell 2 _ rfl⟩
theorem xx {w:World} {b:Nat} {A v1 v2 v3:Value} {r:List Value} (h:ak w b (A::v1::v2::v3::r)):w.cell? ⟨b,0,none⟩=some A∧w.cell? ⟨b,1,none⟩=some v1∧w.cell? ⟨b,2,none⟩=some v2∧w.cell? ⟨b,3,none⟩=some v3 :=
 ⟨h.cell 0 _ rfl,h.cell 1 _ rfl,h.cell 2 _ rfl,h.cell 3 _ rfl⟩
theorem gU {w:World} {b:Nat} {D v1 v2 v3 A:Value} {r:List Value} (h:ak w b (D::v1::v2::v3::A::r)):w.cell? ⟨b,0,none⟩=some D∧w.cell? ⟨b,1,none⟩=some v1∧w.cell? ⟨b,2,none⟩=some v2∧w.cell? ⟨b,3,none⟩=some v3∧w.cell? ⟨b,4,none⟩=some A :=
 ⟨h.cell 0 _ rfl,h.cell 1 _ rfl,h.cell 2 _ rfl,h.cell 3 _ rfl,h.cell 4 _ rfl⟩
theorem xE {w:World} {b:Nat} {J v1 v2 v3 I D A:Value} {r:List Value} (h:ak w b (J::v1::v2::v3::I::D::A::r)):w.cell? ⟨b,0,none⟩=some J∧w.cell? ⟨b,1,none⟩=some v1∧w.cell? ⟨b,2,none⟩=some v2∧w.cell? ⟨b,3,none⟩=some v3∧w.cell? ⟨b,4,none⟩=some I∧w.cell? ⟨b,5,none⟩=some D∧w.cell? ⟨b,6,none⟩=some A :=
 ⟨h.cell 0 _ rfl,h.cell 1 _ rfl,h.cell 2 _ rfl,h.cell 3 _ rfl,h.cell 4 _ rfl,h.cell 5 _ rfl,h.cell 6 _ rfl⟩
theorem xD {w:World} {b:Nat} {O v1 v2 v3 J I D A:Value} {r:List Value} (h:ak w b (O::v1::v2::v3::J::I::D::A::r)):w.cell? ⟨b,0,none⟩=some O∧w.cell? ⟨b,1,none⟩=some v1∧w.cell? ⟨b,2,none⟩=some v2∧w.cell? ⟨b,3,none⟩=some v3∧w.cell? ⟨b,4,none⟩=some J∧w.cell? ⟨b,5,none⟩=some I∧w.cell? ⟨b,6,none⟩=some D∧w.cell? ⟨b,7,none⟩=some A :=
 ⟨h.cell 0 _ rfl,h.cell 1 _ rfl,h.cell 2 _ rfl,h.cell 3 _ rfl,h.cell 4 _ rfl,h.cell 5 _ rfl,h.cell 6 _ rfl,h.cell 7 _ rfl⟩
theorem rH {w:World} {b:Nat} {v0 v1 v2 v3 Z U O J I D A:Value} {r:List Value} (h:ak w b (v0::v1::v2::v3::Z::U::O::J::I::D::A::r)):w.cell? ⟨b,0,none⟩=some v0∧w.cell? ⟨b,1,none⟩=some v1∧w.cell? ⟨b,2,none⟩=some v2∧w.cell? ⟨b,3,none⟩=some v3∧w.cell? ⟨b,4,none⟩=some Z∧w.cell? ⟨b,5,none⟩=some U∧w.cell? ⟨b,6,none⟩=some O∧w.cell? ⟨b,7,none⟩=some J∧w.cell? ⟨b,8,none⟩=some I∧w.cell? ⟨b,9,none⟩=some D∧w.cell? ⟨b,10,none⟩=some A :=
 ⟨h.cell 0 _ rfl,h.cell 1 _ rfl,h.cell 2 _ rfl,h.cell 3 _ rfl,h.cell 4 _ rfl,h.cell 5 _ rfl,h.cell 6 _ rfl,h.cell 7 _ rfl,h.cell 8 _ rfl,h.cell 9 _ rfl,h.cell 10 _ rfl⟩
abbrev Bs:=List UInt8
def bs (l:Bs):S:=⟨l.toArray⟩
def cBlank (c:UInt8):Bool:=c.toNat == 32 || c.toNat == 9 || c.toNat == 10 || c.toNat == 13
def cDigit (c:UInt8):Bool:=decide (48≤c.toNat) && decide (c.toNat≤57)
def mh (c:UInt8):Bool:=(decide (65≤c.toNat) && decide (c.toNat≤90)) || (decide (97≤c.toNat) && decide (c.toNat≤122)) || c.toNat == 95
def kk (c:UInt8):Bool:=mh c || cDigit c || c.toNat == 46 || c.toNat == 45 || c.toNat == 58
def cE (c:UInt8):Bool:=decide (32≤c.toNat) || cBlank c
def ca (c:UInt8):Bool:=decide (97≤c.toNat) && decide (c.toNat≤122)
def aI (p:UInt8→Bool):Bs→Nat
 | []=>0
 | c::l=>if p c then aI p l+1 else 0
def cq:Bs→Nat
 | []=>0
 | c::l=>if mh c then aI kk (c::l) else 0
inductive AX where
 | ok (t:Bs) (n:Nat)
 | bad (e:Int)
def eh (c:UInt8) (A:Bool):Int :=
 if cDigit c then c.toNat - 48 else if A && decide (97≤c.toNat) && decide (c.toNat≤102) then c.toNat - 87 else if A && decide (65≤c.toNat) && decide (c.toNat≤70) then c.toNat - 55 else -1
def bE (A:Bool) (c:UInt8):Bool:=decide (0≤eh c A)
def fb (A:Bool):Int:=if A then 16 else 10
def fh (A:Bool) (l:Bs):Int:=l.foldl (fun k c=>k*fb A+eh c A) 0
def eN (n:Int):Bool:=decide (n=9∨n=10∨n=13∨(32≤n∧n≤1114111 ∧ ¬ (55296≤n∧n≤57343)))
def m9 (c:Nat):Bs :=
 if c<128 then [UInt8.ofNat c]
 else if c<2048 then [UInt8.ofNat (192+c / 64),UInt8.ofNat (128+c % 64)]
 else if c<65536 then [UInt8.ofNat (224+c / 4096),UInt8.ofNat (128+c / 64 % 64),UInt8.ofNat (128+c % 64)]
 else [UInt8.ofNat (240+c / 262144),UInt8.ofNat (128+c / 4096 % 64),UInt8.ofNat (128+c / 64 % 64),UInt8.ofNat (128+c % 64)]
def lz (n:Int):Bs:=m9 n.toNat
def cg (A:Bool) (ahead:Nat) (s:Bs):AX :=
 if 8<aI (bE A) s then .bad 12
 else if aI (bE A) s=s.length then .bad 13
 else if aI (bE A) s=0∨s[aI (bE A) s]?≠some 59 then .bad 12
 else if eN (fh A (s.take (aI (bE A) s))) then .ok (lz (fh A (s.take (aI (bE A) s)))) (ahead+aI (bE A) s+1)
 else .bad 12
def BK:Bs:=[108,116]
def BL:Bs:=[103,116]
def zU:Bs:=[97,109,112]
def uJ:Bs:=[113,117,111,116]
def uK:Bs:=[97,112,111,115]
def nR (w:Bs):Option UInt8 :=
 if w=BK then some 60 else if w=BL then some 62 else if w=zU then some 38 else if w=uJ then some 34 else if w=uK then some 39 else none
def bP:Bs→AX
 | []=>.bad 13
 | c::r=>if c≠38 then .bad 12 else match r with
  | 35::r'=>(match r' with
   | 120::A=>cg true 3 A
   | _=>cg false 2 r')
  | _ =>
   if aI ca r=r.length then
    if r.isPrefixOf BK || r.isPrefixOf BL || r.isPrefixOf zU || r.isPrefixOf uJ || r.isPrefixOf uK then .bad 13 else .bad 12
   else match nR (r.take (aI ca r)) with
    | some t=>if r[aI ca r]? = some 59 then .ok [t] (aI ca r+2) else .bad 12
    | none=>.bad 12
inductive cO (α:Type) where
 | ok (a:α) (r:Bs)
 | bad (e:Int) (r:Bs)
def cO.map {α β:Type} (f:α→β):cO α→cO β
 | .ok a r=>.ok (f a) r
 | .bad e r=>.bad e r
def cO.bind {α β:Type} (f:α→Bs→cO β):cO α→cO β
 | .ok a r=>f a r
 | .bad e r=>.bad e r
def aC:Bs→Bs
 | []=>[]
 | c::l=>if cBlank c then aC l else c::l
def dd (c:UInt8):Bs→cO Unit
 | []=>.bad 13 []
 | x::l=>if x=c then .ok () l else .bad 10 (x::l)
def dB (e:Int):Bs→cO Bs
 | []=>.bad 13 []
 | c::l=>if cq (c::l)=0 then .bad e (c::l) else .ok ((c::l).take (cq (c::l))) ((c::l).drop (cq (c::l)))
def plain (til:Bs):Bs→cO Bs
 | []=>if til.isPrefixOf [] then .ok [] (([]:Bs).drop til.length) else .bad 13 []
 | c::l=>if til.isPrefixOf (c::l) then .ok [] ((c::l).drop til.length) else if cE c then (plain til l).map (c :: ·) else .bad 10 (c::l)
def bu (stop:UInt8):Nat→Bs→cO Bs
 | _,[]=>.ok [] []
 | k+1,_::l=>bu stop k l
 | 0,c::l =>
  if c=stop then .ok [] (c::l)
  else if c=38 then match bP (c::l) with
   | .ok t n=>(bu stop (n - 1) l).map (t ++ ·)
   | .bad e=>.bad e (c::l)
  else if c=60∨cE c=false then .bad 10 (c::l)
  else (bu stop 0 l).map (c :: ·)
def bA (stop:UInt8) (l:Bs):cO Bs:=bu stop 0 l
def eu:Bs→cO Bs
 | []=>.bad 13 []
 | q::l=>if q=34∨q=39 then (bA q l).bind fun s r=>match r with
     | []=>.bad 13 []
     | _::r'=>.ok s r'
  else .bad 10 (q::l)
abbrev eE:=Bs × Bs
def ec (acc:List eE) (l:Bs):cO eE :=
 (dB 10 l).bind fun A r=>if acc.any (fun a=>a.1 == A) then .bad 15 l else
  (dd 61 (aC r)).bind fun _ r'=>(eu (aC r')).map fun v=>(A,v)
def kT (l:Bs):Bool:=decide ((aC l).length=l.length) || (aC l).isEmpty || (aC l).head? == some 47 || (aC l).head? == some 62
def et:Nat→List eE→Bs→cO (List eE)
 | 0,_,l=>.bad 13 l
 | f+1,acc,l=>if kT l then .ok acc (aC l) else match ec acc (aC l) with
  | .ok a r=>et f (acc ++ [a]) r
  | .bad e r=>.bad e r
def iM (l:Bs):cO (List eE):=et (l.length+1) [] l
structure Tk where
 kind:Int
 name:Bs
 attrs:List eE
 text:Bs
 deriving DecidableEq
def iT:Bs:=[60,33,45,45]
def mE:Bs:=[45,45,62]
def ld:Bs:=[60,33,91,67,68,65,84,65,91]
def qj:Bs:=[93,93,62]
def nC:Bs:=[60,63,120,109,108]
def mF:Bs:=[63,62]
def da (l:Bs):Bool:=nC.isPrefixOf l && match l[5]? with
 | none=>false
 | some c=>cBlank c || c == 63
def dw (l:Bs):cO Tk:=(dB 11 l).bind fun A r=>(dd 62 (aC r)).map fun _=>⟨3,A,[],[]⟩
def cL (l:Bs):cO Tk:=(dB 11 l).bind fun D r=>(iM r).bind fun ats r'=>match r' with
 | 47::A=>(dd 62 A).map fun _=>⟨2,D,ats,[]⟩
 | _=>(dd 62 r').map fun _=>⟨1,D,ats,[]⟩
def cF (first:Bool) (l:Bs):cO Tk :=
 if iT.isPrefixOf l then (plain mE (l.drop 4)).map fun t=>⟨5,[],[],t⟩
 else if ld.isPrefixOf l then (plain qj (l.drop 9)).map fun t=>⟨4,[],[],t⟩
 else if first && da l then (plain mF (l.drop 5)).map fun t=>⟨6,[],[],t⟩
 else match l with
  | 60::47::l'=>dw l'
  | 60::l'=>cL l'
  | _=>(bA 60 l).map fun t=>⟨4,[],[],t⟩
def eR:Nat→Bool→List (Tk × Bs)→Bs→cO (List (Tk × Bs))
 | _,_,acc,[]=>.ok acc []
 | 0,_,_,l=>.bad 13 l
 | f+1,first,acc,l=>match cF first l with
  | .ok t r=>eR f false (acc ++ [(t,l)]) r
  | .bad e r=>.bad e r
def jI (l:Bs):cO (List (Tk × Bs)):=eR l.length true [] l
def az (l:Bs):Nat × Nat:=l.foldl (fun p c=>if c=10 then (p.1+1,1) else (p.1,p.2+1)) (1,1)
def off (T:Bs) (r:Bs):Nat:=T.length - r.length
end Go.Proofs.YtominiaohfjobaaGreatDoor
namespace Go.Proofs.YtominiaohfjobaaGreatDoor
open Go Go.RowKit
inductive Tr where
 | mk (name:Bs) (attrs:List eE) (kids:List Tr) (text:Bs)
namespace Tr
def name:Tr→Bs
 | .mk n _ _ _=>n
def attrs:Tr→List eE
 | .mk _ a _ _=>a
def kids:Tr→List Tr
 | .mk _ _ k _=>k
def text:Tr→Bs
 | .mk _ _ _ x=>x
end Tr
def gW (l:Bs):Bs:=((l.dropWhile cBlank).reverse.dropWhile cBlank).reverse
structure Fr where
 name:Bs
 attrs:List eE
 kids:List Tr
def Fr.tree (f:Fr):Tr:=.mk f.name f.attrs f.kids []
def Fr.add (f:Fr) (t:Tr):Fr:=⟨f.name,f.attrs,f.kids ++ [t]⟩
def lL (s:Bs):List Tr→List Tr
 | []=>[]
 | [.mk n a k x]=>[.mk n a k (x ++ s)]
 | t::u::l=>t::lL s (u::l)
def Fr.more (f:Fr) (s:Bs):Fr:=⟨f.name,f.attrs,lL s f.kids⟩
structure lM where
 stack:List Fr
 root:Option Tr
 count:Nat
 text:Bool
def xC:lM:=⟨[],none,0,false⟩
inductive zx where
 | ok (st:lM)
 | bad (e:Int)
def cp (f:Fr) (l:List Fr) (root:Option Tr) (count:Nat):lM :=
 match l with
 | []=>⟨[],some f.tree,count,false⟩
 | g::l=>⟨g.add f.tree::l,root,count,false⟩
def bU (st:lM) (s:Bs):zx :=
 match st.stack with
 | []=>if (gW s).isEmpty then .ok st else .bad 16
 | f::l =>
  if s.isEmpty then .ok st
  else if st.text then .ok ⟨f.more s::l,st.root,st.count,true⟩
  else if 4096<st.count+1 then .bad 2
  else .ok ⟨f.add (.mk [] [] [] s)::l,st.root,st.count+1,true⟩
def cb (st:lM) (t:Tk):zx :=
 if st.root.isSome then .bad 16
 else if 64≤st.stack.length then .bad 2
 else if 4096<st.count+1 then .bad 2
 else .ok ⟨⟨t.name,t.attrs,[]⟩::st.stack,st.root,st.count+1,false⟩
def zx.close:zx→zx
 | .ok ⟨f::l,r,c,_⟩=>.ok (cp f l r c)
 | x=>x
def ul (st:lM) (t:Tk):zx :=
 match st.stack with
 | []=>.bad 16
 | f::l=>if f.name=t.name then .ok (cp f l st.root st.count) else .bad 14
def dQ (st:lM) (t:Tk):zx :=
 if t.kind=4 then bU st t.text
 else if t.kind=1 then cb st t
 else if t.kind=2 then (cb st t).close
 else if t.kind=3 then ul st t
 else .ok st
def ku:lM→List (Tk × Bs)→cO Tr
 | st,[]=>match st.stack with
  | _::_=>.bad 13 []
  | []=>match st.root with
   | some t=>.ok t []
   | none=>.bad 16 []
 | st,(t,r)::l=>match dQ st t with
  | .ok A=>ku A l
  | .bad e=>.bad e r
def kI (l:Bs):cO Tr :=
 match jI l with
 | .ok acc _=>ku xC acc
 | .bad e r=>.bad e r
end Go.Proofs.YtominiaohfjobaaGreatDoor
namespace Go.Proofs.YtominiaohfjobaaGreatDoor
open Go Go.RowKit
theorem fc (p:UInt8→Bool) (l:Bs):aI p l≤l.length:=by
 induction l with
 | nil=>simp [aI]
 | cons c l A=>simp only [aI,List.length_cons]; split <;> omega
theorem nU (l:Bs):cq l≤l.length:=by
 cases l with
 | nil=>simp [cq]
 | cons c l=>simp only [cq]; split; exact fc _ _; omega
theorem Ac {p:UInt8→Bool} {l:Bs} {i:Nat} (h:i<aI p l) : ∃ c,l[i]? = some c∧p c=true:=by
 induction l generalizing i with
 | nil=>simp [aI] at h
 | cons c l A =>
  simp only [aI] at h;split at h
  · rename_i hp
    cases i with
    | zero=>exact ⟨c,rfl,hp⟩
    | succ i=>simpa using A (by omega)
  · omega
theorem xV {p:UInt8→Bool} {l:Bs} {c:UInt8} (h:l[aI p l]? = some c):p c=false:=by
 induction l with
 | nil=>simp [aI] at h
 | cons x l A =>
  simp only [aI] at h;split at h
  · exact A (by simpa using h)
  · simp at h; subst h; simpa using ‹¬ p x=true›
theorem ey (l:Bs):aC l <:+ l:=by
 induction l with
 | nil=>exact List.suffix_refl _
 | cons c l A=>simp only [aC]; split; exact A.trans (List.suffix_cons c l); exact List.suffix_refl _
theorem dm (l:Bs):(aC l).length≤l.length:=(ey l).length_le
def cO.Suf {α:Type} (l:Bs):cO α→Prop
 | .ok _ r=>r <:+ l
 | .bad _ r=>r <:+ l
theorem cO.Suf.map {α β:Type} {l:Bs} {x:cO α} (f:α→β) (h:x.Suf l):(x.map f).Suf l:=by cases x <;> exact h
theorem cO.Suf.trans {α:Type} {l l':Bs} {x:cO α} (h:x.Suf l) (h':l <:+ l'):x.Suf l':=by cases x <;> exact List.IsSuffix.trans h h'
theorem cO.Suf.bind {α β:Type} {l:Bs} {x:cO α} {f:α→Bs→cO β} (h:x.Suf l) (hf : ∀ a r,x = .ok a r→(f a r).Suf r):(x.bind f).Suf l:=by
 cases x with
 | ok a r=>exact (hf a r rfl).trans h
 | bad e r=>exact h
theorem fN (c:UInt8) (l:Bs):(dd c l).Suf l:=by
 cases l with
 | nil=>exact List.suffix_refl _
 | cons x l=>simp only [dd]; split; exact List.suffix_cons x l; exact List.suffix_refl _
theorem jT (e:Int) (l:Bs):(dB e l).Suf l:=by
 cases l with
 | nil=>exact List.suffix_refl _
 | cons x l=>simp only [dB]; split; exact List.suffix_refl _; exact List.drop_suffix _ _
theorem lQ (til l:Bs):(plain til l).Suf l:=by
 induction l with
 | nil=>simp only [plain]; split; exact List.drop_suffix _ _; exact List.suffix_refl _
 | cons c l A =>
  simp only [plain];split
  · exact List.drop_suffix _ _
  · split
    · exact (A.trans (List.suffix_cons c l)).map _
    · exact List.suffix_refl _
theorem gO (stop:UInt8) (k:Nat) (l:Bs):(bu stop k l).Suf l:=by
 induction l generalizing k with
 | nil=>cases k <;> exact List.suffix_refl _
 | cons c l A =>
  cases k with
  | succ k=>exact (A k).trans (List.suffix_cons c l)
  | zero =>
   simp only [bu];split
   · exact List.suffix_refl _
   · split
     · cases bP (c::l) with
       | ok t n=>exact ((A _).trans (List.suffix_cons c l)).map _
       | bad e=>exact List.suffix_refl _
     · split
       · exact List.suffix_refl _
       · exact ((A 0).trans (List.suffix_cons c l)).map _
theorem jw (stop:UInt8) (k:Nat) (l:Bs):bu stop k l=bu stop 0 (l.drop k):=by
 induction l generalizing k with
 | nil=>cases k <;> rfl
 | cons c l A =>
  cases k with
  | zero=>rfl
  | succ k=>simp only [bu,List.drop_succ_cons]; exact A k
theorem mz (stop:UInt8) (l:Bs):(bA stop l).Suf l:=gO stop 0 l
theorem nt (l:Bs):(eu l).Suf l:=by
 cases l with
 | nil=>exact List.suffix_refl _
 | cons q l =>
  simp only [eu];split
  · refine cO.Suf.trans (cO.Suf.bind (mz q l) fun s r _=>?_) (List.suffix_cons q l)
    cases r with
    | nil=>exact List.suffix_refl _
    | cons x r=>exact List.suffix_cons x r
  · exact List.suffix_refl _
theorem qw (acc:List eE) (l:Bs):(ec acc l).Suf l:=by
 unfold ec;cases h:dB 10 l with
 | bad e r=>have:=jT 10 l; rw [h] at this; exact this
 | ok D r =>
  have A:=jT 10 l;rw [h] at A;simp only [cO.bind];split
  · exact List.suffix_refl _
  · refine cO.Suf.trans (l:=r) (cO.Suf.trans (l:=aC r) (cO.Suf.bind (fN _ _) fun _ r' _=>?_) (ey r)) A
    exact ((nt _).map _).trans (ey r')
theorem sZ (f:Nat) (acc:List eE) (l:Bs):(et f acc l).Suf l:=by
 induction f generalizing acc l with
 | zero=>exact List.suffix_refl _
 | succ f A =>
  simp only [et];split
  · exact ey l
  · cases h:ec acc (aC l) with
    | ok a r=>have:=qw acc (aC l); rw [h] at this; exact (A _ r).trans (List.IsSuffix.trans this (ey l))
    | bad e r=>have:=qw acc (aC l); rw [h] at this; exact List.IsSuffix.trans this (ey l)
theorem uz (l:Bs):(iM l).Suf l:=sZ _ _ _
theorem oF (l:Bs):(dw l).Suf l:=cO.Suf.bind (jT _ _) fun _ r _=>((fN _ _).trans (ey r)).map _
theorem pL (l:Bs):(cL l).Suf l:=cO.Suf.bind (jT _ _) fun A r _=>cO.Suf.bind (uz r) fun ats r' _=>by
 split
 · exact ((fN _ _).trans (List.suffix_cons _ _)).map _
 · exact (fN _ _).map _
theorem nw (first:Bool) (l:Bs):(cF first l).Suf l:=by
 unfold cF;split
 · exact ((lQ _ _).trans (List.drop_suffix _ _)).map _
 · split
   · exact ((lQ _ _).trans (List.drop_suffix _ _)).map _
   · split
     · exact ((lQ _ _).trans (List.drop_suffix _ _)).map _
     · split
       · exact (oF _).trans ((List.suffix_cons _ _).trans (List.suffix_cons _ _))
       · exact (pL _).trans (List.suffix_cons _ _)
       · exact (mz _ _).map _
theorem dP {T r:Bs} {c:UInt8} (h:c::r <:+ T):r <:+ T:=(List.suffix_cons c r).trans h
theorem ax (l:Bs):(bs l).size=l.length:=by simp [bs,ByteArray.size]
theorem cH (l:Bs):(bs l).data.toList=l:=by simp [bs]
theorem ng (s:S):bs s.data.toList=s:=Lib.mk_data s
theorem Bk {l m:Bs} (h:bs l=bs m):l=m:=by rw [← cH l,← cH m,h]
theorem uu (l:Bs) (a b:Nat):(bs l).extract a b=bs ((l.drop a).take (b - a)):=by rw [Lib.extract_eq,cH]; rfl
theorem cU (l m:Bs):bs l ++ bs m=bs (l ++ m):=by
 apply ByteArray.ext
 simp [bs,ByteArray.data_append]
def kt (til l:Bs):cO Bs :=
 if 0≤Lib.index l til then
  if aI cE (l.take (Lib.index l til).toNat)<(Lib.index l til).toNat then .bad 10 (l.drop (aI cE (l.take (Lib.index l til).toNat)))
  else .ok (l.take (Lib.index l til).toNat) (l.drop ((Lib.index l til).toNat+til.length))
 else if aI cE l<l.length then .bad 10 (l.drop (aI cE l)) else .bad 13 []
theorem si {til:Bs} (J:til≠[]) (l:Bs):plain til l=kt til l:=by
 have O:til.isPrefixOf []=false:=by cases til with
  | nil=>exact absurd rfl J
  | cons a t=>rfl
 induction l with
 | nil =>
  have A:Lib.index [] til = -1:=by
   unfold Lib.index;cases til with
   | nil=>exact absurd rfl J
   | cons a t=>rfl
  unfold kt plain;rw [A,O]; simp [aI]
 | cons c l Z =>
  have aa:=Lib.index_ge l til;simp only [plain];by_cases hp:til.isPrefixOf (c::l)
  · have A:Lib.index (c::l) til=0:=by simp [Lib.index,hp]
    unfold kt;rw [if_pos hp,A]; simp
  · rw [if_neg hp,Z]
    by_cases I:Lib.index l til = -1
    · have A:Lib.index (c::l) til = -1:=by simp [Lib.index,hp,I]
      unfold kt;rw [A,I];simp only [show ¬ (0:Int) ≤ -1 by decide,if_false,aI,List.length_cons];by_cases D:cE c=true
      rotate_left
      · simp [D]
      · simp only [D,if_true]
        by_cases h2:aI cE l<l.length
        · rw [if_pos h2,if_pos (by omega)]; rfl
        · rw [if_neg h2,if_neg (by omega)]; rfl
    · have A:Lib.index (c::l) til=Lib.index l til+1:=by simp [Lib.index,hp,I]
      unfold kt;have U:0≤Lib.index l til:=by omega
      rw [A,if_pos U,if_pos (show 0≤Lib.index l til+1 by omega)];have hn:(Lib.index l til+1).toNat=(Lib.index l til).toNat+1:=by omega
      rw [hn,List.take_succ_cons];simp only [aI];by_cases D:cE c=true
      rotate_left
      · simp [D]
      · simp only [D,if_true]
        by_cases h2:aI cE (l.take (Lib.index l til).toNat)<(Lib.index l til).toNat
        · rw [if_pos h2,if_pos (by omega)]; rfl
        · rw [if_neg h2,if_neg (by omega)]
          show cO.ok _ _=_
          rw [show (Lib.index l til).toNat+1+til.length=(Lib.index l til).toNat+til.length+1 by omega]; rfl
theorem eO (l:Bs) (c:UInt8):az (l ++ [c])=if c=10 then ((az l).1+1,1) else ((az l).1,(az l).2+1):=by
 unfold az; rw [List.foldl_append]; rfl
theorem kW {P:Bs→Prop} (h0:P []) (h1 : ∀ l c,P l→P (l ++ [c])) (l:Bs):P l:=by
 have h : ∀ m:Bs,P m.reverse:=fun m=>by
  induction m with
  | nil=>exact h0
  | cons c m A=>rw [List.reverse_cons]; exact h1 _ _ A
 have:=h l.reverse
 rwa [List.reverse_reverse] at this
theorem jv (l:Bs):1≤(az l).1∧1≤(az l).2∧(az l).1≤l.length+1∧(az l).2≤l.length+1:=by
 induction l using kW with
 | h0=>decide
 | h1 l c A =>
 rw [eO];simp only [List.length_append,List.length_singleton];split <;> simp <;> omega
theorem qN (l:Bs):(az l).1=1+l.count 10:=by
 induction l using kW with
 | h0=>rfl
 | h1 l c A =>
 rw [eO,List.count_append];split
 · rename_i h; subst h; simp [A]; omega
 · rename_i h; simp [A,h]
theorem pd {s t:ByteArray} {c:Int} (k:Nat) (h : ∀ j,j<k→s.data[j]! = t.data[j]!):Lib.lastIdx s c k=Lib.lastIdx t c k:=by
 induction k with
 | zero=>rfl
 | succ k A=>simp only [Lib.lastIdx]; rw [h k (by omega),A fun j D=>h j (by omega)]
theorem nh (l:Bs) (j:Nat) (h:j<l.length):(bs l).data[j]! = l[j]:=by
 rw [getElem!_pos (bs l).data j (by simpa [bs] using h)]; simp [bs]
theorem mx (l:Bs):Lib.lastIndexByte (bs l) 10=(l.length:Int) - (az l).2:=by
 induction l using kW with
 | h0=>rfl
 | h1 l c A =>
 unfold Lib.lastIndexByte at A ⊢;rw [ax] at A ⊢;rw [eO,List.length_append,List.length_singleton];simp only [Lib.lastIdx];rw [nh _ _ (by simp)];have e:(l ++ [c])[l.length]'(by simp)=c:=by simp
 rw [e];by_cases h:c=10
 · subst h; simp
 · have h' : ¬ ((c.toNat:Nat):Int)=10:=fun e=>h (UInt8.toNat_inj.1 (by simpa using (by omega:c.toNat=10)))
   rw [if_neg h',if_neg h,pd (t:=bs l) l.length (fun j D=>by rw [nh _ _ (by simp; omega),nh _ _ D]; simp [D]),A];simp; omega
theorem sE (l:Bs) (c:UInt8) (k:Nat) (hk:k≤l.length):Lib.lastOcc l [c] k=Lib.lastIdx (bs l) c.toNat k:=by
 induction k with
 | zero=>rfl
 | succ k D =>
  have A:k<l.length:=by omega
  have ho:Lib.occAt l [c] k=decide (l[k]=c):=by
   unfold Lib.occAt;rw [List.drop_eq_getElem_cons A];simp only [List.isPrefixOf,Bool.and_true];by_cases e:c=l[k]
   · simp [← e]
   · simp [e,Ne.symm e]
  simp only [Lib.lastIdx];rw [nh _ _ A];by_cases h:l[k]=c
  · rw [Lib.lastOcc_hit _ _ _ (by rw [ho]; simpa using h),if_pos (by rw [h])]
  · rw [Lib.lastOcc_miss _ _ _ (by rw [ho]; simpa using h),D (by omega),if_neg]
    intro e; exact h (UInt8.toNat_inj.1 (by omega))
theorem o8 (l:Bs):Lib.lastIndex l [10]=(l.length:Int) - (az l).2:=by
 rw [← mx];unfold Lib.lastIndex Lib.lastIndexByte;rw [ax];cases l with
 | nil=>rfl
 | cons c l =>
  rw [if_pos (by simp),show (c::l).length - ([10]:Bs).length+1=(c::l).length by simp,sE _ _ _ (Nat.le_refl _)]; rfl
theorem fj (c:UInt8) (w:World):Calls Tryz.prog 188 #[.int .u8 c.toNat] w fun e w'=>e = .returned (.bool (cBlank c))∧w=w':=by
 go_enter Tryz.func188,Tryz.ntmps188
 go_wp2
 all_goals (go_ret; exact ⟨aD (by rw [Bool.eq_iff_iff]; simp [cBlank]; omega),rfl⟩)
theorem cu (c:UInt8) (w:World):Calls Tryz.prog 101 #[.int .u8 c.toNat] w fun e w'=>e = .returned (.bool (cDigit c))∧w=w':=by
 go_enter Tryz.func101,Tryz.ntmps101
 go_wp2
 all_goals (go_ret; exact ⟨aD (by rw [Bool.eq_iff_iff]; simp [cDigit]; omega),rfl⟩)
theorem sG (c:UInt8) (w:World):Calls Tryz.prog 215 #[.int .u8 c.toNat] w fun e w'=>e = .returned (.bool (ca c))∧w=w':=by
 go_enter Tryz.func215,Tryz.ntmps215
 go_wp2
 all_goals (go_ret; exact ⟨aD (by rw [Bool.eq_iff_iff]; simp [ca]; omega),rfl⟩)
theorem gC (c:UInt8) (w:World):Calls Tryz.prog 178 #[.int .u8 c.toNat] w fun e w'=>e = .returned (.bool (mh c))∧w=w':=by
 go_enter Tryz.func178,Tryz.ntmps178
 go_wp2
 all_goals (go_ret; exact ⟨aD (by rw [Bool.eq_iff_iff]; simp [mh]; omega),rfl⟩)
theorem fa (c:UInt8) (w:World):Calls Tryz.prog 186 #[.int .u8 c.toNat] w fun e w'=>e = .returned (.bool (cE c))∧w=w':=by
 by_cases h:32≤(c.toNat:Int)
 · go_enter Tryz.func186,Tryz.ntmps186
   go_wp2
   go_ret
   exact ⟨aD (by
       have:32≤c.toNat:=by omega
       simp [cE,this]),rfl⟩
 · go_enter Tryz.func186,Tryz.ntmps186
   go_wp2_with (go_at_call 188; refine (fj c _).mono ?_; rintro e w' ⟨rfl,rfl⟩)
   go_ret
   exact ⟨aD (by
       have : ¬ 32≤c.toNat:=by omega
       simp [cE,this]),rfl⟩
theorem uc (c:UInt8) (w:World):Calls Tryz.prog 139 #[.int .u8 c.toNat] w fun e w'=>e = .returned (.bool (kk c))∧w=w':=by
 cases h1:mh c
 · cases h2:cDigit c
   · go_enter Tryz.func139,Tryz.ntmps139
     go_wp2_with (first | (go_at_call 178; refine (gC c _).mono ?_; rintro e w' ⟨rfl,rfl⟩; rw [h1]) | (go_at_call 101; refine (cu c _).mono ?_; rintro e w' ⟨rfl,rfl⟩; rw [h2]))
     all_goals (go_ret; exact ⟨aD (by rw [Bool.eq_iff_iff]; simp [kk,h1,h2]; omega),rfl⟩)
   · go_enter Tryz.func139,Tryz.ntmps139
     go_wp2_with (first | (go_at_call 178; refine (gC c _).mono ?_; rintro e w' ⟨rfl,rfl⟩; rw [h1]) | (go_at_call 101; refine (cu c _).mono ?_; rintro e w' ⟨rfl,rfl⟩; rw [h2]))
     go_ret
     exact ⟨aD (by simp [kk,h2]),rfl⟩
 · go_enter Tryz.func139,Tryz.ntmps139
   go_wp2_with (go_at_call 178; refine (gC c _).mono ?_; rintro e w' ⟨rfl,rfl⟩; rw [h1])
   go_ret
   exact ⟨aD (by simp [kk,h1]),rfl⟩
theorem bW (s:S) (k:Nat) (h:k<s.size):s.data.toList.drop k=s[k]::s.data.toList.drop (k+1):=by
 rw [List.drop_eq_getElem_cons (by simpa using h)]; rfl
theorem au (s:S):s.data.toList.length=s.size:=(Lib.size_eq s).symm
theorem qG (s:S) (w:World) (J:s.size≤9223372036854775807) :
    Calls Tryz.prog 195 #[.string s,.func (.func 139) #[] #[]] w fun e w'=>e = .returned (.int .i64 (aI (kk) s.data.toList))∧w=w':=by
 have D:=fc (kk) s.data.toList;rw [au] at D;go_enter Tryz.func195,Tryz.ntmps195
 go_wp2
 go_loop [5] (fun i=>∃ k:Nat,k≤s.size∧i = .int .i64 k∧Hid (aI (kk) s.data.toList=k+aI (kk) (s.data.toList.drop k))) (fun i=>s.size - (intOf i).toNat)
 case atStart=>exact ⟨0,Nat.zero_le _,rfl,by show _=_; simp⟩
 case round =>
  obtain ⟨k,hk,rfl,H⟩:=hrel;by_cases hlt:k<s.size
  · have I:=zH (bW s k hlt)
    cases hp:kk s[k]
    all_goals
     have A:=zH hp;clear hp;go_wp2_with (go_at_call 139; refine (uc _ _).mono ?_; rintro e w' ⟨rfl,rfl⟩; rw [A.out])
    · go_ret
      exact ⟨dK (by rw [H.out,I.out]; simp [aI,A.out]),rfl⟩
    · go_round
      case rel=>exact ⟨k+1,by omega,by go_num,by show _=_; rw [H.out,I.out]; simp only [aI,A.out,if_true]; omega⟩
      case measure=>simp [intOf]; omega
  · go_wp2
    go_ret
    exact ⟨dK (by rw [H.out,List.drop_of_length_le (by rw [au]; omega)]; simp [aI]),rfl⟩
theorem oU (s:S) (w:World) (J:s.size≤9223372036854775807) :
    Calls Tryz.prog 195 #[.string s,.func (.func 215) #[] #[]] w fun e w'=>e = .returned (.int .i64 (aI (ca) s.data.toList))∧w=w':=by
 have D:=fc (ca) s.data.toList;rw [au] at D;go_enter Tryz.func195,Tryz.ntmps195
 go_wp2
 go_loop [5] (fun i=>∃ k:Nat,k≤s.size∧i = .int .i64 k∧Hid (aI (ca) s.data.toList=k+aI (ca) (s.data.toList.drop k))) (fun i=>s.size - (intOf i).toNat)
 case atStart=>exact ⟨0,Nat.zero_le _,rfl,by show _=_; simp⟩
 case round =>
  obtain ⟨k,hk,rfl,H⟩:=hrel;by_cases hlt:k<s.size
  · have I:=zH (bW s k hlt)
    cases hp:ca s[k]
    all_goals
     have A:=zH hp;clear hp;go_wp2_with (go_at_call 215; refine (sG _ _).mono ?_; rintro e w' ⟨rfl,rfl⟩; rw [A.out])
    · go_ret
      exact ⟨dK (by rw [H.out,I.out]; simp [aI,A.out]),rfl⟩
    · go_round
      case rel=>exact ⟨k+1,by omega,by go_num,by show _=_; rw [H.out,I.out]; simp only [aI,A.out,if_true]; omega⟩
      case measure=>simp [intOf]; omega
  · go_wp2
    go_ret
    exact ⟨dK (by rw [H.out,List.drop_of_length_le (by rw [au]; omega)]; simp [aI]),rfl⟩
theorem bH (s:S):s.toList.isEmpty=decide (s.size=0):=by
 have h:s.toList.length=s.size:=by rw [ByteArray.toList_eq]; exact au s
 rw [← h];cases s.toList <;> simp
theorem yu (s:S) (w:World) (J:s.size≤9223372036854775807) :
    Calls Tryz.prog 189 #[.string s] w fun e w'=>e = .returned (.int .i64 (cq s.data.toList))∧w=w':=by
 have A:=bH s;by_cases h0:s.size=0
 · have O:s.toList.isEmpty=true:=by rw [A]; simpa using h0
   clear A;have D:s.data.toList=[]:=List.eq_nil_of_length_eq_zero (by rw [au,h0]);rw [D];clear D h0;go_enter Tryz.func189,Tryz.ntmps189
   go_wp2
   go_ret
   exact ⟨rfl,rfl⟩
 · have O:s.toList.isEmpty=false:=by rw [A]; simpa using h0
   clear A;have h1:0<s.size:=by omega
   have U:=zH (bW s 0 h1);clear h0;cases hp:mh s[0]
   all_goals
    have I:=zH hp;clear hp;go_enter Tryz.func189,Tryz.ntmps189
    go_wp2_with (first | (go_at_call 178; refine (gC _ _).mono ?_; rintro e w' ⟨rfl,rfl⟩; rw [I.out]) | (go_at_call 195; refine (qG s _ J).mono ?_; rintro e w' ⟨rfl,rfl⟩))
    go_ret
    refine ⟨dK ?_,rfl⟩
    have h2:=U.out;rw [List.drop_zero] at h2;rw [h2];simp [cq,I.out]
theorem mf (c:UInt8) (A:Bool) : -1≤eh c A∧eh c A≤15:=by
 have:=c.toNat_lt
 unfold eh;split
 · rename_i h; simp [cDigit] at h; omega
 · split
   · rename_i h; simp at h; omega
   · split
     · rename_i h; simp at h; omega
     · omega
theorem mb (c:UInt8) (I:Bool) (w:World):Calls Tryz.prog 224 #[.int .u8 c.toNat,.int .i64 (fb I)] w fun e w'=>e = .returned (.int .i64 (eh c I))∧w=w':=by
 have hlt:=c.toNat_lt;cases D:cDigit c
 · have A:=zH D
   have J : ¬ (48≤c.toNat∧c.toNat≤57):=by simpa [cDigit] using D
   clear D;cases I
   · simp only [fb,Bool.false_eq_true,if_false]
     go_enter Tryz.func224,Tryz.ntmps224
     go_wp2_with (go_at_call 101; refine (cu _ _).mono ?_; rintro e w' ⟨rfl,rfl⟩; rw [A.out])
     go_ret
     exact ⟨dK (by simp [eh,A.out]),rfl⟩
   · simp only [fb,if_true]
     have O:(c.toNat:Int)<65∨(65≤(c.toNat:Int)∧(c.toNat:Int)≤70)∨(70<(c.toNat:Int)∧(c.toNat:Int)<97)∨(97≤(c.toNat:Int)∧(c.toNat:Int)≤102)∨102<(c.toNat:Int):=by omega
     rcases O with h | ⟨h,h'⟩ | ⟨h,h'⟩ | ⟨h,h'⟩ | h
     all_goals
      go_enter Tryz.func224,Tryz.ntmps224
      go_wp2_with (go_at_call 101; refine (cu _ _).mono ?_; rintro e w' ⟨rfl,rfl⟩; rw [A.out])
      go_ret
      refine ⟨dK ?_,rfl⟩
      simp (disch:=omega) [eh,A.out,if_pos,if_neg]
      try omega
 · have A:=zH D
   have J:48≤(c.toNat:Int)∧(c.toNat:Int)≤57:=by simp [cDigit] at D; omega
   obtain ⟨Z,U⟩:=J;clear D;go_enter Tryz.func224,Tryz.ntmps224
   go_wp2_with (go_at_call 101; refine (cu _ _).mono ?_; rintro e w' ⟨rfl,rfl⟩; rw [A.out])
   go_ret
   exact ⟨dK (by simp [eh,A.out]),rfl⟩
def qM (w:Bs):Bs:=match nR w with
 | some c=>[c]
 | none=>[]
theorem zZ (s:S) (l:Bs):(s.toList == l)=decide (s.data.toList=l):=by
 rw [ByteArray.toList_eq,Bool.eq_iff_iff]; simp
theorem pN (s:S) (w:World):Calls Tryz.prog 216 #[.string s] w fun e w'=>e = .returned (.string (bs (qM s.data.toList)))∧w=w':=by
 go_enter Tryz.func216,Tryz.ntmps216
 go_wp2
 all_goals (go_ret; refine ⟨?_,rfl⟩; simp_all [qM,nR,BK,BL,zU,uJ,uK,zZ,bs])
theorem wW {n:Int} (h:eN n=true):Utf8.encode n=bs (lz n):=by
 simp only [eN,decide_eq_true_eq] at h;have A:Utf8.valid n=true:=by simp [Utf8.valid]; omega
 unfold Utf8.encode lz m9;rw [if_pos A];simp only [];split
 · rfl
 · split
   · rfl
   · split <;> rfl
theorem pR (n:Int) (w:World) (h:eN n=true):Calls Tryz.prog 225 #[.int .i64 n] w fun e w'=>e = .returned (.tuple #[.string (bs (lz n)),.bool true])∧Below w.heap.size w w':=by
 have A:=zH (wW h);have hh:=h;simp only [eN,decide_eq_true_eq] at hh
 have J:(convert 286 9 (.slice (some ⟨w.heap.size,0,none⟩) 1 1)).run Tryz.prog (w.alloc (.cells #[.int .i32 n] 21)) = .ok (.string (bs (lz n))) (w.alloc (.cells #[.int .i32 n] 21)):=by
  have:=run_convert_runes (P:=Tryz.prog) (w.alloc (.cells #[.int .i32 n] 21)) 286 9 21 ⟨w.heap.size,0,none⟩ 1 1 [n] (by simp) Tryz.underlying286 Tryz.underlying21 Tryz.underlying9 (fun j D=>by
   match j,D with
   | 0,_=>simp [Addr.add,go_sem])
  rw [this];simp [runesBytes,A.out]
 have O:IntKind.i32.wrap n=n:=IntWalk.i32_in n (by omega);have I:n=9∨n=10∨n=13∨(32≤n∧n<55296)∨(57343<n∧n≤1114111):=by omega
 clear hh A;rcases I with rfl | rfl | rfl | ⟨h1,h2⟩ | ⟨h1,h2⟩
 all_goals
  try have e1:(n == 9)=false:=beq_eq_false_iff_ne.2 (by omega)
  try have e2:(n == 10)=false:=beq_eq_false_iff_ne.2 (by omega)
  try have e3:(n == 13)=false:=beq_eq_false_iff_ne.2 (by omega)
  go_enter Tryz.func225,Tryz.ntmps225
  go_wp2
  all_goals first | (exfalso; omega) | (go_ret2; exact ⟨rfl,(Below.refl _ _).alloc (Nat.le_refl _) _⟩)
theorem pS (n:Int) (w:World) (h:eN n=false):Calls Tryz.prog 225 #[.int .i64 n] w fun e w'=>e = .returned (.tuple #[.string (bs []),.bool false])∧Below w.heap.size w w':=by
 simp only [eN,decide_eq_false_iff_not] at h;have e1:(n == 9)=false:=beq_eq_false_iff_ne.2 (by omega);have e2:(n == 10)=false:=beq_eq_false_iff_ne.2 (by omega);have e3:(n == 13)=false:=beq_eq_false_iff_ne.2 (by omega);have A:n<32∨1114111<n∨(55296≤n∧n≤57343):=by omega
 clear h;rcases A with h1 | h1 | ⟨h1,h2⟩
 all_goals
  go_enter Tryz.func225,Tryz.ntmps225
  go_wp2
  all_goals first | (exfalso; omega) | (go_ret2; exact ⟨rfl,Below.refl _ _⟩)
theorem wJ (c:UInt8) (A:Bool) (b:Nat) (w:World) (D:w.cell? ⟨b,0,none⟩=some (.int .i64 (fb A))) :
    Calls Tryz.prog 223 #[.int .u8 c.toNat,.pointer (some ⟨b,0,none⟩)] w fun e w'=>e = .returned (.bool (bE A c))∧w=w':=by
 go_enter Tryz.func223,Tryz.ntmps223
 go_wp2_with (go_at_call 224; refine (mb c A _).mono ?_; rintro e w' ⟨rfl,rfl⟩)
 go_ret
 exact ⟨rfl,rfl⟩
theorem rV (s:S) (w:World) (A:Bool) (b:Nat) (O:w.cell? ⟨b,0,none⟩=some (.int .i64 (fb A))) (U:s.size≤9223372036854775807) :
    Calls Tryz.prog 195 #[.string s,.func (.func 223) #[] #[.pointer (some ⟨b,0,none⟩)]] w fun e w'=>e = .returned (.int .i64 (aI (bE A) s.data.toList))∧w=w':=by
 have I:=fc (bE A) s.data.toList;rw [au] at I;go_enter Tryz.func195,Tryz.ntmps195
 go_wp2
 go_loop [5] (fun i=>∃ k:Nat,k≤s.size∧i = .int .i64 k∧Hid (aI (bE A) s.data.toList=k+aI (bE A) (s.data.toList.drop k))) (fun i=>s.size - (intOf i).toNat)
 case atStart=>exact ⟨0,Nat.zero_le _,rfl,by show _=_; simp⟩
 case round =>
  obtain ⟨k,hk,rfl,H⟩:=hrel;by_cases hlt:k<s.size
  · have J:=zH (bW s k hlt)
    cases hp:bE A s[k]
    all_goals
     have D:=zH hp;clear hp;go_wp2_with (go_at_call 223; refine (wJ _ A b _ O).mono ?_; rintro e w' ⟨rfl,rfl⟩; rw [D.out])
    · go_ret
      exact ⟨dK (by rw [H.out,J.out]; simp [aI,D.out]),rfl⟩
    · go_round
      case rel=>exact ⟨k+1,by omega,by go_num,by show _=_; rw [H.out,J.out]; simp only [aI,D.out,if_true]; omega⟩
      case measure=>simp [intOf]; omega
  · go_wp2
    go_ret
    exact ⟨dK (by rw [H.out,List.drop_of_length_le (by rw [au]; omega)]; simp [aI]),rfl⟩
def eJ:AX→Value
 | .ok t n=>.tuple #[.string (bs t),.int .i64 n,.int .i64 0]
 | .bad e=>.tuple #[.string (bs []),.int .i64 0,.int .i64 e]
theorem lR (A:Bool) (l:Bs) (c:UInt8):fh A (l ++ [c])=fh A l*fb A+eh c A:=by
 unfold fh; rw [List.foldl_append]; rfl
theorem An (A:Bool) (l:Bs) (h : ∀ c ∈ l,bE A c=true):0≤fh A l∧fh A l<16 ^ l.length:=by
 induction l using kW with
 | h0=>simp [fh]
 | h1 l c D =>
  obtain ⟨h1,h2⟩:=D fun d I=>h d (by simp [I]);have h3:=h c (by simp);have J:=mf c A;simp only [bE,decide_eq_true_eq] at h3;rw [lR,List.length_append,List.length_singleton,Int.pow_succ];generalize (16:Int) ^ l.length=q at *;cases A <;> simp only [fb,if_true,Bool.false_eq_true,if_false] <;> omega
theorem nO (A:Bool) (l:Bs) (h : ∀ c ∈ l,bE A c=true) (D:l.length≤8):0≤fh A l∧fh A l<4294967296:=by
 obtain ⟨h1,h2⟩:=An A l h
 have h3:(16:Int) ^ l.length≤4294967296:=by
  generalize l.length=n at D;match n,D with
  | 0,_=>decide
  | 1,_=>decide
  | 2,_=>decide
  | 3,_=>decide
  | 4,_=>decide
  | 5,_=>decide
  | 6,_=>decide
  | 7,_=>decide
  | 8,_=>decide
 omega
theorem aY {B:Nat} {w w':World} (h:Below B w w') (n:Nat):Below B w (w'.drewN n):=⟨h.os,h.tape,h.output,h.size,fun k hk=>h.block k hk⟩
theorem lj {s t:Bs} {n:Nat} (h:bP s = .ok t n):1≤n∧n≤s.length:=by
 have hn : ∀ A a d,cg A a d = .ok t n→n≤a+d.length∧a+1≤n:=by
  intro A a d h;unfold cg at h;have:=fc (bE A) d
  by_cases h1:8<aI (bE A) d
  · rw [if_pos h1] at h; cases h
  · rw [if_neg h1] at h
    by_cases h2:aI (bE A) d=d.length
    · rw [if_pos h2] at h; cases h
    · rw [if_neg h2] at h
      by_cases h3:aI (bE A) d=0∨d[aI (bE A) d]?≠some 59
      · rw [if_pos h3] at h; cases h
      · rw [if_neg h3] at h
        split at h
        · cases h; omega
        · cases h
 cases s with
 | nil=>cases h
 | cons c r =>
  simp only [bP] at h;by_cases I:c=38
  · rw [if_neg (by simp [I])] at h
    split at h
    · split at h
      · have:=hn _ _ _ h; simp only [List.length_cons]; omega
      · have:=hn _ _ _ h; simp only [List.length_cons]; omega
    · by_cases D:aI ca r=r.length
      · rw [if_pos D] at h
        split at h <;> cases h
      · rw [if_neg D] at h
        have:=fc ca r
        split at h
        · split at h
          · cases h; simp only [List.length_cons]; omega
          · cases h
        · cases h
  · rw [if_pos I] at h; cases h
theorem bL (s p:S) (w:World):Calls Tryz.prog 184 #[.string s,.string p] w fun e w'=>e = .returned (.bool (p.data.toList.isPrefixOf s.data.toList))∧w=w' :=
 (Tryz.strings_HasPrefix s p w).mono fun _ _ ⟨h1,h2⟩=>⟨h1,h2.symm⟩
theorem wQ (s p:S) (m:Int) (w:World) (A:s.size<4294967281) (hm:w.cell? ⟨0,0,none⟩=some (.int .i64 m)):Calls Tryz.prog 140 #[.string s,.string p] w fun e w'=>e = .returned (.int .i64 (Lib.index s.data.toList p.data.toList))∧w=w' :=
 (Tryz.strings_Index s p m w A hm).mono fun _ _ ⟨h1,h2⟩=>⟨h1,h2.symm⟩
theorem lA (s:S) (w:World) (A:s.size<4611686018427387904):Calls Tryz.prog 122 #[.string s,.int .u8 10] w fun e w'=>e = .returned (.int .i64 ((s.size:Int) - (az s.data.toList).2))∧w=w' :=
 (Tryz.strings_LastIndexByte s 10 A w).mono fun _ _ ⟨h1,h2⟩=>⟨by rw [h1]; congr 2; have:=mx s.data.toList; rw [ng,au] at this; exact this,h2.symm⟩
theorem xh (s:S) (w:World):Calls Tryz.prog 127 #[.string s,.string ⟨#[10]⟩] w fun e w'=>e = .returned (.int .i64 ((az s.data.toList).1 - 1:Int))∧w=w' :=
 (Tryz.strings_Count_one s 10 w).mono fun _ _ ⟨h1,h2⟩=>⟨by rw [h1,qN]; unfold Lib.countByte; congr 2; omega,h2.symm⟩
theorem o9 (s:S) (w:World) (A:s.size<4611686018427387904):Calls Tryz.prog 128 #[.string s,.string ⟨#[10]⟩] w fun e w'=>e = .returned (.int .i64 ((s.size:Int) - (az s.data.toList).2))∧w=w' :=
 (Tryz.strings_LastIndex s ⟨#[10]⟩ A w).mono fun _ _ ⟨h1,h2⟩=>⟨by rw [h1]; congr 2; have:=o8 s.data.toList; rw [au] at this; exact this,h2.symm⟩
theorem tM {P:Program} {f:FuncId} {args:Array Value} {w:World} {n:Nat} {v:Value}
    (h:Calls P f args (w.drewN n) fun e w'=>e = .returned v∧w.drewN n=w'):Calls P f args (w.drewN n) fun e A=>e = .returned v ∧ ∃ m,A=w.drewN m :=
 Calls.quiet_of_same (h.mono fun _ _ ⟨he,hm⟩=>⟨he,hm.symm⟩)
def gz:Bs→AX
 | 120::r=>cg true 3 r
 | l=>cg false 2 l
theorem tV (s:S) (w:World) (hs:s.size≤1000000) :
    Calls Tryz.prog 214 #[.string s,.int .i64 2] w fun e w'=>e = .returned (eJ (gz s.data.toList))∧Below w.heap.size w w':=by
 obtain ⟨u,l,A,a,a8,hu,d2,bv,hx,ha,b0⟩ : ∃ (u:S) (l:Bs) (A:Bool) (a:Nat),(A=true→1≤s.size)∧u.data.toList=l∧u.size≤1000000∧gz s.data.toList=cg A a l∧([120]:Bs).isPrefixOf s.data.toList=A∧a=(if A then 3 else 2)∧u=(if A then s.extract 1 s.size else s):=by
  by_cases h:([120]:Bs).isPrefixOf s.data.toList=true
  · obtain ⟨r,hr⟩:=List.isPrefixOf_iff_prefix.1 h
    refine ⟨s.extract 1 s.size,r,true,3,fun _=>by rw [← au,← hr]; simp,?_,?_,by rw [← hr]; rfl,h,rfl,rfl⟩
    · rw [Lib.extract_to_end,← hr]; rfl
    · rw [← au,Lib.extract_to_end,List.length_drop,au]; omega
  · have h':([120]:Bs).isPrefixOf s.data.toList=false:=Bool.eq_false_iff.2 h
    refine ⟨s,s.data.toList,false,2,by simp,rfl,hs,?_,h',rfl,rfl⟩
    unfold gz;split
    · rename_i r hr; rw [hr] at h'; simp at h'
    · rfl
 have HS:Hid (gz s.data.toList=cg A a l):=bv;have HX:Hid ((⟨#[120]⟩:ByteArray).data.toList.isPrefixOf s.data.toList=A):=hx;have HU:=zH hu;clear bv hx hu;have hN:=fc (bE A) l;have b3:l.length=u.size:=by rw [← HU.out,au]
 have d3:aI (bE A) l≤u.size:=by omega
 have a7 : ∀ b w,w.cell? ⟨b,0,none⟩=some (.int .i64 (fb A))→Calls Tryz.prog 195 #[.string u,.func (.func 223) #[] #[.pointer (some ⟨b,0,none⟩)]] w fun e w'=>e = .returned (.int .i64 (aI (bE A) l))∧w=w':=by
  intro b w hc;have:=rV u w A b hc (by omega)
  rw [HU.out] at this; exact this
 have c8 : ∀ i,i<aI (bE A) l → ∃ c,l[i]? = some c∧bE A c=true:=fun i hi=>Ac hi;have dg:Hid (∀ c,l[aI (bE A) l]? = some c→bE A c=false):=fun c hc=>xV hc;generalize cT:aI (bE A) l=N at *;have D:=zH cT;have b4:=zH c8;clear cT hN c8 dg;cases A
 · simp only [Bool.false_eq_true,if_false] at ha b0
   subst ha;subst b0;try have cm:1≤s.size:=a8 rfl
   clear a8;simp only [fb,Bool.false_eq_true,if_false] at a7;have a5:=zH a7;clear a7;go_enter Tryz.func214,Tryz.ntmps214
   go_wp2_with (go_at_call 184; refine (bL _ _ _).mono ?_; rintro e w' ⟨rfl,rfl⟩; rw [HX.out])
   refine (a5.out _ _ (by simp [go_sem])).mono ?_
   rintro e w1 ⟨rfl,rfl⟩;clear a5 HX;try generalize s.extract 1 s.size=u at *
   by_cases h8:8<N
   · go_wp2
     go_ret3
     exact ⟨by rw [HS.out]; unfold cg; rw [D.out,if_pos h8]; rfl,(Below.refl _ _).alloc (Nat.le_refl _) _⟩
   · by_cases O:N=u.size
     · have e1:((N:Int) == (u.size:Int))=true:=beq_iff_eq.2 (by omega)
       have Z:=zH O;clear O;go_wp2
       go_ret3
       exact ⟨by rw [HS.out]; unfold cg; rw [D.out,if_neg h8,if_pos (by rw [b3,Z.out])]; rfl,(Below.refl _ _).alloc (Nat.le_refl _) _⟩
     · have hlt:N<u.size:=by omega
       have e1:((N:Int) == (u.size:Int))=false:=beq_eq_false_iff_ne.2 (by omega);have aa : ¬ N=l.length:=by rw [b3]; exact O
       clear O
       have U:l[N]? = some u[N]:=by
        have:=congrArg (·[0]?) (bW u N hlt)
        rw [HU.out] at this;simpa using this
       have HB:=zH U;clear U;by_cases h0:N=0
       · have e0:((N:Int) == 0)=true:=beq_iff_eq.2 (by omega)
         have Z:=zH h0;clear h0;go_wp2
         go_ret3
         exact ⟨by rw [HS.out]; unfold cg; rw [D.out,if_neg h8,if_neg aa,if_pos (.inl Z.out)]; rfl,(Below.refl _ _).alloc (Nat.le_refl _) _⟩
       · have e0:((N:Int) == 0)=false:=beq_eq_false_iff_ne.2 (by omega)
         by_cases J:u[N]=59
         rotate_left
         · have e2:(((u[N].toNat:Nat):Int) != 59)=true:=by
            rw [bne_iff_ne]; intro e; exact J (UInt8.toNat_inj.1 (by simpa using (by omega:u[N].toNat=59)))
           have Z:Hid (l[N]?≠some 59):=by rw [HB.out]; show ¬ _; simpa using J
           clear J HB;go_wp2
           go_ret3
           exact ⟨by rw [HS.out]; unfold cg; rw [D.out,if_neg h8,if_neg aa,if_pos (.inr Z.out)]; rfl,(Below.refl _ _).alloc (Nat.le_refl _) _⟩
         · have e2:(((u[N].toNat:Nat):Int) != 59)=false:=by rw [J]; decide
           have Z:Hid (l[N]? = some 59):=by rw [HB.out,J]; rfl
           clear J HB;go_wp2
           go_loopw [9,40] (fun q i wr=>∃ j:Nat,j≤N∧i = .int .i64 j∧q = .int .i64 (fh false (l.take j))∧Below w.heap.size w wr∧wr.cell? ⟨w.heap.size,0,none⟩=some (.int .i64 10)) (fun _ i _=>N - (intOf i).toNat)
           case atStart=>exact ⟨0,Nat.zero_le _,rfl,by simp [fh],(Below.refl _ _).alloc (Nat.le_refl _) _,by simp [go_sem]⟩
           case round =>
            obtain ⟨j,hj,rfl,rfl,U,a9⟩:=hrel
            have ac : ∀ c ∈ l.take j,bE false c=true:=fun c hc=>by
             obtain ⟨i,hi,rfl⟩:=List.mem_iff_getElem.1 hc;rw [List.length_take] at hi;obtain ⟨c,h1,h2⟩:=b4.out i (by omega);rw [List.getElem_take];obtain ⟨h3,h4⟩:=List.getElem?_eq_some_iff.1 h1;rw [h4]; exact h2
            obtain ⟨b1,b2⟩:=nO false (l.take j) ac (by rw [List.length_take]; omega);by_cases b8:j<N
            · have b7:j<u.size:=by omega
              have al:l[j]? = some u[j]:=by
               have:=congrArg (·[0]?) (bW u j b7)
               rw [HU.out] at this;simpa using this
              have bb:bE false u[j]=true:=by
               obtain ⟨c,h1,h2⟩:=b4.out j b8;rw [al] at h1; cases h1; exact h2
              have v1:0≤eh u[j] false:=by simpa [bE] using bb
              have v2:=(mf u[j] false).2
              have cf:Hid (fh false (l.take (j+1))=fh false (l.take j)*10+eh u[j] false):=by
               show _=_
               have:l.take (j+1)=l.take j ++ [u[j]]:=by rw [List.take_add_one,al]; rfl
               rw [this,lR]; rfl
              have bc:=zH (fun w=>mb u[j] false w);simp only [fb,Bool.false_eq_true,if_false] at bc;clear ac al bb;generalize fh false (l.take j)=K at *;generalize eh u[j] false=V at *;have w1:=IntWalk.i64_in (K*10) (by omega);have w2:=IntWalk.i64_in (K*10+V) (by omega);go_wp2
              go_quiet ((go_at_call 224; exact tM (bc.out _)))
              clear w1 w2;go_wp2
              go_roundw
              case rel=>exact ⟨j+1,by omega,by go_num,by rw [cf.out],aY U _,a9⟩
              case measure=>simp [intOf]; omega
            · obtain rfl:j=N:=by omega
              have ah:aI (bE false) l=j:=D.out;cases I:eN (fh false (l.take j))
              · have HO:=zH I
                have a6:=zH (fun w=>pS _ w I);clear I ac ah;generalize hK:fh false (l.take j)=K at *;have HK:=zH hK;clear hK;go_wp2_with (go_at_call 225; refine (a6.out _).mono ?_; rintro e w2 ⟨rfl,a0⟩)
                go_ret3
                refine ⟨?_,U.trans (a0.mono U.size)⟩
                rw [HS.out]; unfold cg;rw [D.out,if_neg h8,if_neg aa,if_neg (by rw [Z.out]; simp [h0]),HK.out,HO.out]; rfl
              · have HO:=zH I
                have a6:=zH (fun w=>pR _ w I);clear I ac ah;generalize hK:fh false (l.take j)=K at *;have HK:=zH hK;clear hK;go_wp2_with (go_at_call 225; refine (a6.out _).mono ?_; rintro e w2 ⟨rfl,a0⟩)
                go_ret3
                refine ⟨?_,U.trans (a0.mono U.size)⟩
                rw [HS.out]; unfold cg;rw [D.out,if_neg h8,if_neg aa,if_neg (by rw [Z.out]; simp [h0]),HK.out,HO.out];simp only [if_true,eJ];rw [show ((2+j+1:Nat):Int)=2+(j:Int)+1 by omega]; rfl
 · simp only [if_true] at ha b0
   subst ha;subst b0;try have cm:1≤s.size:=a8 rfl
   clear a8;simp only [fb,if_true] at a7;have a5:=zH a7;clear a7;go_enter Tryz.func214,Tryz.ntmps214
   go_wp2_with (go_at_call 184; refine (bL _ _ _).mono ?_; rintro e w' ⟨rfl,rfl⟩; rw [HX.out])
   refine (a5.out _ _ (by simp [go_sem])).mono ?_
   rintro e w1 ⟨rfl,rfl⟩;clear a5 HX;try generalize s.extract 1 s.size=u at *
   by_cases h8:8<N
   · go_wp2
     go_ret3
     exact ⟨by rw [HS.out]; unfold cg; rw [D.out,if_pos h8]; rfl,(Below.refl _ _).alloc (Nat.le_refl _) _⟩
   · by_cases O:N=u.size
     · have e1:((N:Int) == (u.size:Int))=true:=beq_iff_eq.2 (by omega)
       have Z:=zH O;clear O;go_wp2
       go_ret3
       exact ⟨by rw [HS.out]; unfold cg; rw [D.out,if_neg h8,if_pos (by rw [b3,Z.out])]; rfl,(Below.refl _ _).alloc (Nat.le_refl _) _⟩
     · have hlt:N<u.size:=by omega
       have e1:((N:Int) == (u.size:Int))=false:=beq_eq_false_iff_ne.2 (by omega);have aa : ¬ N=l.length:=by rw [b3]; exact O
       clear O
       have U:l[N]? = some u[N]:=by
        have:=congrArg (·[0]?) (bW u N hlt)
        rw [HU.out] at this;simpa using this
       have HB:=zH U;clear U;by_cases h0:N=0
       · have e0:((N:Int) == 0)=true:=beq_iff_eq.2 (by omega)
         have Z:=zH h0;clear h0;go_wp2
         go_ret3
         exact ⟨by rw [HS.out]; unfold cg; rw [D.out,if_neg h8,if_neg aa,if_pos (.inl Z.out)]; rfl,(Below.refl _ _).alloc (Nat.le_refl _) _⟩
       · have e0:((N:Int) == 0)=false:=beq_eq_false_iff_ne.2 (by omega)
         by_cases J:u[N]=59
         rotate_left
         · have e2:(((u[N].toNat:Nat):Int) != 59)=true:=by
            rw [bne_iff_ne]; intro e; exact J (UInt8.toNat_inj.1 (by simpa using (by omega:u[N].toNat=59)))
           have Z:Hid (l[N]?≠some 59):=by rw [HB.out]; show ¬ _; simpa using J
           clear J HB;go_wp2
           go_ret3
           exact ⟨by rw [HS.out]; unfold cg; rw [D.out,if_neg h8,if_neg aa,if_pos (.inr Z.out)]; rfl,(Below.refl _ _).alloc (Nat.le_refl _) _⟩
         · have e2:(((u[N].toNat:Nat):Int) != 59)=false:=by rw [J]; decide
           have Z:Hid (l[N]? = some 59):=by rw [HB.out,J]; rfl
           clear J HB;go_wp2
           go_loopw [9,40] (fun q i wr=>∃ j:Nat,j≤N∧i = .int .i64 j∧q = .int .i64 (fh true (l.take j))∧Below w.heap.size w wr∧wr.cell? ⟨w.heap.size,0,none⟩=some (.int .i64 16)) (fun _ i _=>N - (intOf i).toNat)
           case atStart=>exact ⟨0,Nat.zero_le _,rfl,by simp [fh],(Below.refl _ _).alloc (Nat.le_refl _) _,by simp [go_sem]⟩
           case round =>
            obtain ⟨j,hj,rfl,rfl,U,a9⟩:=hrel
            have ac : ∀ c ∈ l.take j,bE true c=true:=fun c hc=>by
             obtain ⟨i,hi,rfl⟩:=List.mem_iff_getElem.1 hc;rw [List.length_take] at hi;obtain ⟨c,h1,h2⟩:=b4.out i (by omega);rw [List.getElem_take];obtain ⟨h3,h4⟩:=List.getElem?_eq_some_iff.1 h1;rw [h4]; exact h2
            obtain ⟨b1,b2⟩:=nO true (l.take j) ac (by rw [List.length_take]; omega);by_cases b8:j<N
            · have b7:j<u.size:=by omega
              have al:l[j]? = some u[j]:=by
               have:=congrArg (·[0]?) (bW u j b7)
               rw [HU.out] at this;simpa using this
              have bb:bE true u[j]=true:=by
               obtain ⟨c,h1,h2⟩:=b4.out j b8;rw [al] at h1; cases h1; exact h2
              have v1:0≤eh u[j] true:=by simpa [bE] using bb
              have v2:=(mf u[j] true).2
              have cf:Hid (fh true (l.take (j+1))=fh true (l.take j)*16+eh u[j] true):=by
               show _=_
               have:l.take (j+1)=l.take j ++ [u[j]]:=by rw [List.take_add_one,al]; rfl
               rw [this,lR]; rfl
              have bc:=zH (fun w=>mb u[j] true w);simp only [fb,if_true] at bc;clear ac al bb;generalize fh true (l.take j)=K at *;generalize eh u[j] true=V at *;have w1:=IntWalk.i64_in (K*16) (by omega);have w2:=IntWalk.i64_in (K*16+V) (by omega);go_wp2
              go_quiet ((go_at_call 224; exact tM (bc.out _)))
              clear w1 w2;go_wp2
              go_roundw
              case rel=>exact ⟨j+1,by omega,by go_num,by rw [cf.out],aY U _,a9⟩
              case measure=>simp [intOf]; omega
            · obtain rfl:j=N:=by omega
              have ah:aI (bE true) l=j:=D.out;cases I:eN (fh true (l.take j))
              · have HO:=zH I
                have a6:=zH (fun w=>pS _ w I);clear I ac ah;generalize hK:fh true (l.take j)=K at *;have HK:=zH hK;clear hK;go_wp2_with (go_at_call 225; refine (a6.out _).mono ?_; rintro e w2 ⟨rfl,a0⟩)
                go_ret3
                refine ⟨?_,U.trans (a0.mono U.size)⟩
                rw [HS.out]; unfold cg;rw [D.out,if_neg h8,if_neg aa,if_neg (by rw [Z.out]; simp [h0]),HK.out,HO.out]; rfl
              · have HO:=zH I
                have a6:=zH (fun w=>pR _ w I);clear I ac ah;generalize hK:fh true (l.take j)=K at *;have HK:=zH hK;clear hK;go_wp2_with (go_at_call 225; refine (a6.out _).mono ?_; rintro e w2 ⟨rfl,a0⟩)
                go_ret3
                refine ⟨?_,U.trans (a0.mono U.size)⟩
                rw [HS.out]; unfold cg;rw [D.out,if_neg h8,if_neg aa,if_neg (by rw [Z.out]; simp [h0]),HK.out,HO.out];simp only [if_true,eJ];rw [show ((3+j+1:Nat):Int)=3+(j:Int)+1 by omega]; rfl
theorem t7 (s:S) (w:World) (h:nR s.data.toList=none):Calls Tryz.prog 216 #[.string s] w fun e w'=>e = .returned (.string ⟨#[]⟩)∧w=w':=by
 refine (pN s w).mono fun e w' ⟨h1,h2⟩=>⟨?_,h2⟩
 rw [h1]; unfold qM; rw [h]; rfl
theorem tZ (s:S) (c:UInt8) (w:World) (h:nR s.data.toList=some c):Calls Tryz.prog 216 #[.string s] w fun e w'=>e = .returned (.string ⟨#[c]⟩)∧w=w':=by
 refine (pN s w).mono fun e w' ⟨h1,h2⟩=>⟨?_,h2⟩
 rw [h1]; unfold qM; rw [h]; rfl
def ce:List S:=[⟨#[108,116]⟩,⟨#[103,116]⟩,⟨#[97,109,112]⟩,⟨#[113,117,111,116]⟩,⟨#[97,112,111,115]⟩]
def refAny (r:Bs):List S→Bool
 | []=>false
 | t::l=>r.isPrefixOf t.data.toList || refAny r l
theorem vU (r:Bs):refAny r ce=(r.isPrefixOf BK || r.isPrefixOf BL || r.isPrefixOf zU || r.isPrefixOf uJ || r.isPrefixOf uK):=by
 simp only [refAny,ce,Bool.or_false,Bool.or_assoc]; rfl
theorem Ag (r:Bs):bP (38::35::r)=gz r:=by
 simp only [bP];rw [if_neg (by simp)];cases r with
 | nil=>rfl
 | cons x r =>
  by_cases hx:x=120
  · subst hx; rfl
  · unfold gz
    simp [hx]
theorem yd (r:Bs) (h:r.head?≠some 35):bP (38::r)=(if aI ca r=r.length then
        if refAny r ce then .bad 13 else .bad 12
      else match nR (r.take (aI ca r)) with
       | some t=>if r[aI ca r]? = some 59 then .ok [t] (aI ca r+2) else .bad 12
       | none=>.bad 12):=by
 rw [vU];simp only [bP];rw [if_neg (by simp)];split
 · simp at h
 · rfl
theorem Ah (s:S) (w:World) (hs:s.size≤1000000) :
    Calls Tryz.prog 191 #[.string s] w fun e w'=>e = .returned (eJ (bP s.data.toList))∧Below w.heap.size w w':=by
 have ad:=bH s;by_cases h0:s.size=0
 · have hE:s.toList.isEmpty=true:=by rw [ad]; simpa using h0
   clear ad;have hd:s.data.toList=[]:=List.eq_nil_of_length_eq_zero (by rw [au,h0]);rw [hd];clear hd h0;go_enter Tryz.func191,Tryz.ntmps191
   go_wp2
   go_ret3
   exact ⟨rfl,Below.refl _ _⟩
 · have hE:s.toList.isEmpty=false:=by rw [ad]; simpa using h0
   clear ad;have h1:0<s.size:=by omega
   have HD:=zH (bW s 0 h1);clear h0;by_cases I:s[0]=38
   rotate_left
   · have e2:(((s[0].toNat:Nat):Int) != 38)=true:=by
      rw [bne_iff_ne]; intro e; exact I (UInt8.toNat_inj.1 (by simpa using (by omega:s[0].toNat=38)))
     have O:Hid (bP s.data.toList = .bad 12):=by
      have h2:=HD.out;rw [List.drop_zero] at h2;rw [h2]; show _=_; simp only [bP]; rw [if_pos I]
     clear I;go_enter Tryz.func191,Tryz.ntmps191
     go_wp2
     go_ret3
     exact ⟨by rw [O.out]; rfl,Below.refl _ _⟩
   · have e2:(((s[0].toNat:Nat):Int) != 38)=false:=by rw [I]; decide
     obtain ⟨r,A⟩ : ∃ r,s.data.toList=38::r:=⟨s.data.toList.drop 1,by have:=HD.out; rw [List.drop_zero,I] at this; exact this⟩;clear I HD;have ba:r.length+1=s.size:=by rw [← au,A]; simp
     by_cases hn:r.head? = some 35
     · obtain ⟨q,rfl⟩ : ∃ q,r=35::q:=by
        cases r with
        | nil=>cases hn
        | cons x q=>simp at hn; exact ⟨q,by rw [hn]⟩
       have HX:Hid ((⟨#[38,35]⟩:ByteArray).data.toList.isPrefixOf s.data.toList=true):=by rw [A]; rfl
       have HU:Hid ((s.extract 2 s.size).data.toList=q):=by rw [Lib.extract_to_end,A]; rfl
       have h2:2≤s.size:=by simp at ba; omega
       have a5:(s.extract 2 s.size).size≤1000000:=by rw [← au,HU.out]; simp at ba; omega
       have O:Hid (bP s.data.toList=gz q):=by rw [A]; exact Ag q
       clear A hn;go_enter Tryz.func191,Tryz.ntmps191
       go_wp2_with (go_at_call 184; refine (bL _ _ _).mono ?_; rintro e w' ⟨rfl,rfl⟩; rw [HX.out])
       generalize s.extract 2 s.size=u at *;refine (tV u _ a5).mono ?_
       rintro e w' ⟨rfl,hb⟩;rw [HU.out];cases hq:gz q
       all_goals
        have HQ:=zH hq;clear hq;simp only [eJ];go_wp2
        go_ret3
        exact ⟨by rw [O.out,HQ.out]; rfl,hb⟩
     · have HX:Hid ((⟨#[38,35]⟩:ByteArray).data.toList.isPrefixOf s.data.toList=false):=by
        rw [A]; show ([38,35]:Bs).isPrefixOf (38::r)=false;cases r with
        | nil=>rfl
        | cons x q=>simp only [List.head?_cons,Option.some.injEq] at hn; simp [List.isPrefixOf,Ne.symm hn]
       have HU:Hid ((s.extract 1 s.size).data.toList=r):=by rw [Lib.extract_to_end,A]; rfl
       have a5:(s.extract 1 s.size).size≤1000000:=by rw [← au,HU.out]; omega
       have hN:=fc ca r;have a6:=yd r hn;rw [← A] at a6;have O:=zH a6;clear a6
       have HV:Hid ((s.extract 1 (1+aI ca r)).data.toList=r.take (aI ca r)):=by
        rw [Lib.extract_data,A]; show _=_; simp
       have b8:(s.extract 1 (1+aI ca r)).size≤1000000:=by rw [← au,HV.out,List.length_take]; omega
       have ag:Hid (∀ w,Calls Tryz.prog 195 #[.string (s.extract 1 s.size),.func (.func 215) #[] #[]] w fun e w'=>e = .returned (.int .i64 (aI ca r))∧w=w'):=fun w=>by
        have:=oU (s.extract 1 s.size) w (by omega)
        rw [HU.out] at this; exact this
       have aa : ∀ h:1+aI ca r<s.size,r[aI ca r]? = some (s[1+aI ca r]'h):=fun h=>by
        have:=congrArg (·[0]?) (bW s (1+aI ca r) h)
        rw [A] at this;simpa [Nat.add_comm 1] using this
       clear hn A HU a5;generalize bv:aI ca r=N at *;clear bv;have n1:(1:Int)≤1+(N:Int):=by omega
       by_cases J:N=r.length
       · have e1:(1+(N:Int) == (s.size:Int))=true:=beq_iff_eq.2 (by omega)
         have b9:1+N≤s.size:=by omega
         have HE:=zH J;clear aa J;have b0:Hid (r.take N=r):=by rw [HE.out]; exact List.take_length
         have HA:Hid (∀ j (h:j<5),∀ w,Calls Tryz.prog 184 #[.string (ce[j]'h),.string (s.extract 1 (1+N))] w fun e w'=>e = .returned (.bool (r.isPrefixOf (ce[j]'h).data.toList))∧w=w'):=fun j h w=>by
          have:=bL (ce[j]'h) (s.extract 1 (1+N)) w
          rw [HV.out,b0.out] at this; exact this
         have Z : ∀ j (h:j<5),(w.alloc (.cells #[.string ⟨#[108,116]⟩,.string ⟨#[103,116]⟩,.string ⟨#[97,109,112]⟩,.string ⟨#[113,117,111,116]⟩,.string ⟨#[97,112,111,115]⟩] 9)).cell? ⟨w.heap.size,j,none⟩=some (.string (ce[j]'h)):=fun j h=>by
          match j,h with
          | 0,_=>simp [go_sem,ce]
          | 1,_=>simp [go_sem,ce]
          | 2,_=>simp [go_sem,ce]
          | 3,_=>simp [go_sem,ce]
          | 4,_=>simp [go_sem,ce]
         have HC:=zH Z;clear Z;go_enter Tryz.func191,Tryz.ntmps191
         go_wp2_with (first | (go_at_call 184; refine (bL _ _ _).mono ?_; rintro e w' ⟨rfl,rfl⟩; rw [HX.out]) | (go_at_call 195; refine (ag.out _).mono ?_; rintro e w' ⟨rfl,rfl⟩))
         generalize s.extract 1 (1+N)=v at *;go_loop [8,40] (fun _ i=>∃ j:Nat,j≤5∧i = .int .i64 j∧Hid (refAny r ce=refAny r (ce.drop j))) (fun _ i=>5 - (intOf i).toNat)
         case atStart=>exact ⟨0,by omega,rfl,rfl⟩
         case round =>
          obtain ⟨j,hj,rfl,H⟩:=hrel;by_cases U:j<5
          · have b3:=HC.out j U
            have HD:Hid (refAny r (ce.drop j)=(r.isPrefixOf (ce[j]'U).data.toList || refAny r (ce.drop (j+1)))):=by
             rw [List.drop_eq_getElem_cons (show j<ce.length from U)]; rfl
            have b2:=zH (HA.out j U);generalize ce[j]'U=t at *;cases hp:r.isPrefixOf t.data.toList
            all_goals
             have HP:=zH hp;clear hp;go_wp2_with (go_at_call 184; refine (b2.out _).mono ?_; rintro e w' ⟨rfl,rfl⟩; rw [HP.out])
            · go_round
              case rel=>exact ⟨j+1,by omega,by go_num,by show _=_; rw [H.out,HD.out,HP.out]; rfl⟩
              case measure=>simp [intOf]; omega
            · go_ret3
              exact ⟨by rw [O.out,if_pos HE.out,H.out,HD.out,HP.out]; rfl,(Below.refl _ _).alloc (Nat.le_refl _) _⟩
          · obtain rfl:j=5:=by omega
            go_wp2
            go_ret3
            exact ⟨by rw [O.out,if_pos HE.out,H.out]; rfl,(Below.refl _ _).alloc (Nat.le_refl _) _⟩
       · have e1:(1+(N:Int) == (s.size:Int))=false:=beq_eq_false_iff_ne.2 (by omega)
         have hlt:1+N<s.size:=by omega
         have hc:=aa hlt;have HC:=zH hc;clear aa hc;have HE:=zH J;clear J;cases hm:nR (r.take N) with
         | none =>
          have HM:=zH hm;have ah:Hid (∀ w,Calls Tryz.prog 216 #[.string (s.extract 1 (1+N))] w fun e w'=>e = .returned (.string ⟨#[]⟩)∧w=w'):=fun w=>t7 _ w (by rw [HV.out]; exact hm);clear hm;go_enter Tryz.func191,Tryz.ntmps191
          go_wp2_with (first | (go_at_call 184; refine (bL _ _ _).mono ?_; rintro e w' ⟨rfl,rfl⟩; rw [HX.out]) | (go_at_call 195; refine (ag.out _).mono ?_; rintro e w' ⟨rfl,rfl⟩) | (go_at_call 216; refine (ah.out _).mono ?_; rintro e w' ⟨rfl,rfl⟩))
          go_ret3
          exact ⟨by rw [O.out,if_neg HE.out,HM.out]; rfl,Below.refl _ _⟩
         | some c =>
          have HM:=zH hm;have ah:Hid (∀ w,Calls Tryz.prog 216 #[.string (s.extract 1 (1+N))] w fun e w'=>e = .returned (.string ⟨#[c]⟩)∧w=w'):=fun w=>tZ _ c w (by rw [HV.out]; exact hm);clear hm;by_cases D:s[1+N]=59
          · have e3:(((s[1+N].toNat:Nat):Int) == 59)=true:=by rw [D]; decide
            have HT:=zH D;clear D;go_enter Tryz.func191,Tryz.ntmps191
            go_wp2_with (first | (go_at_call 184; refine (bL _ _ _).mono ?_; rintro e w' ⟨rfl,rfl⟩; rw [HX.out]) | (go_at_call 195; refine (ag.out _).mono ?_; rintro e w' ⟨rfl,rfl⟩) | (go_at_call 216; refine (ah.out _).mono ?_; rintro e w' ⟨rfl,rfl⟩))
            go_ret3
            exact ⟨by rw [O.out,if_neg HE.out,HM.out]; simp only []; rw [if_pos (by rw [HC.out,HT.out])]; simp only [eJ]; rw [show ((N+2:Nat):Int)=(N:Int)+2 by omega]; rfl,Below.refl _ _⟩
          · have e3:(((s[1+N].toNat:Nat):Int) == 59)=false:=by
             rw [beq_eq_false_iff_ne]; intro e; exact D (UInt8.toNat_inj.1 (by simpa using (by omega:s[1+N].toNat=59)))
            have HT:=zH D;clear D;go_enter Tryz.func191,Tryz.ntmps191
            go_wp2_with (first | (go_at_call 184; refine (bL _ _ _).mono ?_; rintro e w' ⟨rfl,rfl⟩; rw [HX.out]) | (go_at_call 195; refine (ag.out _).mono ?_; rintro e w' ⟨rfl,rfl⟩) | (go_at_call 216; refine (ah.out _).mono ?_; rintro e w' ⟨rfl,rfl⟩))
            go_ret3
            exact ⟨by rw [O.out,if_neg HE.out,HM.out]; simp only []; rw [if_neg (by rw [HC.out]; simpa using HT.out)]; rfl,Below.refl _ _⟩
theorem ai {P:Program} {c:Code} {Q:Exit→Act→World→Prop} {a:Act} {w:World} (h : ∀ W,W=w→c.wp P Q a W):c.wp P Q a w:=h w rfl
theorem Calls.world {P:Program} {f:FuncId} {args:Array Value} {w:World} {R:Ending→World→Prop} (h : ∀ W,W=w→Calls P f args W R):Calls P f args w R:=h w rfl
def aB (s:S) (l:Bs):Nat:=s.size - l.length
theorem aT {s:S} {l:Bs} (h:l <:+ s.data.toList):aB s l+l.length=s.size:=by
 have:=h.length_le
 rw [au] at this;unfold aB; omega
theorem nE {s:S} {l:Bs} (h:l <:+ s.data.toList):s.data.toList.drop (aB s l)=l:=by
 have:=List.suffix_iff_eq_drop.1 h
 rw [au] at this;exact this.symm
theorem sh {s:S} {l:Bs} (h:l <:+ s.data.toList):s.extract (aB s l) s.size=bs l:=by
 rw [Lib.extract_eq,nE h];unfold bs;rw [List.take_of_length_le (by have:=aT h; omega)]
theorem qJ {s:S} {l:Bs} {c:UInt8} (h:c::l <:+ s.data.toList) (hk:aB s (c::l)<s.size):s[aB s (c::l)]=c:=by
 have h1:=bW s _ hk;rw [nE h] at h1;exact (List.cons.inj h1).1.symm
theorem ky {s:S} {l:Bs} {c:UInt8} (h:c::l <:+ s.data.toList):aB s (c::l)<s.size:=by
 have:=aT h
 simp only [List.length_cons] at this; omega
theorem fU {s:S} {l:Bs} {c:UInt8} (h:c::l <:+ s.data.toList):aB s l=aB s (c::l)+1:=by
 have:=aT h; have:=aT (dP h)
 simp only [List.length_cons] at *; omega
theorem m7 (s:S):aB s []=s.size:=by unfold aB; simp
structure Rd (w:World) (b:Nat) (s:S) (l:Bs) (ov:Value):Prop where
 box:ak w b [.string s,.int .i64 (aB s l:Nat),ov]
 suf:l <:+ s.data.toList
theorem ak.grownB {w w':World} {b:Nat} {cs:List Value} {r:Nat} (h:ak w b cs) (D:w.grownBy w' (some r)) (A:b≠r):ak w' b cs:=h.grown D (by simpa using A)
theorem Rd.c0 {w:World} {b:Nat} {s:S} {l:Bs} {ov:Value} (h:Rd w b s l ov):w.cell? ⟨b,0,none⟩=some (.string s):=h.box.cell 0 _ rfl
theorem Rd.c1 {w:World} {b:Nat} {s:S} {l:Bs} {ov:Value} (h:Rd w b s l ov):w.cell? ⟨b,1,none⟩=some (.int .i64 (aB s l:Nat)):=h.box.cell 1 _ rfl
theorem Rd.c2 {w:World} {b:Nat} {s:S} {l:Bs} {ov:Value} (h:Rd w b s l ov):w.cell? ⟨b,2,none⟩=some ov:=h.box.cell 2 _ rfl
theorem Rd.f1 {w:World} {b:Nat} {s:S} {l:Bs} {ov:Value} (h:Rd w b s l ov):w.frozen? ⟨b,1,none⟩=false:=h.box.free 1
theorem Rd.below {w w':World} {b:Nat} {s:S} {l:Bs} {ov:Value} (h:Rd w b s l ov) (A:Below w.heap.size w w'):Rd w' b s l ov:=⟨h.box.below A h.box.lt,h.suf⟩
theorem Rd.drewN {w:World} {b:Nat} {s:S} {l:Bs} {ov:Value} (h:Rd w b s l ov) (n:Nat):Rd (w.drewN n) b s l ov:=⟨h.box.drewN n,h.suf⟩
def Qt (v:Value) (w:World) (e:Ending) (w':World):Prop:=e = .returned v ∧ ∃ n,w'=w.drewN n
theorem Qt.quiet {P:Program} {f:FuncId} {args:Array Value} {w:World} {n:Nat} {v:Value} (h:Calls P f args (w.drewN n) (Qt v (w.drewN n))):Calls P f args (w.drewN n) fun e A=>e = .returned v ∧ ∃ m,A=w.drewN m:=Calls.quiet_of h
theorem ff (b:Nat) (s:S) (l:Bs) (ov:Value) (w:World) (h:Rd w b s l ov) :
    Calls Tryz.prog 185 #[.pointer (some ⟨b,0,none⟩)] w (Qt (.string (bs l)) w):=by
 have c0:=h.c0;have c1:=h.c1;have hp:=aT h.suf;have A:=zH (sh h.suf);have h1:aB s l≤s.size:=by omega
 clear h;generalize aB s l=p at *;have h2:(p:Int)≤(s.size:Int):=by omega
 go_enter Tryz.func185,Tryz.ntmps185
 go_wp2
 go_quiet (fail)
 go_wp2
 go_ret
 exact ⟨by rw [A.out]; rfl,⟨_,rfl⟩⟩
theorem ch (b:Nat) (s:S) (l:Bs) (ov:Value) (w:World) (h:Rd w b s l ov) :
    Calls Tryz.prog 120 #[.pointer (some ⟨b,0,none⟩)] w (Qt (.bool l.isEmpty) w):=by
 have c0:=h.c0;have c1:=h.c1;have hp:=aT h.suf;clear h;generalize aB s l=p at *;go_enter Tryz.func120,Tryz.ntmps120
 go_wp2
 go_quiet (fail)
 go_wp2
 go_ret
 refine ⟨aD ?_,⟨_,rfl⟩⟩
 cases l with
 | nil=>simp at hp ⊢; omega
 | cons c l=>simp at hp ⊢; omega
theorem bQ (b:Nat) (s:S) (l:Bs) (ov:Value) (t:S) (w:World) (h:Rd w b s l ov) :
    Calls Tryz.prog 149 #[.pointer (some ⟨b,0,none⟩),.string t] w (Qt (.bool (t.data.toList.isPrefixOf l)) w):=by
 have A:=zH (fun w=>bL (bs l) t w);rw [cH] at A;go_enter Tryz.func149,Tryz.ntmps149
 go_wp2_with fail
 refine (ff b s l ov w h).mono ?_
 rintro e w' ⟨rfl,n,rfl⟩;generalize bs l=u at *;go_wp2_with fail
 refine (A.out _).mono ?_
 rintro e w' ⟨rfl,rfl⟩;go_wp2
 go_ret
 exact ⟨rfl,⟨_,rfl⟩⟩
def kF (e:Int) (n:Nat):Value:=.iface 203 (.agg #[.int .i64 e,.int .i64 n])
theorem cY (e:Int) (n:Nat) (w:World) :
    Calls Tryz.prog 187 #[.int .i64 e,.int .i64 n] w fun x w'=>x = .panicked [{ v:=kF e n,recovered:=false }]∧w=w':=by
 go_enter Tryz.func187,Tryz.ntmps187
 go_wp2
 exact ⟨rfl,rfl,rfl⟩
theorem aX (w:World) (n:Nat) (row:Option Nat):w.grownBy (w.drewN n) row:=⟨rfl,rfl,rfl,Nat.le_refl _,fun _ _ _=>rfl⟩
theorem Aw {w w':World} (h:Below w.heap.size w w') (row:Option Nat):w.grownBy w' row:=⟨h.os,h.tape,h.output,h.size,fun k hk _=>h.block k hk⟩
theorem ak.set {w:World} {b:Nat} {cs:List Value} (h:ak w b cs) (j:Nat) (u:Value):ak (w.setCell ⟨b,j,none⟩ u) b (cs.set j u):=by
 refine ⟨by simpa [World.setCell] using h.lt,fun i v A=>?_,fun i=>?_⟩
 · rw [List.getElem?_set] at A
   split at A
   · rename_i D
     subst D;split at A
     · rename_i hlt
       cases A
       have h1:=h.cell j cs[j] (by simp [hlt]);exact World.cell?_setCell_same w _ _ h1
     · cases A
   · rename_i D
     rw [World.cell?_setCell_other w _ _ _ (by simp)];exact h.cell i v A
 · have:=h.free i
   simpa [World.frozen?_setCell] using this
theorem Rd.move {w:World} {b:Nat} {s:S} {l:Bs} {ov:Value} (h:Rd w b s l ov) {r:Bs} {v:Value} (D:r <:+ s.data.toList) (A:v = .int .i64 (aB s r:Nat)):Rd (w.setCell ⟨b,1,none⟩ v) b s r ov:=by
 subst A;exact ⟨h.box.set 1 _,D⟩
theorem dC {α:Type} {C:α→List Value} {n:Nat} (A : ∀ x,(C x).length=n) : ∀ (l:List α) (i j:Nat) (x:α),l[i]? = some x→j<n→(l.flatMap C)[i*n+j]? = (C x)[j]?
 | [],i,j,x,h,_=>by simp at h
 | y::l,0,j,x,h,D=>by
  simp at h; subst h;rw [List.flatMap_cons,List.getElem?_append_left (by rw [A]; omega)]; simp
 | y::l,i+1,j,x,h,D=>by
  have h':l[i]? = some x:=by simpa using h
  rw [List.flatMap_cons,List.getElem?_append_right (by rw [A,Nat.add_mul]; omega),A,← dC A l i j x h' D];congr 1
  rw [Nat.add_mul]; omega
theorem bG {α:Type} {C:α→List Value} {n:Nat} (D : ∀ x,(C x).length=n) (l:List α):(l.flatMap C).length=l.length*n:=by
 induction l with
 | nil=>simp
 | cons x l A=>rw [List.flatMap_cons,List.length_append,D,A,List.length_cons,Nat.add_mul]; omega
theorem kD {α:Type} {C:α→List Value} {n:Nat} (I : ∀ x,(C x).length=n) (hn:0<n) {l:List α} {j:Nat} {u:Value} (h:(l.flatMap C)[j]? = some u) :
    ∃ x,l[j / n]? = some x∧(C x)[j % n]? = some u:=by
 have A:j<(l.flatMap C).length:=(List.getElem?_eq_some_iff.1 h).1;rw [bG I] at A;have D:j / n<l.length:=Nat.div_lt_of_lt_mul (by rw [Nat.mul_comm]; exact A);refine ⟨l[j / n],by simp [D],?_⟩
 rw [← dC I l (j / n) (j % n) l[j / n] (by simp [D]) (Nat.mod_lt _ hn),Nat.div_add_mod' j n];exact h
def aj {α:Type} (base:Nat) (E:TypeId) (n:Nat) (C:α→List Value) (w:World) (v:Value) (l:List α):Prop:=w.ownsRow base E n v l.length (l.flatMap C)
theorem aj.slice {α:Type} {base:Nat} {E:TypeId} {n:Nat} {C:α→List Value} {w:World} {v:Value} {l:List α} (h:aj base E n C w v l) (J : ∀ x,(C x).length=n):af n C w v l:=by
 obtain ⟨h1,h2⟩:=h;rcases h2 with ⟨rfl,h0⟩ | ⟨g,cap,O,rfl,hb,I,D,hm,hcs,U⟩
 · obtain rfl:=List.eq_nil_of_length_eq_zero h0
   exact af.nil
 · refine ⟨_,cap,rfl,D,hm,by simp,fun i x hx=>⟨g,0,rfl,(Array.getElem?_eq_some_iff.1 I).1,fun j u A=>?_⟩⟩
   have Z:j<n:=by rw [← J x]; exact (List.getElem?_eq_some_iff.1 A).1
   have hi:i<l.length:=(List.getElem?_eq_some_iff.1 hx).1
   have hlt:i*n+j<l.length*n:=by
    have:(i+1)*n≤l.length*n:=Nat.mul_le_mul_right _ hi
    rw [Nat.add_mul] at this; omega
   rw [Nat.zero_add,cell_of_row w g _ O E (0,0) I];have:=dC J l i j x hx Z
   rw [← U,List.getElem?_take,if_pos hlt,A] at this;simpa using this
theorem aj.shape {α:Type} {base:Nat} {E:TypeId} {n:Nat} {C:α→List Value} {w:World} {v:Value} {l:List α} (h:aj base E n C w v l) : ∃ ao cap,v = .slice ao l.length cap:=by
 rcases h.2 with ⟨rfl,h0⟩ | ⟨g,cap,A,rfl,_⟩
 · exact ⟨none,0,by rw [h0]⟩
 · exact ⟨_,_,rfl⟩
theorem aj.nil {α:Type} {base:Nat} {E:TypeId} {n:Nat} {C:α→List Value} {w:World}:aj base E n C w (.slice none 0 0) ([]:List α):=World.ownsRow_nil _ _ _ _
theorem aj.empty {α:Type} {base:Nat} {E:TypeId} {n:Nat} {C:α→List Value} {w:World} {H:Nat} (D:w.heap.size=H) (A:base≤H):aj base E n C (w.alloc (.cells #[] E)) (.slice (some ⟨H,0,none⟩) 0 0) ([]:List α):=by
 subst D;exact World.ownsRow_made w #[] 0 A (Nat.zero_le _) (by simp)
theorem aj.base_mono {α:Type} {base A:Nat} {E:TypeId} {n:Nat} {C:α→List Value} {w:World} {v:Value} {l:List α} (h:aj base E n C w v l) (I:A≤base):aj A E n C w v l:=by
 refine ⟨h.1,?_⟩
 rcases h.2 with h | ⟨g,cap,D,h1,h2,h3⟩
 · exact .inl h
 · exact .inr ⟨g,cap,D,h1,Nat.le_trans I h2,h3⟩
theorem aj.kept {α:Type} {base:Nat} {E:TypeId} {n:Nat} {C:α→List Value} {w w':World} {v:Value} {l:List α} {row:Option Nat} (h:aj base E n C w v l) (D:w.grownBy w' row) (A:v.ownBlock=none∨v.ownBlock≠row):aj base E n C w' v l :=
 World.ownsRow.kept h D A
theorem aj.below {α:Type} {base:Nat} {E:TypeId} {n:Nat} {C:α→List Value} {w w':World} {v:Value} {l:List α} (h:aj base E n C w v l) (A:Below w.heap.size w w'):aj base E n C w' v l :=
 h.kept (row:=none) ⟨A.os,A.tape,A.output,A.size,fun k hk _=>A.block k hk⟩ (by cases v.ownBlock <;> simp)
theorem aj.alloc {α:Type} {base:Nat} {E:TypeId} {n:Nat} {C:α→List Value} {w:World} {v:Value} {l:List α} (h:aj base E n C w v l) (o:Obj):aj base E n C (w.alloc o) v l :=
 h.below ((Below.refl _ _).alloc (Nat.le_refl _) _)
theorem aj.lt {α:Type} {base:Nat} {E:TypeId} {n:Nat} {C:α→List Value} {w:World} {v:Value} {l:List α} (h:aj base E n C w v l) : ∀ k,v.ownBlock=some k→base≤k∧k<w.heap.size:=World.ownsRow.lt h
theorem cd {α:Type} {n:Nat} {C:α→List Value} (D : ∀ x,(C x).length=n) (w:World) (l:List α) (T:TypeId) (H k:Nat) (O:w.heap.size=H) (hk:k=l.length) (I:l.length≤maxLen) :
    af n C (w.alloc (.cells (l.flatMap C).toArray T)) (.slice (some ⟨H,0,none⟩) k k) l:=by
 subst O; subst hk;refine ⟨_,_,rfl,Nat.le_refl _,I,by simp,fun i x hx=>⟨_,_,rfl,by simp,fun j u A=>?_⟩⟩
 have J:j<n:=by rw [← D x]; exact (List.getElem?_eq_some_iff.1 A).1
 rw [cell_of_row (w.alloc (.cells (l.flatMap C).toArray T)) w.heap.size _ _ T (0,0) (heap_alloc_new w _)];rw [Nat.zero_add];simp only [List.getElem?_toArray];rw [dC D l i j x hx J,A]
theorem ay {α:Type} {P:Program} (w:World) {ops:Array Oper} {rest:List Oper} {o:Oper} {a:Act} {Q:Exit→Act→World→Prop} (al:o.guard=none) (s x:Operand) (t:TypeId)
    (ho:o.op = .call { callee:=.builtin .append,args:=#[s,x],argTypes:=#[t,t] })
    (base:Nat) (e:TypeId) {z:Value} {size bytes:Nat} (ht:P.underlying t=some (.slice e)) (aa:(P.info? e).map (fun i=>(i.zero,i.size,i.bytes))=some (some z,size,bytes)) (a5:z.cells.size=size) (ah:0<size) {C:α→List Value} (hC : ∀ y,(C y).length=size)
    (v:Value) (l:List α) (hs:a.eval s=v) (D:aj base e size C w v l) (v2:Value) (A:List α) (hx:a.eval x=v2) (a9:af size C w v2 A) (h1 : ∀ y ∈ A,∀ u ∈ C y,u.oneCell'=true)
    (O:(l.length+A.length)*bytes≤140737488355328) (bg:0<bytes) (ag:base≤w.heap.size)
    (h : ∀ I w',aj base e size C w' I (l ++ A)→w.grownBy w' v.ownBlock→(I.ownBlock=v.ownBlock∨I.ownBlock=some w.heap.size)→wpList P ops Q rest (a.put o.dst I) w'):wpList P ops Q (o::rest) a w:=by
 have J:l.length+A.length≤maxLen:=by
  have:l.length+A.length≤(l.length+A.length)*bytes:=Nat.le_mul_of_pos_right _ bg
  unfold maxLen; omega
 obtain ⟨i,hi,hz,U,bc⟩:=info_parts aa;obtain ⟨ao,cap,rfl,hcap,hm,hn,hc⟩:=a9;cases ao with
 | none =>
  have h0:cap=0:=hn rfl;subst h0;obtain rfl:=List.eq_nil_of_length_eq_zero (Nat.le_zero.1 hcap);exact wpList_append_own_none al s x t ho base e i size ht hi v l.length (l.flatMap C) hs D hx (h v w (by simpa using D) (World.grownBy.refl _ _) (.inl rfl))
 | some ad =>
  refine wpList_plain al fun K hK=>?_
  have Z : ∀ j u,(A.flatMap C)[j]? = some u→w.cell? (ad.add j)=some u:=by
   intro j u hu;obtain ⟨y,hy,a6⟩:=kD hC ah hu;obtain ⟨b,o',ha,_,ac⟩:=hc _ _ hy;cases ha
   rw [Addr.add_lit];have:=ac _ _ a6
   rwa [Nat.add_assoc,Nat.div_add_mod' j size] at this
  obtain ⟨I,w',hr,h2,h3,h4,a4⟩:=run_append_own_at (P:=P) w base t o.type e i z size bytes ht hi hz U bc a5 ah v l.length (l.flatMap C) D ad A.length cap (A.flatMap C) (by rw [bG hC]) Z
   (by intro u hu; obtain ⟨y,hy,a7⟩:=List.mem_flatMap.1 hu; exact h1 y hy u a7) J O ag
  unfold Oper.wp execOp;simp only [ho,resolve,invoke,builtin,Sem.run_bind,Sem.run_pure,Result.andThen_ok,List.map_toArray,List.map_cons,List.map_nil,hs,hx,hr];exact hK _ _ (h I w' (by unfold aj; rw [List.length_append,List.flatMap_append]; exact h2) h3 a4)
end Go.Proofs.YtominiaohfjobaaGreatDoor
