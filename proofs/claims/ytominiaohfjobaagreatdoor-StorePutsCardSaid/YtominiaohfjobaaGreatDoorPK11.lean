/- pom.Read where a part is wrong: what its deferred closure makes of it; the parent's three words; the conditions stand in the theorems. -/
import Derived.Test.YtominiaohfjobaaGreatDoorPK10
import Derived.Test.YtominiaohfjobaaGreatDoorPK08
import Derived.Test.YtominiaohfjobaaGreatDoorPK06
import Derived.Test.YtominiaohfjobaaGreatDoorPK07
set_option maxRecDepth 100000
set_option maxHeartbeats 64000000
namespace Go.Proofs.YtominiaohfjobaaGreatDoor
open Go Go.RowKit
structure cy (base:Nat) (w:World) (p:pq) (pv mv dv:Value):Prop where
 props:aj base 129 2 gM w pv p.props
 managed : ∃ L,bM base w mv p.managed L
 deps : ∃ L,bM base w dv p.deps L
theorem cy.below {base:Nat} {w w':World} {p:pq} {pv mv dv:Value} (h:cy base w p pv mv dv) (A:Below w.heap.size w w'):cy base w' p pv mv dv :=
 ⟨h.props.below A,let ⟨L,h1⟩:=h.managed; ⟨L,h1.below A⟩,let ⟨L,h1⟩:=h.deps; ⟨L,h1.below A⟩⟩
theorem cy.keptR {base r:Nat} {w w':World} {p:pq} {pv mv dv:Value} (h:cy base w p pv mv dv) (D:w.grownBy w' (some r)) (A:r<base):cy base w' p pv mv dv :=
 ⟨h.props.keptR D A,let ⟨L,h1⟩:=h.managed; ⟨L,h1.keptR D A⟩,let ⟨L,h1⟩:=h.deps; ⟨L,h1.keptR D A⟩⟩
theorem cy.base_mono {base B:Nat} {w:World} {p:pq} {pv mv dv:Value} (h:cy base w p pv mv dv) (A:B≤base):cy B w p pv mv dv :=
 ⟨h.props.base_mono A,let ⟨L,h1⟩:=h.managed; ⟨L,h1.base_mono A⟩,let ⟨L,h1⟩:=h.deps; ⟨L,h1.base_mono A⟩⟩
theorem cy.of {base:Nat} {w:World} {p:pq} {pv mv dv:Value} (h:cy base w p pv mv dv):vz w (.agg (nF p pv mv dv).toArray) p pv mv dv :=
 ⟨rfl,h.props.slice ic,let ⟨_,h1⟩:=h.managed; h1.of,let ⟨_,h1⟩:=h.deps; h1.of⟩
def nk (t:Tr) (w:World) (e:Ending) (w':World):Prop:=Below w.heap.size w w' ∧
 (∀ x,dz t=some x→e = .returned (.tuple #[.agg #[.bool false,.string ⟨#[]⟩,.string ⟨#[]⟩,.string ⟨#[]⟩,.string ⟨#[]⟩,.string ⟨#[]⟩,.string ⟨#[]⟩,.string ⟨#[]⟩,.slice none 0 0,.slice none 0 0,.slice none 0 0],.int .i64 x.1,.string (bs x.2)])) ∧
 (dz t=none → ∃ pv mv dv,e = .returned (.tuple #[.agg (nF (eL t) pv mv dv).toArray,.int .i64 0,.string ⟨#[]⟩])∧cy w.heap.size w' (eL t) pv mv dv)
theorem jS:(Tryz.prog.info? 55).map (·.size)=some 11:=by kernel_rfl
theorem cX (t:Tr) (x:Er) (hx:dz t=some x) (w w2:World) (p0 p1 p2 p3 p4 p5 p6 p7 p8 p9 J v2 v3:Value) (tmps:Array Value) (ad:tmps.getD 2 undef = .pointer (some ⟨w.heap.size+1,0,none⟩)) (ac:tmps.getD 3 undef = .pointer (some ⟨w.heap.size+2,0,none⟩)) (aa:tmps.getD 4 undef = .pointer (some ⟨w.heap.size+3,0,none⟩))
    (h1:ak w2 (w.heap.size+1) [p0,p1,p2,p3,p4,p5,p6,p7,p8,p9,J]) (h2:ak w2 (w.heap.size+2) [v2]) (h3:ak w2 (w.heap.size+3) [v3]) (hb:Below w.heap.size w w2) :
    Leaves Tryz.prog Tryz.f58 tmps (nk t w) [{ target:=.fn (.func 91) #[.pointer (some ⟨w.heap.size+1,0,none⟩),.pointer (some ⟨w.heap.size+2,0,none⟩),.pointer (some ⟨w.heap.size+3,0,none⟩)],args:=#[] }] (.panicking [{ v:=eP x,recovered:=false }]) w2:=by
 refine leaves_cons (f:=91) (args:=#[.pointer (some ⟨w.heap.size+1,0,none⟩),.pointer (some ⟨w.heap.size+2,0,none⟩),.pointer (some ⟨w.heap.size+3,0,none⟩)]) (by simp) (by simp [go_sem]) ?_
 refine (jY w.heap.size x [] _ _ _ _ _ _ _ _ _ _ _ _ _ w2 h1 h2 h3).mono ?_
 rintro e u' w3 ⟨rfl,rfl,Z,U,O,ag⟩;have a2:=U.cell 0 _ rfl;have a3:=O.cell 0 _ rfl;have ah:=hb.trans (ag.mono (by omega));obtain ⟨b0,b1,b2,b3,b4,b5,b6,b7,b8,b9,al⟩:=rH Z;have I:tmps[2]?.getD undef = .pointer (some ⟨w.heap.size+1,0,none⟩):=by simpa using ad
 have D:tmps[3]?.getD undef = .pointer (some ⟨w.heap.size+2,0,none⟩):=by simpa using ac
 have A:tmps[4]?.getD undef = .pointer (some ⟨w.heap.size+3,0,none⟩):=by simpa using aa
 refine ⟨.tuple #[.agg #[.bool false,.string ⟨#[]⟩,.string ⟨#[]⟩,.string ⟨#[]⟩,.string ⟨#[]⟩,.string ⟨#[]⟩,.string ⟨#[]⟩,.string ⟨#[]⟩,.slice none 0 0,.slice none 0 0,.slice none 0 0],.int .i64 x.1,.string (bs x.2)],?_,ah,fun y hy=>?_,fun h=>?_⟩
 · simp [results,Tryz.results58,go_sem,a2,a3,b0,b1,b2,b3,b4,b5,b6,b7,b8,b9,al,I,D,A,asAddr]
 · rw [hx] at hy; cases hy; rfl
 · rw [hx] at h; cases h
structure AY where
 err:Int
 gav:bp
 off:Int
 line:Int
 col:Int
 whr:S
def uS (x:AY):List Value:=[.int .i64 x.err,.string x.gav.group,.string x.gav.artifact,.string x.gav.version,.int .i64 x.off,.int .i64 x.line,.int .i64 x.col,.string x.whr]
def yt:S:=⟨#[]⟩
def Ax:bp:=⟨yt,yt,yt⟩
def kg:AY:=⟨0,Ax,0,0,0,yt⟩
def tQ:pq:=⟨false,Ax,yt,yt,yt,yt,[],[],[]⟩
structure bF where
 gav:bp
 text:S
 done:Bool
 pom:pq
 prob:AY
def gP (g:bp) (s:S):bF:=⟨g,s,false,tQ,kg⟩
def fY (g:bp):Value:=.agg (gu g).toArray
def oP (x:Id):Value:=.agg (jj x).toArray
def bh (g:bp):Id:=⟨g.group,g.artifact⟩
def jr (b:Nat):Value:=.pointer (some ⟨b,0,none⟩)
theorem aj.moved {α:Type} {base:Nat} {E:TypeId} {n:Nat} {C:α→List Value} {w w':World} {v:Value} {l:List α} (h:aj base E n C w v l) (hk : ∀ k,base≤k→k<w.heap.size→w'.heap[k]? = w.heap[k]?):aj base E n C w' v l:=by
 have hlt:=h.lt;obtain ⟨h1,h2⟩:=h;refine ⟨h1,?_⟩
 rcases h2 with h2 | ⟨g,cap,D,rfl,A,I,h3⟩
 · exact .inl h2
 · exact .inr ⟨g,cap,D,rfl,A,(hk g A (hlt g rfl).2).trans I,h3⟩
theorem bM.moved {base:Nat} {w w':World} {v:Value} {ds:List jk} {L:List (jk × Value)} (h:bM base w v ds L) (hk : ∀ k,base≤k→k<w.heap.size→w'.heap[k]? = w.heap[k]?):bM base w' v ds L :=
 ⟨h.row.moved hk,h.are,fun p hp=>(h.excl p hp).moved hk⟩
theorem cy.moved {base:Nat} {w w':World} {p:pq} {pv mv dv:Value} (h:cy base w p pv mv dv) (hk : ∀ k,base≤k→k<w.heap.size→w'.heap[k]? = w.heap[k]?):cy base w' p pv mv dv :=
 ⟨h.props.moved hk,let ⟨L,h1⟩:=h.managed; ⟨L,h1.moved hk⟩,let ⟨L,h1⟩:=h.deps; ⟨L,h1.moved hk⟩⟩
def dY (F:Nat→Prop) (w:World) (p:pq) (pv mv dv:Value):Prop:=∃ w0 base,cy base w0 p pv mv dv∧w0.heap.size≤w.heap.size ∧ ∀ k,base≤k→k<w0.heap.size → ¬ F k∧w.heap[k]? = w0.heap[k]?
theorem dY.own {F:Nat→Prop} {w:World} {p:pq} {pv mv dv:Value} (h:dY F w p pv mv dv) : ∃ base,cy base w p pv mv dv:=by
 obtain ⟨w0,base,h1,h2,h3⟩:=h;exact ⟨base,h1.moved fun k a b=>(h3 k a b).2⟩
theorem dY.only {F G:Nat→Prop} {w w':World} {p:pq} {pv mv dv:Value} (h:dY F w p pv mv dv) (ho:aV F w w') (A : ∀ k,k<w.heap.size→G k→F k):dY G w' p pv mv dv:=by
 obtain ⟨w0,base,h1,h2,h3⟩:=h;refine ⟨w0,base,h1,Nat.le_trans h2 ho.size,fun k a b=>?_⟩
 have hk:k<w.heap.size:=by omega
 exact ⟨fun e=>(h3 k a b).1 (A k hk e),(ho.block k hk (h3 k a b).1).trans (h3 k a b).2⟩
theorem dY.no (F:Nat→Prop) (w:World):dY F w tQ (.slice none 0 0) (.slice none 0 0) (.slice none 0 0) :=
 ⟨w,w.heap.size,⟨aj.nil,⟨[],bM.nil _ _⟩,⟨[],bM.nil _ _⟩⟩,Nat.le_refl _,fun k a b=>by omega⟩
theorem dY.new {F:Nat→Prop} {w':World} {p:pq} {pv mv dv:Value} {base:Nat} (h:cy base w' p pv mv dv) (A : ∀ k,F k→k<base):dY F w' p pv mv dv :=
 ⟨w',base,h,Nat.le_refl _,fun k a b=>⟨fun e=>by have:=A k e; omega,rfl⟩⟩
def wV (e:bF) (pv mv dv:Value):List Value:=[.string e.text,.int .u32 (if e.done then 1 else 0),.int .i32 0,.int .u32 0] ++ nF e.pom pv mv dv ++ uS e.prob
def iR (F:Nat→Prop) (w:World) (b:Nat) (e:bF):Prop:=∃ pv mv dv,ak w b (wV e pv mv dv)∧dY F w e.pom pv mv dv
theorem iR.only {F G:Nat→Prop} {w w':World} {b:Nat} {e:bF} (h:iR F w b e) (ho:aV F w w') (I : ∀ k,k<w.heap.size→G k→F k) (A:w'.heap[b]? = w.heap[b]?):iR G w' b e:=by
 obtain ⟨pv,mv,dv,h1,h2⟩:=h;refine ⟨pv,mv,dv,⟨Nat.lt_of_lt_of_le h1.lt ho.size,fun j u D=>(World.cell?_of_block A).trans (h1.cell j u D),fun j=>(World.frozen?_of_block A).trans (h1.free j)⟩,h2.only ho I⟩
def bT (es:List (bF × Nat)) (x:Id):List S:=((es.map fun e=>e.1.gav).filter fun g=>decide (bh g=x)).map fun g=>g.version
structure aU (F:Nat→Prop) (w:World) (b me mv:Nat) (L:List (aF bp)) (cl:Nat) (V:List (aF Id)) (cv:Nat) (es:List (bF × Nat)) (r a:Int):Prop where
 box:ak w b [.map (some me),.map (some mv),.int .i64 r,.int .i64 a]
 ents:de fY w me L cl
 vers:de oP w mv V cv
 same:L.map (fun e=>(e.key,e.val))=es.map fun e=>(e.1.gav,jr e.2)
 ent : ∀ e ∈ es,iR F w e.2 e.1
 row : ∀ x,(eQ V x=none∧bT es x=[]) ∨ ∃ v,eQ V x=some v∧aj 0 9 1 gq w v (bT es x)
 rows : ∀ x v k,eQ V x=some v→v.ownBlock=some k→F k∧k≠b∧k≠me∧k≠mv ∧ ∀ e ∈ es,e.2≠k
 apart : ∀ x y v u k,eQ V x=some v→eQ V y=some u→v.ownBlock=some k→u.ownBlock=some k→x=y
 own:F b∧F me∧F mv ∧ ∀ e ∈ es,F e.2
 lt : ∀ k,F k→k<w.heap.size
 ne:b≠me∧b≠mv∧me≠mv ∧ ∀ e ∈ es,e.2≠b∧e.2≠me∧e.2≠mv
 each:(es.map (·.2)).Nodup
 once:(es.map fun e=>e.1.gav).Nodup
 born:mT L cl∧mT V cv∧V.length≤es.length
def bR (F:Nat→Prop) (w:World) (b:Nat) (es:List (bF × Nat)) (r a:Int):Prop:=∃ me mv L cl V cv,aU F w b me mv L cl V cv es r a
theorem aU.only {F G:Nat→Prop} {w w':World} {b me mv:Nat} {L:List (aF bp)} {cl:Nat} {V:List (aF Id)} {cv:Nat} {es:List (bF × Nat)} {r a:Int} (h:aU F w b me mv L cl V cv es r a) (ho:aV G w w') (A : ∀ k,F k → ¬ G k)
    (D : ∀ e ∈ es,iR F w' e.2 e.1):aU F w' b me mv L cl V cv es r a :=
 ⟨h.box.only ho (A _ h.own.1),h.ents.only ho (A _ h.own.2.1),h.vers.only ho (A _ h.own.2.2.1),h.same,D,
  fun x=>(h.row x).imp id fun ⟨v,h1,h2⟩=>⟨v,h1,h2.only ho fun k hk=>A _ (h.rows x v k h1 hk).1⟩,h.rows,h.apart,h.own,fun k hk=>Nat.lt_of_lt_of_le (h.lt k hk) ho.size,h.ne,h.each,h.once,h.born⟩
theorem bR.below {F:Nat→Prop} {w w':World} {b:Nat} {es:List (bF × Nat)} {r a:Int} (h:bR F w b es r a) (A:Below w.heap.size w w'):bR F w' b es r a:=by
 obtain ⟨me,mv,L,cl,V,cv,h⟩:=h;exact ⟨me,mv,L,cl,V,cv,h.only (aV.of (F:=fun _=>False) A) (fun _ _=>id) fun e he=>(h.ent e he).only (aV.of A) (fun _ _=>id) (A.block _ (h.lt _ (h.own.2.2.2 e he)))⟩
theorem aU.get {F:Nat→Prop} {w:World} {b me mv:Nat} {L:List (aF bp)} {cl:Nat} {V:List (aF Id)} {cv:Nat} {es:List (bF × Nat)} {r a:Int} (h:aU F w b me mv L cl V cv es r a) (g:bp) :
    eQ L g=(es.find? fun e=>decide (g=e.1.gav)).map fun e=>jr e.2:=by
 have A:=h.same;clear h;induction L generalizing es with
 | nil =>
  cases es with
  | nil=>rfl
  | cons e es=>simp at A
 | cons m L I =>
  cases es with
  | nil=>simp at A
  | cons e es =>
   simp only [List.map_cons,List.cons.injEq,Prod.mk.injEq] at A;rw [eB,List.find?_cons,A.1.1,A.1.2];by_cases D:g=e.1.gav
   · simp [D]
   · simp [D,I A.2]
def je (es:List (bF × Nat)) (g:bp):Bool:=(es.find? fun e=>decide (g=e.1.gav)).isSome
theorem aU.len {F:Nat→Prop} {w:World} {b me mv:Nat} {L:List (aF bp)} {cl:Nat} {V:List (aF Id)} {cv:Nat} {es:List (bF × Nat)} {r a:Int} (h:aU F w b me mv L cl V cv es r a):L.length=es.length:=by
 have:=congrArg List.length h.same
 simpa using this
def iC:Value:=.slice none 0 0
def fe (V:List (aF Id)) (x:Id):Value:=(eQ V x).getD iC
theorem aU.rowV_owns {F:Nat→Prop} {w:World} {b me mv:Nat} {L:List (aF bp)} {cl:Nat} {V:List (aF Id)} {cv:Nat} {es:List (bF × Nat)} {r a:Int} (h:aU F w b me mv L cl V cv es r a) (x:Id):aj 0 9 1 gq w (fe V x) (bT es x):=by
 unfold fe;rcases h.row x with ⟨h1,h2⟩ | ⟨v,h1,h2⟩
 · rw [h1,h2]; exact aj.nil
 · rw [h1]; exact h2
theorem aU.rowV_at {F:Nat→Prop} {w:World} {b me mv:Nat} {L:List (aF bp)} {cl:Nat} {V:List (aF Id)} {cv:Nat} {es:List (bF × Nat)} {r a:Int} (h:aU F w b me mv L cl V cv es r a) (x:Id) {k:Nat} (hk:(fe V x).ownBlock=some k) :
    F k∧k≠b∧k≠me∧k≠mv ∧ ∀ e ∈ es,e.2≠k:=by
 unfold fe at hk;cases h1:eQ V x with
 | none=>rw [h1] at hk; cases hk
 | some v=>rw [h1] at hk; exact h.rows x v k h1 hk
theorem rJ (es:List (bF × Nat)) (e:bF × Nat) (x:Id):bT (es ++ [e]) x=bT es x ++ if bh e.1.gav=x then [e.1.gav.version] else []:=by
 unfold bT;rw [List.map_append,List.filter_append,List.map_append];by_cases h:bh e.1.gav=x <;> simp [h]
theorem pZ {es:List (bF × Nat)} {g:bp} (h:je es g=false) : ∀ e ∈ es,e.1.gav≠g:=by
 unfold je at h;rw [Option.isSome_eq_false_iff,Option.isNone_iff_eq_none,List.find?_eq_none] at h;intro e he h2;exact h e he (by simp [h2])
theorem aU.put {F:Nat→Prop} {w w1 w2 w3 J:World} {b me mv eb:Nat} {L:List (aF bp)} {cl:Nat} {V:List (aF Id)} {cv:Nat} {es:List (bF × Nat)} {r a:Int} {g:bp} {s:S} {O:Value} (h:aU F w b me mv L cl V cv es r a) (hn:je es g=false)
    (h1:Below w.heap.size w w1) (a9:ak w1 eb (wV (gP g s) iC iC iC)) (b2:w.heap.size≤eb) (h2:Below w1.heap.size (fG fY w1 me (dV L g (jr eb) cl) (fl L g cl)) w2)
    (h3:w2.grownBy w3 (fe V (bh g)).ownBlock) (ho:aj 0 9 1 gq w3 O (bT es (bh g) ++ [g.version])) (a7:O.ownBlock=(fe V (bh g)).ownBlock ∨ ∃ k,w1.heap.size≤k∧O.ownBlock=some k)
    (h4:J=fG oP w3 mv (dV V (bh g) O cv) (fl V (bh g) cv)) :
    (∃ F',aU F' J b me mv (dV L g (jr eb) cl) (fl L g cl) (dV V (bh g) O cv) (fl V (bh g) cv) (es ++ [(gP g s,eb)]) r a∧(∀ k,k<w.heap.size→F' k→F k))∧aV F w J:=by
 have Z:=fun k=>h.rowV_at (bh g) (k:=k);have s1:=h1.size;have s2:w1.heap.size≤w2.heap.size:=by have:=h2.size; simpa [fG] using this
 have s3:=h3.size;have s4:J.heap.size=w3.heap.size:=by rw [h4]; simp [fG]
 have lb:=h.lt _ h.own.1;have bl:=h.lt _ h.own.2.1;have b6:=h.lt _ h.own.2.2.1;have ad : ∀ e ∈ es,e.2<w.heap.size:=fun e he=>h.lt _ (h.own.2.2.2 e he);have lV : ∀ k,(fe V (bh g)).ownBlock=some k→k<w.heap.size:=fun k hk=>h.lt _ (Z k hk).1;have b7:=a9.lt;have a5:aV (fun k=>k=me) w1 w2:=(aV.grown (fW w1 me (dV L g (jr eb) cl) (fl L g cl)) (by rintro k ⟨⟩; rfl)).trans (aV.of (F:=fun k=>k=me) (by have:=h2; simpa [fG] using this)) (fun _ _=>id);have a0:aV (fun k=>(fe V (bh g)).ownBlock=some k) w2 w3:=aV.grown h3 fun k hk=>hk;have ah:aV (fun k=>k=mv) w3 J:=by rw [h4]; exact aV.grown (fW w3 mv _ _) (by rintro k ⟨⟩; rfl)
 have al:aV (fun k=>(fe V (bh g)).ownBlock=some k∨k=mv) w2 J:=(a0.mono fun _ _=>Or.inl).trans ah fun _ _=>Or.inr;have a4:aV (fun k=>k=me∨(fe V (bh g)).ownBlock=some k∨k=mv) w1 J:=(a5.mono fun _ _=>Or.inl).trans al fun _ _=>Or.inr;have aa:aV (fun k=>k=me∨(fe V (bh g)).ownBlock=some k∨k=mv) w J:=(aV.of h1).trans a4 fun _ _=>id
 have ac:aV F w J:=aa.mono fun k _ hG=>by
  rcases hG with rfl | e | rfl
  · exact h.own.2.1
  · exact (Z k e).1
  · exact h.own.2.2.1
 have bc:aV (fun k=>k=me∨(fe V (bh g)).ownBlock=some k) w w3:=((aV.of (F:=fun k=>k=me) h1).trans a5 fun _ _=>id).mono (fun _ _=>Or.inl) |>.trans a0 fun _ _=>Or.inr
 have b0:fk L g=none:=by
  rw [pP,h.get,List.find?_eq_none.2 (fun e he=>by have:=pZ hn e he; simp [Ne.symm this])];rfl
 have a6 : ∀ k,O.ownBlock=some k→(F k∧k<w.heap.size∧k≠b∧k≠me∧k≠mv ∧ ∀ e ∈ es,e.2≠k)∨(w1.heap.size≤k):=fun k hk=>by
  rcases a7 with e | ⟨k',a8,e⟩
  · rw [e] at hk
    exact .inl ⟨(Z k hk).1,lV k hk,(Z k hk).2⟩
  · rw [e] at hk; cases hk; exact .inr a8
 have bg : ∀ k,O.ownBlock=some k→k<w3.heap.size:=fun k hk=>(ho.lt k hk).2;refine ⟨⟨fun k=>F k∨(w.heap.size≤k∧k<J.heap.size),?_,fun k hk I=>I.resolve_right (by omega)⟩,ac⟩
 · refine ⟨h.box.only aa ?_,?_,?_,?_,?_,?_,?_,?_,?_,?_,?_,?_,?_,⟨h.born.1.put _ _,h.born.2.1.put _ _,by rw [List.length_append]; have h1:=yB V (bh g) O cv; have h2:=h.born.2.2; simp only [List.length_singleton]; omega⟩⟩
   · rintro (e | e | e)
     · exact h.ne.1 e
     · exact (Z b e).2.1 rfl
     · exact h.ne.2.1 e
   · have e1:de fY w1 me L cl:=h.ents.below h1 bl
     have e2:de fY w2 me (dV L g (jr eb) cl) (fl L g cl):=(uZ e1).below h2 (by omega);refine e2.only al ?_
     rintro (e | e)
     · exact (Z me e).2.2.1 rfl
     · exact h.ne.2.2.1 e
   · rw [h4]
     refine uZ (L:=V) (c:=cv) (h.vers.only bc ?_)
     rintro (e | e)
     · exact h.ne.2.2.1 e.symm
     · exact (Z mv e).2.2.2.1 rfl
   · have:dV L g (jr eb) cl=L ++ [⟨g,jr eb,cl⟩]:=by simp [dV,b0]
     rw [this,List.map_append,List.map_append,h.same];rfl
   · intro e he
     rcases List.mem_append.1 he with he | he
     · refine (h.ent e he).only ac (fun k hk I=>I.resolve_right (by omega)) (aa.block _ (ad e he) ?_)
       rintro (e2 | e2 | e2)
       · exact (h.ne.2.2.2 e he).2.1 e2
       · exact (Z _ e2).2.2.2.2 e he rfl
       · exact (h.ne.2.2.2 e he).2.2 e2
     · obtain rfl:=List.mem_singleton.1 he
       refine ⟨iC,iC,iC,a9.only a4 ?_,dY.no _ _⟩
       rintro (e2 | e2 | e2)
       · subst e2; omega
       · have:=lV _ e2; omega
       · subst e2; omega
   · intro x
     rw [nX,rJ];by_cases hx:x=bh g
     · subst hx
       refine .inr ⟨O,by simp,?_⟩
       rw [if_pos (show bh (gP g s,eb).1.gav=bh g from rfl)];refine ho.only ah fun k hk e=>?_
       rcases a6 k hk with hh | hh
       · exact hh.2.2.2.2.1 e
       · subst e; omega
     · rw [if_neg hx,if_neg (fun e=>hx e.symm),List.append_nil]
       refine (h.row x).imp id fun ⟨v,e1,e2⟩=>⟨v,e1,e2.only aa fun k hk=>?_⟩
       have hr:=h.rows x v k e1 hk;rintro (e3 | e3 | e3)
       · exact hr.2.2.1 e3
       · cases hm:eQ V (bh g) with
         | none=>simp [fe,hm,iC,Value.ownBlock] at e3
         | some u =>
          simp only [fe,hm,Option.getD_some] at e3;exact hx (h.apart x (bh g) v u k e1 hm hk e3)
       · exact hr.2.2.2.1 e3
   · intro x v k D hk
     rw [nX] at D;by_cases hx:x=bh g
     · rw [if_pos hx] at D
       cases D
       rcases a6 k hk with ⟨I,hlt,e1,e2,e3,e4⟩ | hh
       · refine ⟨.inl I,e1,e2,e3,fun e he=>?_⟩
         rcases List.mem_append.1 he with he | he
         · exact e4 e he
         · obtain rfl:=List.mem_singleton.1 he
           show eb≠k
           omega
       · have:=bg k hk
         refine ⟨.inr ⟨by omega,by omega⟩,by omega,by omega,by omega,fun e he=>?_⟩
         rcases List.mem_append.1 he with he | he
         · have:=ad e he; omega
         · obtain rfl:=List.mem_singleton.1 he
           show eb≠k
           omega
     · rw [if_neg hx] at D
       obtain ⟨I,e1,e2,e3,e4⟩:=h.rows x v k D hk;have hlt:=h.lt k I;refine ⟨.inl I,e1,e2,e3,fun e he=>?_⟩
       rcases List.mem_append.1 he with he | he
       · exact e4 e he
       · obtain rfl:=List.mem_singleton.1 he
         show eb≠k
         omega
   · have ag : ∀ y u k,eQ V y=some u→u.ownBlock=some k→O.ownBlock=some k→y=bh g:=fun y u k U hk A=>by
      rcases a7 with e | ⟨k',a8,e⟩
      · rw [e] at A
        cases hm:eQ V (bh g) with
        | none=>simp [fe,hm,iC,Value.ownBlock] at A
        | some z =>
         simp only [fe,hm,Option.getD_some] at A;exact h.apart y (bh g) u z k U hm hk A
      · rw [e] at A; cases A
        have:=h.lt k (h.rows y u k U hk).1
        omega
     intro x y v u k D U hk A;rw [nX] at D U;by_cases hx:x=bh g
     · rw [if_pos hx] at D
       cases D
       by_cases hy:y=bh g
       · rw [hx,hy]
       · rw [if_neg hy] at U
         exact absurd (ag y u k U A hk) hy
     · rw [if_neg hx] at D
       by_cases hy:y=bh g
       · rw [if_pos hy] at U
         cases U
         exact absurd (ag x v k D hk A) hx
       · rw [if_neg hy] at U
         exact h.apart x y v u k D U hk A
   · refine ⟨.inl h.own.1,.inl h.own.2.1,.inl h.own.2.2.1,fun e he=>?_⟩
     rcases List.mem_append.1 he with he | he
     · exact .inl (h.own.2.2.2 e he)
     · obtain rfl:=List.mem_singleton.1 he
       refine .inr ⟨b2,?_⟩
       show eb<_
       omega
   · rintro k (I | I)
     · have:=h.lt k I; omega
     · exact I.2
   · refine ⟨h.ne.1,h.ne.2.1,h.ne.2.2.1,fun e he=>?_⟩
     rcases List.mem_append.1 he with he | he
     · exact h.ne.2.2.2 e he
     · obtain rfl:=List.mem_singleton.1 he
       refine ⟨?_,?_,?_⟩ <;> show eb≠_ <;> omega
   · rw [List.map_append,List.nodup_append]
     refine ⟨h.each,by simp,fun x hx y hy=>?_⟩
     obtain ⟨e,he,rfl⟩:=List.mem_map.1 hx;simp at hy; subst hy;have:=ad e he
     omega
   · rw [List.map_append,List.nodup_append]
     refine ⟨h.once,by simp,fun x hx y hy=>?_⟩
     obtain ⟨e,he,rfl⟩:=List.mem_map.1 hx;simp at hy; subst hy;exact pZ hn e he
def dN (w:World) (es:List (bF × Nat)):Prop:=∀ e ∈ es,ak w e.2 (wV e.1 iC iC iC)∧e.1.pom=tQ
theorem dN.below {w w':World} {es:List (bF × Nat)} (h:dN w es) (A:Below w.heap.size w w'):dN w' es:=fun e he=>⟨(h e he).1.below A (h e he).1.lt,(h e he).2⟩
theorem dN.only {F:Nat→Prop} {w w':World} {es:List (bF × Nat)} (h:dN w es) (ho:aV F w w') (A : ∀ e ∈ es,¬ F e.2):dN w' es:=fun e he=>⟨(h e he).1.only ho (A e he),(h e he).2⟩
theorem dN.ent {w:World} {es:List (bF × Nat)} (h:dN w es) (F:Nat→Prop) : ∀ e ∈ es,iR F w e.2 e.1:=fun e he=>⟨iC,iC,iC,(h e he).1,by rw [(h e he).2]; exact dY.no _ _⟩
theorem aU.put_fresh {F:Nat→Prop} {w w1 w2 w3 A:World} {b me mv eb:Nat} {L:List (aF bp)} {cl:Nat} {V:List (aF Id)} {cv:Nat} {es:List (bF × Nat)} {r a:Int} {g:bp} {s:S} {v':Value} (h:aU F w b me mv L cl V cv es r a)
    (h1:Below w.heap.size w w1) (aa:ak w1 eb (wV (gP g s) iC iC iC)) (a4:w.heap.size≤eb) (h2:Below w1.heap.size (fG fY w1 me (dV L g (jr eb) cl) (fl L g cl)) w2)
    (h3:w2.grownBy w3 (fe V (bh g)).ownBlock) (h4:A=fG oP w3 mv (dV V (bh g) v' cv) (fl V (bh g) cv)) (hf:dN w es):dN A (es ++ [(gP g s,eb)]):=by
 have hV:=fun k=>h.rowV_at (bh g) (k:=k);have a0:=h.lt _ h.own.2.1;have al:=h.lt _ h.own.2.2.1;have lV : ∀ k,(fe V (bh g)).ownBlock=some k→k<w.heap.size:=fun k hk=>h.lt _ (hV k hk).1;have U:aV (fun k=>k=me) w1 w2:=(aV.grown (fW w1 me (dV L g (jr eb) cl) (fl L g cl)) (by rintro k ⟨⟩; rfl)).trans (aV.of (F:=fun k=>k=me) (by have:=h2; simpa [fG] using this)) (fun _ _=>id);have O:aV (fun k=>(fe V (bh g)).ownBlock=some k) w2 w3:=aV.grown h3 fun k hk=>hk;have I:aV (fun k=>k=mv) w3 A:=by rw [h4]; exact aV.grown (fW w3 mv _ _) (by rintro k ⟨⟩; rfl)
 have J:aV (fun k=>(fe V (bh g)).ownBlock=some k∨k=mv) w2 A:=(O.mono fun _ _=>Or.inl).trans I fun _ _=>Or.inr;have D:aV (fun k=>k=me∨(fe V (bh g)).ownBlock=some k∨k=mv) w1 A:=(U.mono fun _ _=>Or.inl).trans J fun _ _=>Or.inr;have Z:aV (fun k=>k=me∨(fe V (bh g)).ownBlock=some k∨k=mv) w A:=(aV.of h1).trans D fun _ _=>id;intro e he;rcases List.mem_append.1 he with he | he
 · refine (hf.only Z fun e he=>?_) e he
   rintro (e2 | e2 | e2)
   · exact (h.ne.2.2.2 e he).2.1 e2
   · exact (hV _ e2).2.2.2.2 e he rfl
   · exact (h.ne.2.2.2 e he).2.2 e2
 · obtain rfl:=List.mem_singleton.1 he
   refine ⟨aa.only D ?_,rfl⟩
   rintro (e2 | e2 | e2)
   · subst e2; omega
   · have:=lV _ e2; omega
   · subst e2; omega
theorem mY {es:List (bF × Nat)} {i:Nat} {e A:bF} {eb:Nat} (D:es[i]? = some (e,eb)) (I:A.gav=e.gav) {x:bF × Nat} (hx:x ∈ es.set i (A,eb)) : ∃ y ∈ es,y.2=x.2∧y.1.gav=x.1.gav:=by
 rcases List.mem_or_eq_of_mem_set hx with h | rfl
 · exact ⟨x,h,rfl,rfl⟩
 · exact ⟨(e,eb),List.mem_of_getElem? D,rfl,I.symm⟩
theorem mZ {α:Type} {es:List (bF × Nat)} {i:Nat} {y x:bF × Nat} (I:es[i]? = some y) (f:bF × Nat→α) (h:f x=f y):(es.set i x).map f=es.map f:=by
 apply List.ext_getElem?
 intro j;rw [List.getElem?_map,List.getElem?_map,List.getElem?_set];by_cases A:i=j
 · subst A
   obtain ⟨D,he⟩:=List.getElem?_eq_some_iff.1 I;simp [D,he,h]
 · simp [A]
theorem aU.turn {F:Nat→Prop} {w w':World} {b me mv:Nat} {L:List (aF bp)} {cl:Nat} {V:List (aF Id)} {cv:Nat} {es:List (bF × Nat)} {r a r' a':Int} {i:Nat} {e U:bF} {eb:Nat} (h:aU F w b me mv L cl V cv es r a) (A:es[i]? = some (e,eb)) (D:U.gav=e.gav)
    (ho:aV (fun k=>k=b∨k=eb) w w') (hb:ak w' b [.map (some me),.map (some mv),.int .i64 r',.int .i64 a']) (he:iR F w' eb U):aU F w' b me mv L cl V cv (es.set i (U,eb)) r' a':=by
 have J:=List.mem_of_getElem? A;have Z:=h.ne.2.2.2 _ J
 have ag:aV F w w':=ho.mono fun k _ hk=>by
  rcases hk with rfl | rfl
  · exact h.own.1
  · exact h.own.2.2.2 _ J
 have O : ∀ k,k≠b→k≠eb → ¬ (k=b∨k=eb):=fun k h1 h2 h3=>h3.elim h1 h2
 have hv : ∀ x,bT (es.set i (U,eb)) x=bT es x:=fun x=>by
  unfold bT;rw [mZ A (fun e=>e.1.gav) D]
 refine ⟨hb,h.ents.only ho (O _ (Ne.symm h.ne.1) (Ne.symm Z.2.1)),h.vers.only ho (O _ (Ne.symm h.ne.2.1) (Ne.symm Z.2.2)),?_,?_,?_,?_,h.apart,?_,?_,?_,?_,?_,⟨h.born.1,h.born.2.1,by rw [List.length_set]; exact h.born.2.2⟩⟩
 · rw [mZ A _ (by simp [D])]; exact h.same
 · intro x hx
   obtain ⟨j,hj,rfl⟩:=List.mem_iff_getElem.1 hx;rw [List.getElem_set];have aa:j<es.length:=by simpa using hj
   split
   · exact he
   · rename_i ah
     have ac:i<es.length:=(List.getElem?_eq_some_iff.1 A).1;have ad:es[i]=(e,eb):=(List.getElem?_eq_some_iff.1 A).2
     have al:es[j].2≠eb:=by
      intro e3;have hp:=List.pairwise_iff_getElem.1 h.each;rcases Nat.lt_or_gt_of_ne ah with hlt | hlt
      · exact hp i j (by simpa using ac) (by simpa using aa) hlt (by simp [ad,e3])
      · exact hp j i (by simpa using aa) (by simpa using ac) hlt (by simp [ad,e3])
     refine (h.ent es[j] (by simp)).only ag (fun _ _=>id) (ho.block _ (h.lt _ (h.own.2.2.2 es[j] (by simp))) (O _ (h.ne.2.2.2 es[j] (by simp)).1 al))
 · intro x
   rw [hv];refine (h.row x).imp id fun ⟨v,h1,h2⟩=>⟨v,h1,h2.only ho fun k hk=>?_⟩
   have I:=h.rows x v k h1 hk;exact O _ I.2.1 (fun e3=>I.2.2.2.2 _ J e3.symm)
 · intro x v k h1 hk
   have I:=h.rows x v k h1 hk;refine ⟨I.1,I.2.1,I.2.2.1,I.2.2.2.1,fun y hy=>?_⟩
   obtain ⟨z,hz,e1,-⟩:=mY A D hy;rw [← e1]; exact I.2.2.2.2 z hz
 · refine ⟨h.own.1,h.own.2.1,h.own.2.2.1,fun y hy=>?_⟩
   obtain ⟨z,hz,e1,-⟩:=mY A D hy;rw [← e1]; exact h.own.2.2.2 z hz
 · exact fun k hk=>Nat.lt_of_lt_of_le (h.lt k hk) ho.size
 · refine ⟨h.ne.1,h.ne.2.1,h.ne.2.2.1,fun y hy=>?_⟩
   obtain ⟨z,hz,e1,-⟩:=mY A D hy;rw [← e1]; exact h.ne.2.2.2 z hz
 · rw [mZ (x:=(U,eb)) A (fun e:bF × Nat=>e.2) rfl]; exact h.each
 · rw [mZ (x:=(U,eb)) A (fun e:bF × Nat=>e.1.gav) D]; exact h.once
theorem aU.counts {F:Nat→Prop} {w w':World} {b me mv:Nat} {L:List (aF bp)} {cl:Nat} {V:List (aF Id)} {cv:Nat} {es:List (bF × Nat)} {r a r' a':Int} (h:aU F w b me mv L cl V cv es r a)
    (ho:aV (fun k=>k=b) w w') (A:ak w' b [.map (some me),.map (some mv),.int .i64 r',.int .i64 a']):aU F w' b me mv L cl V cv es r' a' :=
 ⟨A,h.ents.only ho (Ne.symm h.ne.1),h.vers.only ho (Ne.symm h.ne.2.1),h.same,fun e he=>(h.ent e he).only (ho.mono fun k _ hk=>by rw [hk]; exact h.own.1) (fun _ _=>id) (ho.block _ (h.lt _ (h.own.2.2.2 e he)) (h.ne.2.2.2 e he).1),
  fun x=>(h.row x).imp id fun ⟨v,h1,h2⟩=>⟨v,h1,h2.only ho fun k hk=>(h.rows x v k h1 hk).2.1⟩,h.rows,h.apart,h.own,fun k hk=>Nat.lt_of_lt_of_le (h.lt k hk) ho.size,h.ne,h.each,h.once,h.born⟩
def dD (a b:S):Int:=Lib.compareBytes a.data.toList b.data.toList
theorem iJ:eH dD:=oH.via fun x:S=>x.data.toList
theorem iI {a b:S}:dD a b=0↔a=b:=by
 constructor
 · intro h
   have h1:a.data.toList=b.data.toList:=jW h;obtain ⟨⟨x⟩⟩:=a;obtain ⟨⟨y⟩⟩:=b;simpa using h1
 · rintro rfl
   exact ip _
def rn:bp→bp→Int:=mQ (fun a b=>dD a.group b.group) (mQ (fun a b=>dD a.artifact b.artifact) (fun a b=>lJ a.version b.version))
theorem jV:eH rn:=(iJ.via fun g:bp=>g.group).lex ((iJ.via fun g:bp=>g.artifact).lex (oD.via fun g:bp=>g.version))
def jd (a b:bp):Bool:=decide (rn a b<0)
theorem fX:eG jd:=jV.weak
theorem xj {a b:bp} (h:bh a=bh b):rn a b=lJ a.version b.version:=by
 have h1:a.group=b.group:=congrArg Id.group h;have h2:a.artifact=b.artifact:=congrArg Id.artifact h;unfold rn mQ;rw [if_neg (by simp only [h1]; exact fun h=>h (iI.2 rfl)),if_neg (by simp only [h2]; exact fun h=>h (iI.2 rfl))]
theorem nY {a b:bp} (h:bh a=bh b):jd a b=lW a.version b.version:=by
 unfold jd lW;rw [xj h]
theorem Az {a b:bp} (h:jf jd a b=true):bh a=bh b:=by
 have h0:rn a b=0:=by
  obtain ⟨h1,h2⟩:=jC.1 h;have h3:=of_decide_eq_false h1;have J:=of_decide_eq_false h2;have I:=jV.flip a b;omega
 unfold rn mQ at h0;by_cases A:dD a.group b.group=0
 · rw [if_neg (by simpa using A)] at h0
   by_cases D:dD a.artifact b.artifact=0
   · unfold bh
     rw [iI.1 A,iI.1 D]
   · rw [if_pos (by simpa using D)] at h0
     exact absurd h0 D
 · rw [if_pos (by simpa using A)] at h0
   exact absurd h0 A
def cV (l:List bp) (x:Id):List S:=(l.filter fun g=>decide (bh g=x)).map fun g=>g.version
def kB (x:bp) (l:List bp):Nat→List bp
 | 0=>x::l
 | k+1=>match l[k]? with
  | none=>l ++ [x]
  | some y=>if jd x y=true then kB x l k else l.take (k+1) ++ x::l.drop (k+1)
def mj (l:List bp):List bp:=l.foldl (fun m x=>kB x m m.length) []
theorem pV {x:bp} {l:List bp} (h:dL jd l) : ∀ k,k≤l.length→(∀ y ∈ l.drop k,jd x y=true)→dL jd (kB x l k)∧aH jd (l ++ [x]) (kB x l k)
 | 0,_,A=>by
  rw [List.drop_zero] at A;exact ⟨lC fX (m1:=[]) (m2:=l) h (fun y hy=>by cases hy) A,jz fX (m1:=[]) (m2:=l) A⟩
 | k+1,hk,A=>by
  unfold kB;have D:k<l.length:=hk;rw [List.getElem?_eq_getElem D];simp only;by_cases hx:jd x l[k]=true
  · rw [if_pos hx]
    refine pV h k (Nat.le_of_lt D) fun y hy=>?_
    rw [List.drop_eq_getElem_cons D] at hy;rcases List.mem_cons.1 hy with rfl | hy
    · exact hx
    · exact A y hy
  · rw [if_neg hx]
    have I:dL jd (l.take (k+1) ++ l.drop (k+1)):=by rw [List.take_append_drop]; exact h
    refine ⟨lC fX I (fun y hy=>?_) A,?_⟩
    · have e:l.take (k+1)=l.take k ++ [l[k]]:=by rw [List.take_add_one,List.getElem?_eq_getElem D]; rfl
      have h2:dL jd (l.take k ++ [l[k]]):=by rw [← e]; exact I.left
      rw [e] at hy;exact rU fX h2 (Bool.eq_false_iff.2 hx) y hy
    · have:=jz fX (m1:=l.take (k+1)) (m2:=l.drop (k+1)) (x:=x) A
      rwa [List.take_append_drop] at this
theorem mi (l:List bp):dL jd (mj l)∧aH jd l (mj l):=by
 have key : ∀ (r p m:List bp),dL jd m→aH jd p m→dL jd (r.foldl (fun m x=>kB x m m.length) m)∧aH jd (p ++ r) (r.foldl (fun m x=>kB x m m.length) m):=fun r=>by
  induction r with
  | nil=>intro p m h1 h2; rw [List.append_nil]; exact ⟨h1,h2⟩
  | cons x r D =>
   intro p m h1 h2;obtain ⟨h3,I⟩:=pV (x:=x) h1 m.length (Nat.le_refl _) (by rw [List.drop_length]; intro y hy; cases hy);have A:=D (p ++ [x]) _ h3 ((h2.app (aH.refl [x])).trans I);rw [List.append_assoc] at A;exact A
 have:=key l [] [] mV (aH.refl _)
 exact this
theorem eK (c:UInt8) (w:World):Calls Tryz.prog 53 #[.int .u8 c.toNat] w fun e w'=>e = .returned (.bool (cDigit c))∧w=w':=by
 go_enter Tryz.func53,Tryz.ntmps53
 go_wp2
 all_goals (go_ret; exact ⟨aD (by rw [Bool.eq_iff_iff]; simp [cDigit]; omega),rfl⟩)
theorem ix (c:UInt8) (w:World):Calls Tryz.prog 54 #[.int .u8 c.toNat] w fun e w'=>e = .returned (.int .u8 ((du c).toNat:Nat))∧w=w':=by
 by_cases h:65≤c.toNat∧c.toNat≤90
 · have d1:decide ((65:Int)≤(c.toNat:Int))=true:=decide_eq_true (by omega)
   have D:decide ((c.toNat:Int)≤(90:Int))=true:=decide_eq_true (by omega);have I:IntKind.u8.wrap ((c.toNat:Int)+32)=(c.toNat:Int)+32:=by unfold IntKind.wrap; simp [IntKind.bits,IntKind.signed]; omega
   have A:(((du c).toNat:Nat):Int)=(c.toNat:Int)+32:=by rw [nZ h]; omega
   rw [A];go_enter Tryz.func54,Tryz.ntmps54
   go_wp2
   go_ret
   exact ⟨rfl,rfl⟩
 · rw [m8 h]
   by_cases h1:65≤c.toNat
   · have d1:decide ((65:Int)≤(c.toNat:Int))=true:=decide_eq_true (by omega)
     have D:decide ((c.toNat:Int)≤(90:Int))=false:=decide_eq_false (by omega);go_enter Tryz.func54,Tryz.ntmps54
     go_wp2
     go_ret
     exact ⟨rfl,rfl⟩
   · have d1:decide ((65:Int)≤(c.toNat:Int))=false:=decide_eq_false (by omega)
     go_enter Tryz.func54,Tryz.ntmps54
     go_wp2
     go_ret
     exact ⟨rfl,rfl⟩
theorem kA (c:UInt8):(du c=c ∧ ¬ (65≤c.toNat∧c.toNat≤90))∨((du c).toNat=c.toNat+32∧65≤c.toNat∧c.toNat≤90):=by
 by_cases h:65≤c.toNat∧c.toNat≤90
 · exact .inr ⟨nZ h,h⟩
 · exact .inl ⟨m8 h,h⟩
theorem lU (c:UInt8):fV (du c)=fV c:=by
 rcases kA c with ⟨h,-⟩ | ⟨h,h1,h2⟩
 · rw [h]
 · unfold fV; rw [h,Bool.eq_iff_iff]; simp; omega
theorem gh (c:UInt8):cDigit (du c)=cDigit c:=by
 rcases kA c with ⟨h,-⟩ | ⟨h,h1,h2⟩
 · rw [h]
 · unfold cDigit; rw [h,Bool.eq_iff_iff]; simp; omega
theorem By (c:UInt8):((du c).toNat == 45)=(c.toNat == 45):=by
 rcases kA c with ⟨h,-⟩ | ⟨h,h1,h2⟩
 · rw [h]
 · rw [h,Bool.eq_iff_iff]; simp; omega
theorem Ap (s:S) (k:Nat) (hk:k<s.size):(s.data.toList.map du)[k]'(by rw [List.length_map,au]; exact hk)=du s[k]:=by rw [List.getElem_map]; rfl
def jg (t:Bs):Nat:=t.countP cDigit
theorem rk (t:Bs):jg t≤t.length:=List.countP_le_length
theorem vh (t:Bs):decide (jg t<t.length)=!ep t:=by
 have h1:=rk t
 have h2:jg t=t.length↔ep t=true:=by
  unfold jg ep;rw [List.countP_eq_length,List.all_eq_true]
 cases hn:ep t with
 | true=>rw [h2.2 hn]; simp
 | false =>
  have:jg t≠t.length:=fun e=>by rw [h2.1 e] at hn; cases hn
  simp; omega
theorem io (t:Bs) (c:UInt8):jg (t ++ [c])=jg t+if cDigit c=true then 1 else 0:=by
 unfold jg;rw [List.countP_append,List.countP_singleton]
def bN (p:Pc):aM:=⟨p.hyphen,ep p.text,p.text⟩
def br (p:aM):List Value:=[.bool (!p.number),.bool p.hyphen,.string (bs p.text)]
theorem bI (p:aM):(br p).length=3:=rfl
theorem fZ (p:aM) : ∀ u ∈ br p,u.oneCell'=true:=by simp [br,Value.oneCell']
theorem jU (p:aM) : ∀ y ∈ [p],∀ u ∈ br y,u.oneCell'=true:=by
 intro y hy;obtain rfl:=List.mem_singleton.1 hy;exact fZ y
def gi (b:Bool):List Value:=[.bool b]
theorem dW (b:Bool):(gi b).length=1:=rfl
theorem iL (b:Bool) : ∀ y ∈ [b],∀ u ∈ gi y,u.oneCell'=true:=by
 intro y hy;obtain rfl:=List.mem_singleton.1 hy;simp [gi,Value.oneCell']
theorem gD:(Tryz.prog.info? 98).map (fun i=>(i.zero,i.size,i.bytes))=some (some (.agg #[.bool false,.bool false,.string ⟨#[]⟩]),3,24):=by kernel_rfl
theorem na:(Tryz.prog.info? 4).map (fun i=>(i.zero,i.size,i.bytes))=some (some (.bool false),1,1):=by kernel_rfl
structure aN (b:Nat) (w wr:World) (vl vn:Value) (Ls:List aM) (Ns:List Bool) (cs:List Value):Prop where
 base:w.heap.size=b
 below:Below b w wr
 box:ak wr (b+1) cs
 l:aj (b+2) 98 3 br wr vl Ls
 n:aj b 4 1 gi wr vn Ns
 sn : ∀ j,vn.ownBlock=some j→j≠b+1
 ln : ∀ j,vl.ownBlock=some j→vn.ownBlock≠some j
theorem aN.size {b:Nat} {w wr:World} {vl vn:Value} {Ls:List aM} {Ns:List Bool} {cs:List Value} (h:aN b w wr vl vn Ls Ns cs):b+2≤wr.heap.size:=h.box.lt
theorem aN.sl {b:Nat} {w wr:World} {vl vn:Value} {Ls:List aM} {Ns:List Bool} {cs:List Value} (h:aN b w wr vl vn Ls Ns cs) (j:Nat) (A:vl.ownBlock=some j):j≠b+1:=by have:=(h.l.lt j A).1; omega
theorem nK {v:Value} {r:Nat} (h : ∀ j,v.ownBlock=some j→j≠r):v.ownBlock=none∨v.ownBlock≠some r:=by
 cases A:v.ownBlock with
 | none=>exact .inl rfl
 | some j=>exact .inr fun e=>h j A (by cases e; rfl)
theorem pK {v u:Value} (h : ∀ j,v.ownBlock=some j→u.ownBlock≠some j):u.ownBlock=none∨u.ownBlock≠v.ownBlock:=by
 cases A:v.ownBlock with
 | none =>
  cases D:u.ownBlock with
  | none=>exact .inl rfl
  | some j=>exact .inr (by simp)
 | some j=>exact .inr (h j A)
theorem tS {v u:Value} (h : ∀ j,v.ownBlock=some j→u.ownBlock≠some j):v.ownBlock=none∨v.ownBlock≠u.ownBlock:=by
 cases A:v.ownBlock with
 | none=>exact .inl rfl
 | some j=>exact .inr fun e=>h j A e.symm
theorem aN.boxed {b:Nat} {w wr W:World} {vl vn:Value} {Ls:List aM} {Ns:List Bool} {cs cs':List Value} (h:aN b w wr vl vn Ls Ns cs) (hB:ak W (b+1) cs') (A:wr.grownBy W (some (b+1))):aN b w W vl vn Ls Ns cs' :=
 have D:=h.size;⟨h.base,h.below.trans (aS A (by omega) (by omega)),hB,h.l.kept A (nK h.sl),h.n.kept A (nK h.sn),h.sn,h.ln⟩
theorem aN.later {b:Nat} {w wr W:World} {vl vn:Value} {Ls:List aM} {Ns:List Bool} {cs:List Value} (h:aN b w wr vl vn Ls Ns cs) (A:Below wr.heap.size wr W):aN b w W vl vn Ls Ns cs :=
 have D:=h.size;⟨h.base,h.below.trans (A.mono (by omega)),h.box.below A h.box.lt,h.l.below A,h.n.below A,h.sn,h.ln⟩
theorem aN.putL {b:Nat} {w wr W:World} {vl vn D:Value} {Ls I:List aM} {Ns:List Bool} {cs:List Value} (h:aN b w wr vl vn Ls Ns cs) (U:aj (b+2) 98 3 br W D I) (J:wr.grownBy W vl.ownBlock)
    (O:D.ownBlock=vl.ownBlock∨D.ownBlock=some wr.heap.size):aN b w W D vn I Ns cs :=
 have Z:=h.size
 ⟨h.base,h.below.grown J (by omega) (fun j A=>by have:=(h.l.lt j A).1; omega),h.box.grown J (fun e=>h.sl (b+1) e.symm rfl),U,h.n.kept J (pK h.ln),h.sn,fun j A hn=>by
  rcases O with e | e
  · exact h.ln j (e ▸ A) hn
  · rw [e] at A; cases A; have:=(h.n.lt _ hn).2; omega⟩
theorem aN.putN {b:Nat} {w wr W:World} {vl vn D:Value} {Ls:List aM} {Ns I:List Bool} {cs:List Value} (h:aN b w wr vl vn Ls Ns cs) (U:aj b 4 1 gi W D I) (J:wr.grownBy W vn.ownBlock)
    (O:D.ownBlock=vn.ownBlock∨D.ownBlock=some wr.heap.size):aN b w W vl D Ls I cs :=
 have Z:=h.size
 ⟨h.base,h.below.grown J (by omega) (fun j A=>(h.n.lt j A).1),h.box.grown J (fun e=>h.sn (b+1) e.symm rfl),h.l.kept J (tS h.ln),U,fun j A=>by
  rcases O with e | e
  · exact h.sn j (e ▸ A)
  · rw [e] at A; cases A; omega,fun j A hn=>by
  rcases O with e | e
  · exact h.ln j A (e ▸ hn)
  · rw [e] at hn; cases hn; have:=(h.l.lt _ A).2; omega⟩
theorem aN.setL {b:Nat} {w wr:World} {lo:Option Addr} {len D:Nat} {vn:Value} {Ls:List aM} {Ns:List Bool} {cs:List Value} {k j:Nat} {x:aM} (h:aN b w wr (.slice lo len D) vn Ls Ns cs) (hk:Ls[k]? = some x) (I:j<3) :
    ∃ g,lo=some ⟨g,0,none⟩∧g<wr.heap.size∧wr.frozen? ⟨g,k*3+j,none⟩=false∧(∀ i u,(br x)[i]? = some u→wr.cell? ⟨g,k*3+i,none⟩=some u) ∧
     ∀ u A,br A=(br x).set j u→aN b w (wr.setCell ⟨g,k*3+j,none⟩ u) (.slice lo len D) vn (Ls.set k A) Ns cs:=by
 obtain ⟨g,rfl,h1,h2,h3,U,O,J⟩:=bO bI h.l hk I;exact ⟨g,rfl,h2,U,O,fun u A hx=>h.putL (J u A hx) (ab _ _ _ _) (.inl rfl)⟩
def eF (L:List Pc) (k:Nat):List aM:=(L.take k).map bS ++ (L.drop k).map bN
theorem wC (L:List Pc):eF L 0=L.map bN:=by simp [eF]
theorem yA (L:List Pc):eF L L.length=L.map bS:=by simp [eF]
theorem yz (L:List Pc) (k:Nat):(eF L k).length=L.length:=by simp [eF]; omega
theorem uY {L:List Pc} {k:Nat} (hk:k<L.length):(eF L k)[k]? = some (bN L[k]):=by
 unfold eF;rw [List.getElem?_append_right (by rw [List.length_map,List.length_take]; omega),List.length_map,List.length_take,Nat.min_eq_left (by omega),Nat.sub_self,List.drop_eq_getElem_cons hk];rfl
theorem yy {L:List Pc} {k:Nat} (hk:k<L.length):(eF L k).set k (bS L[k])=eF L (k+1):=by
 unfold eF;have e1:(L.take (k+1)).map bS=(L.take k).map bS ++ [bS L[k]]:=by rw [List.take_add_one,List.getElem?_eq_getElem hk,List.map_append]; rfl
 have e2:(L.drop k).map bN=bN L[k]::(L.drop (k+1)).map bN:=by rw [List.drop_eq_getElem_cons hk]; rfl
 rw [List.set_append,if_neg (by rw [List.length_map,List.length_take]; omega),List.length_map,List.length_take,Nat.min_eq_left (by omega),Nat.sub_self,e1,e2,List.set_cons_zero,List.append_assoc];rfl
theorem ss (x:S) (h:0<x.size) (A:x[0].toNat=48):cB x.data.toList=cB (x.extract 1 x.size).data.toList:=by
 rw [lY x h];unfold cB;rw [List.dropWhile_cons,if_pos (by simp [A])]
theorem sr (x:S) (h:0<x.size) (A:x[0].toNat≠48):cB x.data.toList=x.data.toList:=by
 rw [lY x h];unfold cB;rw [List.dropWhile_cons,if_neg (by simp [A])]
theorem tY (x:S) (h:x.size=0):cB x.data.toList=x.data.toList:=by
 have:x.data.toList=[]:=List.eq_nil_of_length_eq_zero (by rw [au]; exact h)
 rw [this]; rfl
end Go.Proofs.YtominiaohfjobaaGreatDoor
