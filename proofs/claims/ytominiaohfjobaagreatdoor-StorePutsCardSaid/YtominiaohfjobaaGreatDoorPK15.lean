/- Plain: the ids in order, and of each the versions in order, are the document's All; no program in sight. -/
import Derived.Test.YtominiaohfjobaaGreatDoorPK11
import Derived.Test.YtominiaohfjobaaGreatDoorSort
import Derived.Test.YtominiaohfjobaaGreatDoorShelf
import Derived.Sort.Grow
import Derived.Shelf.SlSortCmp.NoneTotal
import Derived.Test.YtominiaohfjobaaGreatDoorPK14
import Derived.Test.YtominiaohfjobaaGreatDoorPK08
import Derived.Maps.RangeWalk
import Derived.Test.YtominiaohfjobaaGreatDoorPK07
import Derived.Deep.CutRange
set_option maxRecDepth 100000
set_option maxHeartbeats 64000000
namespace Go.Proofs.YtominiaohfjobaaGreatDoor
open Go Go.RowKit
def iZ:Id→Id→Int:=mQ (fun a b=>dD a.group b.group) (fun a b=>dD a.artifact b.artifact)
theorem dU:eH iZ:=(iJ.via fun x:Id=>x.group).lex (iJ.via fun x:Id=>x.artifact)
def iX (x:Id) (v:S):bp:=⟨x.group,x.artifact,v⟩
def jo (A:List Id) (M:Id→List S):List bp:=A.flatMap fun x=>(M x).map (iX x)
theorem zf {a b:bp} (h:iZ (bh a) (bh b)<0):jd b a=false:=by
 unfold jd;refine decide_eq_false fun hlt=>?_
 have hf:=jV.flip b a
 have key : ∀ p q r:Int,(if p≠0 then p else q)<0→(if p≠0 then p else if q≠0 then q else r)<0:=by
  intro p q r h;by_cases hp:p≠0
  · rw [if_pos hp] at h ⊢; exact h
  · rw [if_neg hp] at h ⊢; rw [if_pos (by omega)]; exact h
 have h1:rn a b<0:=key _ _ _ h;omega
theorem oq (x:Id) (v:S):bh (iX x v)=x:=rfl
theorem yK {g:bp} {x:Id} (h:bh g=x):iX x g.version=g:=by subst h; rfl
theorem Bb (x:Id) (u v:S):jd (iX x u) (iX x v)=lW u v:=nY (a:=iX x u) (b:=iX x v) rfl
theorem vR {A:List Id} {M:Id→List S} (D:A.Pairwise fun x y=>iZ x y<0) (J : ∀ x ∈ A,dL lW (M x)):dL jd (jo A M):=by
 unfold dL jo;rw [List.pairwise_flatMap];refine ⟨fun x hx=>?_,D.imp fun {x y} h a ha b I=>?_⟩
 · rw [List.pairwise_map]
   exact (J x hx).imp fun h=>by rw [Bb]; exact h
 · obtain ⟨u,-,rfl⟩:=List.mem_map.1 ha
   obtain ⟨v,-,rfl⟩:=List.mem_map.1 I;exact zf (by rw [oq,oq]; exact h)
theorem qf (g:bp) (N:List bp):N.filter (jf jd g)=((cV N (bh g)).filter (jf lW g.version)).map (iX (bh g)):=by
 unfold cV;rw [List.filter_map,List.filter_filter,List.map_map]
 have h1:N.filter (jf jd g)=N.filter fun b=>(jf lW g.version ∘ fun g=>g.version) b && decide (bh b=bh g):=by
  refine List.filter_congr fun b _=>?_
  by_cases A:bh b=bh g
  · have e1:=nY (a:=g) (b:=b) A.symm
    have e2:=nY (a:=b) (b:=g) A;simp only [jf,Function.comp,A,decide_true,Bool.and_true,e1,e2]
  · rw [decide_eq_false A,Bool.and_false]
    cases D:jf jd g b with
    | false=>rfl
    | true=>exact absurd (Az D).symm A
 rw [h1];conv=>lhs; rw [← List.map_id (List.filter _ N)]
 refine List.map_congr_left fun b A=>?_
 have h2:=(List.mem_filter.1 A).2;rw [Bool.and_eq_true] at h2;exact (yK (of_decide_eq_true h2.2)).symm
theorem nr {x:Id} {M:Id→List S} : ∀ {A:List Id},A.Nodup→cV (jo A M) x=if x ∈ A then M x else []
 | [],_=>by simp [cV,jo]
 | y::A,h=>by
  have J:=nr (x:=x) (M:=M) (List.nodup_cons.1 h).2;have e:jo (y::A) M=(M y).map (iX y) ++ jo A M:=by unfold jo; rw [List.flatMap_cons]
  have e2:cV ((M y).map (iX y) ++ jo A M) x=cV ((M y).map (iX y)) x ++ cV (jo A M) x:=by unfold cV; rw [List.filter_append,List.map_append]
  rw [e,e2,J];by_cases hx:x=y
  · subst hx
    have hn:=(List.nodup_cons.1 h).1;rw [if_neg hn,if_pos (by simp),List.append_nil];unfold cV;rw [List.filter_eq_self.2 (fun b I=>by obtain ⟨u,-,rfl⟩:=List.mem_map.1 I; exact decide_eq_true rfl),List.map_map];conv=>rhs; rw [← List.map_id (M x)]
    exact List.map_congr_left fun u _=>rfl
  · have h0:cV ((M y).map (iX y)) x=[]:=by
     unfold cV;rw [List.filter_eq_nil_iff.2 (fun b I=>by obtain ⟨u,-,rfl⟩:=List.mem_map.1 I; rw [oq]; exact fun e=>hx (of_decide_eq_true e).symm)];rfl
    rw [h0,List.nil_append];by_cases D:x ∈ A
    · rw [if_pos D,if_pos (by simp [D])]
    · rw [if_neg D,if_neg (by simp [D,hx])]
theorem BG {gs:List bp} {A:List Id} {M:Id→List S} (I:A.Pairwise fun x y=>iZ x y<0) (O : ∀ g ∈ gs,bh g ∈ A) (U : ∀ x ∈ A,dL lW (M x)∧aH lW (cV gs x) (M x)):jo A M=mj gs:=by
 have J:A.Nodup:=by
  rw [List.nodup_iff_pairwise_ne];refine I.imp fun {x y} h e=>?_
  subst e;have:=dU.flip x x
  omega
 refine (rT fX (mi gs).1 (vR I fun x hx=>(U x hx).1) ((mi gs).2.symm.trans ?_)).symm
 intro g;rw [qf g gs,qf g (jo A M),nr J];by_cases D:bh g ∈ A
 · rw [if_pos D,(U _ D).2 g.version]
 · rw [if_neg D]
   have h0:cV gs (bh g)=[]:=by
    unfold cV;rw [List.filter_eq_nil_iff.2 (fun b Z=>?_)]
    · rfl
    · simp only [decide_eq_true_eq]
      intro e;exact D (e ▸ O b Z)
   rw [h0]
end Go.Proofs.YtominiaohfjobaaGreatDoor
namespace Go.Proofs.YtominiaohfjobaaGreatDoor
open Go Go.RowKit Go.Sort Go.Proofs
structure fM (B:Nat) (w w':World):Prop where
 b:Below B w w'
 d:w.drawn≤w'.drawn
theorem fM.refl (B:Nat) (w:World):fM B w w:=⟨Below.refl B w,Nat.le_refl _⟩
theorem fM.trans {B:Nat} {a b c:World} (h:fM B a b) (k:fM B b c):fM B a c:=⟨h.b.trans k.b,Nat.le_trans h.d k.d⟩
theorem fM.mono {B A:Nat} {a b:World} (h:fM B a b) (hB:A≤B):fM A a b:=⟨h.b.mono hB,h.d⟩
theorem fM.size {B:Nat} {a b:World} (h:fM B a b):a.heap.size≤b.heap.size:=h.b.size
theorem fM.alloc {B:Nat} {a b:World} (h:fM B a b) (hB:B≤b.heap.size) (o:Obj):fM B a (b.alloc o):=⟨h.b.alloc hB o,h.d⟩
theorem fM.setCell {B:Nat} {a b:World} {p:Addr} (h:fM B a b) (hB:B≤p.block) (v:Value):fM B a (b.setCell p v):=⟨h.b.setCell hB v,h.d⟩
theorem fM.cell {B:Nat} {a b:World} (h:fM B a b) {p:Addr} (hp:p.block<B):b.cell? p=a.cell? p:=h.b.cell hp
theorem B5 {B:Nat} {w w':World} (h:fM B w w') (n:Nat):fM B w (w'.drewN n):=⟨aY h.b n,Nat.le_trans h.d (Nat.le_add_right _ _)⟩
theorem vd {w w':World} (h:fM w.heap.size w w') : ∃ q A,w'=grow (w.drewN q) A:=by
 obtain ⟨⟨h1,h2,h3,O,J⟩,I⟩:=h;refine ⟨w'.drawn - w.drawn,w'.heap.extract w.heap.size w'.heap.size,?_⟩
 have hh:w'.heap=w.heap ++ w'.heap.extract w.heap.size w'.heap.size:=by
  apply Array.ext
  · simp; omega
  · intro i D ac
    by_cases hk:i<w.heap.size
    · have:=J i hk
      rw [Array.getElem?_eq_getElem D,Array.getElem?_eq_getElem hk] at this;rw [Array.getElem_append_left hk];simpa using this
    · rw [Array.getElem_append_right (by omega)]
      simp only [Array.getElem_extract];congr 1
      omega
 obtain ⟨aa,U,ad,A,Z⟩:=w';obtain ⟨hp,tp,dr,os,ou⟩:=w;simp only at h1 h2 h3 O I hh;subst h1 h2 h3;unfold grow World.drewN;simp only [World.mk.injEq];refine ⟨hh,trivial,by omega,trivial,trivial⟩
theorem jA (x:Id):(jj x).length=2:=rfl
theorem yG (x:Id) : ∀ v ∈ jj x,v.oneCell'=true:=by
 intro v h;simp [jj] at h
 rcases h with rfl | rfl <;> rfl
instance Av:Inhabited Id:=⟨⟨⟨#[]⟩,⟨#[]⟩⟩⟩
theorem uo (x:Id):iZ x x=0:=by
 have h:=dU.flip x x;omega
theorem BV:SWO (ltOf iZ) where
 irrefl x:=by unfold ltOf; rw [uo]; decide
 trans x y z h1 h2:=by
  unfold ltOf at *;rw [decide_eq_true_eq] at *;exact dU.ltle h1 (Int.le_of_lt h2)
 ntrans x y z h1 h2:=by
  unfold ltOf at *;rw [decide_eq_false_iff_not] at *;have f1:=dU.flip x y;have f2:=dU.flip y z;have f3:=dU.flip x z;have:=dU.le z y x (by omega) (by omega)
  omega
theorem un (p q:Id) (w:World):Calls Tryz.prog 25 #[.agg (jj p).toArray,.agg (jj q).toArray] w fun e w'=>e = .returned (.int .i64 (iZ p q)) ∧ ∃ n os,w'=grow (w.drewN n) os:=by
 have O:Hid (∀ o1 o2,fM w.heap.size w ((w.alloc o1).alloc o2)):=fun o1 o2=>((fM.refl _ w).alloc (Nat.le_refl _) _).alloc (by simp) _;have J:Hid (∀ (a b:S) w',Calls Tryz.prog 26 #[.string a,.string b] w' fun e D=>e = .returned (.int .i64 (dD a b))∧D=w'):=fun a b w'=>Tryz.strings_Compare a b w';have I:Hid (iZ p q=if dD p.group q.group≠0 then dD p.group q.group else dD p.artifact q.artifact):=rfl;generalize iZ p q=z at *;unfold jj;generalize hx:dD p.group q.group=x at *;generalize hy:dD p.artifact q.artifact=y at *;have Z:=zH hx;have U:=zH hy;clear hx hy;go_enter Tryz.func25,Tryz.ntmps25
 go_wp2_with fail
 refine (J.out _ _ _).mono ?_
 rintro e w1 ⟨rfl,rfl⟩;rw [Z.out];by_cases hz:x=0
 · have A:Hid (z=y):=by show _=_; rw [I.out,if_neg (by simp [hz])]
   have h1:(x != 0)=false:=by simp [hz]
   clear hz;go_wp2_with fail
   refine (J.out _ _ _).mono ?_
   rintro e w1 ⟨rfl,rfl⟩;rw [U.out];go_wp2
   go_ret
   exact ⟨by rw [A.out]; rfl,vd (O.out _ _)⟩
 · have A:Hid (z=x):=by show _=_; rw [I.out,if_pos hz]
   have h1:(x != 0)=true:=by simp [hz]
   clear hz;go_wp2
   go_ret
   exact ⟨by rw [A.out]; rfl,vd (O.out _ _)⟩
theorem rW (blk off cap:Nat) (d:Array Id) (w:World) (O:HoldsK jj 2 w blk off d) (A:blk<w.heap.size) (I:d.size<4611686018427387904) :
    Calls Tryz.prog 24 #[.slice (some ⟨blk,off,none⟩) d.size cap,.func (.func 25) #[] #[]] w fun e w'=>e = .returned (.tuple #[]) ∧ ∃ D n os,PermIn 0 d.size d D∧SortedIn (ltOf iZ) 0 d.size D∧w'=sortWorldK jj 2 w blk off n D os:=by
 have U : ∀ args w,(callFunc 25 args).run Tryz.prog w = .ok (.enter 25 args) w:=enters_of Tryz.func25 (by kernel_rfl) rfl;exact AnyQ.slices_SortFunc Tryz.sortIds 2 Tryz.isAgg24 Tryz.sizeOf24 jj jA (fun x v J=>yG x v J) iZ BV 25 #[] blk off cap d w U (fun m os Z _ x y=>un x y _) O A I
theorem sO (l:List Id) {t:Nat} (h:t<l.length*2):(l.flatMap jj)[t]? = some ((flatK jj 2 l.toArray)[t]!):=by
 have D:t / 2<l.length:=Nat.div_lt_of_lt_mul (by omega);have A:t % 2<2:=Nat.mod_lt _ (by decide);have h1:=dC jA l (t / 2) (t % 2) l[t / 2] (by simp [D]) A;rw [Nat.div_add_mod' t 2] at h1;rw [h1,get_flatK _ _ _ _ (by simpa using h)];have e:l.toArray[t / 2]! = l[t / 2]:=by rw [getElem!_pos l.toArray (t / 2) (by simpa using D)]; simp
 rw [e,getElem!_pos (jj l[t / 2]) (t % 2) (by rw [jA]; exact A)];simp
theorem ug {l:List Id} {g:Nat} {w:World} (h : ∀ t,t<l.length*2→w.cell? ⟨g,t,none⟩=(l.flatMap jj)[t]?∧w.frozen? ⟨g,t,none⟩=false):HoldsK jj 2 w g 0 l.toArray:=fun j D=>by
 have A:j<l.length*2:=by simpa using D
 rw [Nat.zero_add];exact ⟨by rw [(h j A).1,sO l A]; rfl,(h j A).2⟩
theorem A0 (l:List Id) (v:Value) (w:World) (base:Nat) (ho:aj base 24 2 jj w v l) (hl:l.length≤1000) :
    Calls Tryz.prog 24 #[v,.func (.func 25) #[] #[]] w fun e w'=>e = .returned (.tuple #[]) ∧ ∃ s:List Id,s.Perm l∧(s.Pairwise fun p q=>iZ p q≤0)∧af 2 jj w' v s∧w.grownBy w' v.ownBlock:=by
 rcases id ho.2 with ⟨rfl,h0⟩ | ⟨g,cap,a8,rfl,hb,hg,ad,hm,hcs,ht⟩
 · obtain rfl:=List.eq_nil_of_length_eq_zero h0
   refine (AnyF.slices_SortFunc_none Tryz.sortIds none 0 _ w).mono ?_
   rintro e w' ⟨rfl,rfl⟩;exact ⟨rfl,[],.nil,.nil,af.nil,World.grownBy.refl _ _⟩
 · have I:g<w.heap.size:=(Array.getElem?_eq_some_iff.1 hg).1
   have hH:HoldsK jj 2 w g 0 l.toArray:=ug fun t h=>⟨World.ownsRow.cellAt ho t h,World.ownsRow.frozenAt ho t⟩;have hr:=rW g 0 cap l.toArray w hH I (by simp; omega);rw [show l.toArray.size=l.length by simp] at hr;refine hr.mono ?_
   rintro e w' ⟨rfl,A,n,os,hp,hs,rfl⟩;have D:A.size=l.length:=by simpa using hp.1
   have O:HoldsK jj 2 (sortWorldK jj 2 w g 0 n A os) g 0 A:=by
    unfold sortWorldK;exact holds_grow _ _ _ _ _ _ (by simpa [putRowK,putRow,mapBlock,ahead] using I) (holds_putRow _ _ _ _ _ _ hH (by simp [D]))
   refine ⟨rfl,A.toList,?_,?_,?_,?_⟩
   · have h1:A.toList.Perm (List.take A.size l):=by simpa [← D] using hp.2.2
     rwa [D,List.take_length] at h1
   · rw [List.pairwise_iff_getElem]
     intro i j hi U al;have ah:j<A.size:=by simpa using U
     have a0:i<A.size:=by simpa using hi
     have h1:=hs i j (Nat.zero_le _) al (by omega);rw [ltOf,decide_eq_false_iff_not,getElem!_pos A j ah,getElem!_pos A i a0] at h1;have h2:=dU.flip A[j] A[i];simp only [Array.getElem_toList];omega
   · have J:A.toList.length=l.length:=by simp [D]
     refine ⟨some ⟨g,0,none⟩,cap,by rw [J],by rw [J]; exact ad,hm,by simp,fun i x hx=>?_⟩
     have hi:i<A.size:=by simpa using (List.getElem?_eq_some_iff.1 hx).1
     refine ⟨g,0,rfl,?_,fun j u Z=>?_⟩
     · have h1:=(O 0 (by simp; omega)).1
       exact World.block_lt_of_cell? _ _ h1
     · have U:j<2:=by rw [← jA x]; exact (List.getElem?_eq_some_iff.1 Z).1
       have hlt:i*2+j<A.size*2:=by omega
       have h1:=(O (i*2+j) (by simpa using hlt)).1;rw [← Nat.add_assoc] at h1;rw [h1];have h2:=sO A.toList (t:=i*2+j) (by simpa using hlt);rw [dC jA A.toList i j x hx U,Z] at h2;simpa using h2.symm
   · refine ⟨rfl,rfl,rfl,?_,fun k hk ac=>?_⟩
     · simp [sortWorldK,grow,putRowK,putRow,mapBlock]
     · have ag:k≠g:=by simpa [Value.ownBlock] using ac
       simp only [sortWorldK];rw [heap_grow_old _ _ (by simpa [putRowK,putRow,mapBlock,ahead] using hk)];simp [putRowK,putRow,mapBlock,Array.getElem?_modify,Ne.symm ag]
end Go.Proofs.YtominiaohfjobaaGreatDoor
namespace Go.Proofs.YtominiaohfjobaaGreatDoor
open Go Go.RowKit
def Ce (p:bp × S):List Value:=[.string p.1.group,.string p.1.artifact,.string p.1.version,.string p.2]
theorem af.atE {w:World} {ao:Option Addr} {len cap:Nat} {l:List (bp × S)} (h:af 4 Ce w (.slice ao len cap) l) {k:Nat} (hk:k<l.length) :
    ∃ b o,ao=some ⟨b,o,none⟩∧b<w.heap.size∧w.cell? ⟨b,o+k*4,none⟩=some (.string l[k].1.group)∧w.cell? ⟨b,o+k*4+1,none⟩=some (.string l[k].1.artifact)∧w.cell? ⟨b,o+k*4+2,none⟩=some (.string l[k].1.version)∧w.cell? ⟨b,o+k*4+3,none⟩=some (.string l[k].2):=by
 obtain ⟨J,I,h1,h2,hm,h3,D⟩:=h;cases h1
 obtain ⟨b,o,e,hlt,A⟩:=D k l[k] (List.getElem?_eq_getElem hk);exact ⟨b,o,e,hlt,A 0 _ rfl,A 1 _ rfl,A 2 _ rfl,A 3 _ rfl⟩
theorem bR.bound {F:Nat→Prop} {w:World} {b:Nat} {es:List (bF × Nat)} {r a:Int} (h:bR F w b es r a) : ∀ k,F k→k<w.heap.size:=by
 obtain ⟨_,_,_,_,_,_,h⟩:=h;exact h.lt
theorem Bw {w w1 W:World} {bs:Nat} {F:Nat→Prop} (h:bR F w1 bs [] 0 0) (J : ∀ k,F k→w.heap.size≤k) (O:w.heap.size≤w1.heap.size) (I:Below w1.heap.size w1 W) (hx:ak W w1.heap.size [.slice none 0 0,.slice none 0 0,.slice none 0 0,.int .i64 0]):rF w.heap.size W bs w1.heap.size [] :=
 ⟨F,fun k=>k=w1.heap.size,.slice none 0 0,.slice none 0 0,.slice none 0 0,[],[],h.below I,fun e he=>by (cases he),
  ⟨hx,aj.nil,aj.nil,aj.nil,rfl,fun j A=>by (cases A),fun j A=>by (cases A),fun j A=>by (cases A),fun j A=>by (cases A),fun j A=>by (cases A),fun j A=>by (cases A)⟩,
  fun k hk e=>by have:=h.bound k hk; omega,fun k e=>by have:=hx.lt; omega,J,fun k e=>by omega,Nat.le_refl _,Nat.le_refl _,fun g D=>by (cases D)⟩
structure iQ {K:Type} (kc:K→Value) (w:World) (m r:Nat) (L:List (aF K)) (c:Nat) (S:List (aF K)):Prop where
 map:de kc w m L c
 it:w.heap[r]? = some (.mapIter (some m) c (S.map (·.born)).toArray c)
 sub : ∀ e ∈ S,e ∈ L
 each:(S.map (·.born)).Nodup
theorem iQ.lt {K:Type} {kc:K→Value} {w:World} {m r:Nat} {L:List (aF K)} {c:Nat} {S:List (aF K)} (h:iQ kc w m r L c S):r<w.heap.size:=(Array.getElem?_eq_some_iff.1 h.it).1
theorem iQ.kept {K:Type} {kc:K→Value} {w w':World} {m r:Nat} {L:List (aF K)} {c:Nat} {S:List (aF K)} (h:iQ kc w m r L c S) (hm:w'.heap[m]? = w.heap[m]?) (A:w'.heap[r]? = w.heap[r]?):iQ kc w' m r L c S :=
 ⟨hm.trans h.map,A.trans h.it,h.sub,h.each⟩
theorem iQ.below {K:Type} {kc:K→Value} {w w':World} {m r:Nat} {L:List (aF K)} {c B:Nat} {S:List (aF K)} (h:iQ kc w m r L c S) (A:Below B w w') (hm:m<B) (D:r<B):iQ kc w' m r L c S:=h.kept (A.block m hm) (A.block r D)
theorem iQ.grown {K:Type} {kc:K→Value} {w w':World} {m r:Nat} {L:List (aF K)} {c:Nat} {S:List (aF K)} {row:Option Nat} (h:iQ kc w m r L c S) (A:w.grownBy w' row) (hm:some m≠row) (D:some r≠row):iQ kc w' m r L c S :=
 h.kept (A.block m h.map.lt hm) (A.block r h.lt D)
theorem sW {K:Type} {L:List (aF K)} (h:(L.map (·.born)).Nodup) {e f:aF K} (he:e ∈ L) (hf:f ∈ L) (A:e.born=f.born):e=f:=by
 induction L with
 | nil=>cases he
 | cons x L D =>
  rw [List.map_cons,List.nodup_cons] at h;rcases List.mem_cons.1 he with h1 | h1
  · rcases List.mem_cons.1 hf with h2 | h2
    · rw [h1,h2]
    · exact absurd (List.mem_map.2 ⟨f,h2,by rw [← A,h1]⟩) h.1
  · rcases List.mem_cons.1 hf with h2 | h2
    · exact absurd (List.mem_map.2 ⟨e,h1,by rw [A,h2]⟩) h.1
    · exact D h.2 h1 h2
theorem fF {α β:Type} {f:α→β} {l:List α} (h:(l.map f).Nodup):l.Nodup:=by
 rw [List.Nodup,List.pairwise_map] at h;exact h.imp fun A e=>A (by rw [e])
theorem iQ.len {K:Type} {kc:K→Value} {w:World} {m r:Nat} {L:List (aF K)} {c:Nat} {S:List (aF K)} (h:iQ kc w m r L c S) (hB:mT L c):S.length≤L.length:=by
 have h1:S.Perm (L.filter fun e=>decide (e.born ∈ S.map (·.born))):=by
  refine (List.perm_ext_iff_of_nodup (fF h.each) ((fF hB.each).filter _)).2 fun e=>⟨fun he=>?_,fun he=>?_⟩
  · exact List.mem_filter.2 ⟨h.sub e he,decide_eq_true (List.mem_map.2 ⟨e,he,rfl⟩)⟩
  · obtain ⟨A,D⟩:=List.mem_filter.1 he
    obtain ⟨f,hf,I⟩:=List.mem_map.1 (of_decide_eq_true D);exact (sW hB.each (h.sub f hf) A I) ▸ hf
 rw [h1.length_eq];exact List.length_filter_le _ _
theorem iQ.perm {K:Type} {kc:K→Value} {w:World} {m r:Nat} {L:List (aF K)} {c:Nat} {S:List (aF K)} (h:iQ kc w m r L c S) (hB:mT L c) (A : ∀ e ∈ L,e.born ∈ S.map (·.born)):S.Perm L:=by
 refine (List.perm_ext_iff_of_nodup (fF h.each) (fF hB.each)).2 fun e=>⟨h.sub e,fun he=>?_⟩
 obtain ⟨f,hf,D⟩:=List.mem_map.1 (A e he);exact (sW hB.each (h.sub f hf) he D) ▸ hf
theorem zI {P:Program} (w:World) {ops:Array Oper} {rest:List Oper} {o:Oper} {a:Act} {Q:Exit→Act→World→Prop} {K:Type} {kc:K→Value} (O:o.guard=none) (x:Operand) (t:TypeId) (D:o.op=Op.range t x) {k e:TypeId} (J:P.underlying t=some (.map k e)) {m:Nat} {L:List (aF K)} {c:Nat} (hm:a.eval x = .map (some m)) (h:de kc w m L c)
    (U : ∀ w',w'=w.alloc (.mapIter (some m) c #[] c)→iQ kc w' m w.heap.size L c []→wpList P ops Q rest (a.put o.dst (.pointer (some ⟨w.heap.size,0,none⟩))) w'):wpList P ops Q (o::rest) a w:=by
 refine wpList_plain O fun Z I=>?_
 have A:=run_range_map (P:=P) w t k e m _ c J h;unfold Oper.wp;simp [execOp,D,hm,A,Result.andThen]
 refine I _ _ (U _ rfl ⟨?_,?_,(fun e h=>by cases h),(by simp)⟩)
 · exact h.below ((Below.refl _ w).alloc (Nat.le_refl _) _) h.lt
 · exact heap_alloc_new w _
theorem zR {P:Program} (w:World) {ops:Array Oper} {rest:List Oper} {o:Oper} {a:Act} {Q:Exit→Act→World→Prop} {K:Type} {kc:K→Value} (hg:o.guard=none) (x:Operand) (Z:o.op=Op.next x false) {m r:Nat} {L:List (aF K)} {c:Nat} {S:List (aF K)} (hB:mT L c) (hx:a.eval x = .pointer (some ⟨r,0,none⟩)) (a5:m≠r) (h:iQ kc w m r L c S)
    (O:S.Perm L→wpList P ops Q rest (a.put o.dst (.tuple #[.bool false])) w)
    (J : ∀ e w',e ∈ L→iQ kc w' m r L c (S ++ [e])→w.grownBy w' (some r)→w'.heap.size=w.heap.size→(Instr.entry (.pointer (some ⟨r,0,none⟩))).run P w' = .ok (.tuple #[kc e.key,e.val]) w'→wpList P ops Q rest (a.put o.dst (.tuple #[.bool true,kc e.key,e.val])) w') :
    wpList P ops Q (o::rest) a w:=by
 refine wpList_plain hg fun K' ag=>?_
 unfold Oper.wp
 have al : ∀ y ∈ (L.map (aF.ent kc)).toArray.toList,y.born<c:=fun y hy=>by
  obtain ⟨e,he,rfl⟩:=List.mem_map.1 (by simpa using hy);exact hB.lt e he
 rcases run_next_at (P:=P) w o.type r m c c _ _ c h.it h.map al (Nat.le_refl c) with ⟨h0,D⟩ | ⟨y,hy,w1,I,D⟩
 · simp [execOp,Z,hx,D,Result.andThen]
   refine ag _ _ (O (h.perm hB fun e he=>?_))
   have h1:leftOf (L.map (aF.ent kc)).toArray (S.map (·.born)).toArray=#[]:=Array.eq_empty_of_size_eq_zero h0;unfold leftOf at h1;rw [Array.filter_eq_empty_iff] at h1;have h2:=h1 (aF.ent kc e) (by simpa using ⟨e,he,rfl⟩);simpa [aF.ent] using h2
 · unfold leftOf at hy
   have U:y ∈ (L.map (aF.ent kc)) ∧ ¬ y.born ∈ S.map (·.born):=by simpa using hy
   obtain ⟨e,he,rfl⟩:=List.mem_map.1 U.1;have a4 : ¬ e.born ∈ S.map (·.born):=U.2;have ah:((S.map (·.born)).toArray.push (aF.ent kc e).born)=(S.map (·.born) ++ [(aF.ent kc e).born]).toArray:=by simp
   rw [ah] at D;simp [execOp,Z,hx,D,Result.andThen]
   have a0:=h.lt;have A:w1.heap=w.heap:=by rcases I with rfl | rfl <;> rfl
   have ad:w.grownBy (ChangeMaps.setBlock w1 r (.mapIter (some m) c (S.map (·.born) ++ [(aF.ent kc e).born]).toArray c)) (some r):=by
    refine ⟨?_,?_,?_,?_,fun j _ hj=>?_⟩
    · rcases I with rfl | rfl <;> rfl
    · rcases I with rfl | rfl <;> rfl
    · rcases I with rfl | rfl <;> rfl
    · simp [ChangeMaps.setBlock,A]
    · have:r≠j:=fun e=>hj (by rw [e])
      simp [ChangeMaps.setBlock,A,this]
   have ac:(ChangeMaps.setBlock w1 r (.mapIter (some m) c (S.map (·.born) ++ [(aF.ent kc e).born]).toArray c)).heap[r]? = some (.mapIter (some m) c (S.map (·.born) ++ [(aF.ent kc e).born]).toArray c):=by
    simp [ChangeMaps.setBlock,A,a0]
   have aa:de kc (ChangeMaps.setBlock w1 r (.mapIter (some m) c (S.map (·.born) ++ [(aF.ent kc e).born]).toArray c)) m L c:=(ad.block m h.map.lt (fun e=>a5 (by injection e))).trans h.map
   have a7:iQ kc (ChangeMaps.setBlock w1 r (.mapIter (some m) c (S.map (·.born) ++ [(aF.ent kc e).born]).toArray c)) m r L c (S ++ [e]):=by
    refine ⟨aa,?_,fun f hf=>?_,?_⟩
    · rw [ac]; simp [aF.ent]
    · rcases List.mem_append.1 hf with hf | hf
      · exact h.sub f hf
      · rw [List.mem_singleton.1 hf]; exact he
    · rw [List.map_append,List.nodup_append]
      refine ⟨h.each,by simp,fun x hx y hy=>?_⟩
      simp at hy; subst hy;exact fun e2=>a4 (e2 ▸ hx)
   have a6:=run_entry_at (P:=P) _ r m c (S.map (·.born)).toArray _ c (aF.ent kc e) (by rw [ah]; exact ac) aa (by simpa using ⟨e,he,rfl⟩) (by
    have:((L.map (aF.ent kc)).map (·.born))=L.map (·.born):=by rw [List.map_map]; rfl
    show ((L.map (aF.ent kc)).toArray.toList.map (·.born)).Nodup
    rw [List.toList_toArray,this]
    exact hB.each)
   exact ag _ _ (J e _ he a7 ad (by simp [ChangeMaps.setBlock,A]) a6)
def tg (n j:Nat):Nat:=n / 3 ^ j % 3
def sS (ops:Array Oper) (i j:Nat):Bool:=((ops[i]?).map fun o=>o.after.toList.any fun e=>Region.binds .any e && decide (e.on=j)).getD false
def pD (ops:Array Oper) (R:List Nat):Bool:=(List.range ops.size).all fun i=>(List.range ops.size).all fun j =>
 (!decide (tg (R.getD i 0) j=1) || (sS ops i j || (List.range i).any fun d=>sS ops i d && decide (tg (R.getD d 0) j=1))) &&
 (!decide (tg (R.getD i 0) j=2) || (decide (j=i) || decide (tg (R.getD j 0) i=1)))
def BR:Nat→Bool→Prop→Prop
 | 0,_,p=>p
 | 1,f,p=>f=true∧p
 | _+2,f,p=>f=false∧p
def qe:Nat→List Bool→Prop
 | _,[]=>True
 | n,f::l=>BR (n % 3) f (qe (n / 3) l)
def zq:List Bool→Prop
 | []=>True
 | f::l=>f=true∧zq l
inductive xw (p:Nat→Prop):Nat→Prop
 | z:xw p 0
 | s {n:Nat}:xw p n→p n→xw p (n+1)
theorem xw.get {p:Nat→Prop} {k:Nat} (h:xw p k) : ∀ i,i<k→p i:=by
 induction h with
 | z=>intro i D; omega
 | s _ hp A =>
  intro i D;rename_i n _
  by_cases e:i=n
  · rw [e]; exact hp
  · exact A i (by omega)
theorem sP : ∀ (l:List Bool) (n:Nat),(∀ j,j<l.length→(tg n j=1→l[j]? = some true)∧(tg n j=2→l[j]? = some false))→qe n l
 | [],_,_=>trivial
 | f::l,n,h=>by
  have A:qe (n / 3) l:=sP l (n / 3) fun j D=>by
   have h1:=h (j+1) (by simpa using D);have e:tg n (j+1)=tg (n / 3) j:=by unfold tg; rw [Nat.pow_succ,Nat.mul_comm,Nat.div_div_eq_div_mul]
   rw [e] at h1;simpa using h1
  have h0:=h 0 (by simp);have e0:tg n 0=n % 3:=by simp [tg]
  rw [e0] at h0;have hlt:n % 3<3:=Nat.mod_lt _ (by decide);unfold qe;generalize n % 3=d at *;match d,hlt with
  | 0,_=>exact A
  | 1,_=>exact ⟨by simpa using h0.1 rfl,A⟩
  | 2,_=>exact ⟨by simpa using h0.2 rfl,A⟩
theorem qz : ∀ n:Nat,zq (List.replicate n true)
 | 0=>trivial
 | n+1=>⟨rfl,qz n⟩
def vo (ops:Array Oper) (l:Array Bool):Prop:=∀ i j,sS ops i j=true→l[i]? = some true→l[j]? = some true
theorem yX {ops:Array Oper} {i j:Nat} (h:sS ops i j=true) : ∃ o,ops[i]? = some o ∧ ∃ e ∈ o.after,Region.binds .any e=true∧e.on=j:=by
 unfold sS at h;cases ho:ops[i]? with
 | none=>rw [ho] at h; simp at h
 | some o =>
  rw [ho] at h;simp only [Option.map_some,Option.getD_some] at h;rw [List.any_eq_true] at h;obtain ⟨e,he,h2⟩:=h;rw [Bool.and_eq_true] at h2;exact ⟨o,rfl,e,by simpa using he,h2.1,of_decide_eq_true h2.2⟩
theorem pC {ops:Array Oper} {R:List Nat} (A:pD ops R=true) {i j:Nat} (J:i<ops.size) (I:j<ops.size) (h:tg (R.getD i 0) j=1):sS ops i j=true ∨ ∃ d,d<i∧sS ops i d=true∧tg (R.getD d 0) j=1:=by
 unfold pD at A;rw [List.all_eq_true] at A;have h1:=A i (List.mem_range.2 J);rw [List.all_eq_true] at h1;have h2:=h1 j (List.mem_range.2 I);rw [Bool.and_eq_true] at h2;have h3:=h2.1;rw [h,decide_eq_true rfl,Bool.not_true,Bool.false_or,Bool.or_eq_true] at h3;rcases h3 with h3 | h3
 · exact .inl h3
 · rw [List.any_eq_true] at h3
   obtain ⟨d,O,D⟩:=h3;rw [Bool.and_eq_true] at D;exact .inr ⟨d,List.mem_range.1 O,D.1,of_decide_eq_true D.2⟩
theorem vS {ops:Array Oper} {R:List Nat} (A:pD ops R=true) {i j:Nat} (I:i<ops.size) (D:j<ops.size) (h:tg (R.getD i 0) j=2):j=i∨tg (R.getD j 0) i=1:=by
 unfold pD at A;rw [List.all_eq_true] at A;have h1:=A i (List.mem_range.2 I);rw [List.all_eq_true] at h1;have h2:=h1 j (List.mem_range.2 D);rw [Bool.and_eq_true] at h2;have h3:=h2.2;rw [h,decide_eq_true rfl,Bool.not_true,Bool.false_or,Bool.or_eq_true] at h3;rcases h3 with h3 | h3
 · exact .inl (of_decide_eq_true h3)
 · exact .inr (of_decide_eq_true h3)
theorem qr {ops:Array Oper} {R:List Nat} (U:pD ops R=true) {l:Array Bool} (D:vo ops l) : ∀ (i j:Nat),i<ops.size→j<ops.size→tg (R.getD i 0) j=1→l[i]? = some true→l[j]? = some true:=by
 intro i;induction i using Nat.strongRecOn with
 | ind i I =>
  intro j J A h h1;rcases pC U J A h with h2 | ⟨d,O,h2,h3⟩
  · exact D i j h2 h1
  · exact I d O j (by omega) A h3 (D i d h2 h1)
theorem wT {l:Array Bool} {j:Nat} (h:l.getD j false=true):l[j]? = some true:=by
 rw [Array.getD_eq_getD_getElem?] at h;cases A:l[j]? with
 | none=>rw [A] at h; simp at h
 | some b=>rw [A] at h; simp at h; rw [h]
theorem uj {l:Array Bool} {j:Nat} (h:l.getD j true=false):l[j]? = some false:=by
 rw [Array.getD_eq_getD_getElem?] at h;cases A:l[j]? with
 | none=>rw [A] at h; simp at h
 | some b=>rw [A] at h; simp at h; rw [h]
theorem xy {P:Program} {ops:Array Oper} {Q:Exit→Act→World→Prop} {id:Nat} {a:Act} {w:World} (J:Act→List Bool→Act→World→Prop) (R:List Nat) (k:Nat) (hm:P.follows .mixedOrders=true) (hk:ops.size=k) (hb:sY ops=true) (hR:pD ops R=true)
    (hi:J a (List.replicate k false) a w.drew) (h0 : ∀ l a' w',J a l a' w'→zq l→Q .normal a' w')
    (hs:xw (fun i=>∀ l a' w',J a l a' w'→qe (R.getD i 0) l→wpOp P ops Q i (fun a0 ac=>J a (l.set i true) a0 ac) a' w') k) :
    (Code.region id ops true).wp P Q a w:=by
 refine iS (fun a A a' w'=>A.size=k∧vo ops A∧J a A.toList a' w') hm k hk hb ⟨by simp,?_,by simpa using hi⟩ ?_ ?_
 · intro i j _ h
   simp [Array.getElem?_replicate] at h
 · rintro a' w' ⟨-,-,hJ⟩
   refine h0 _ a' w' hJ ?_
   simpa using qz k
 · rintro A a' w' ⟨hz,hc,hJ⟩ i a9
   obtain ⟨hu,o,ho,hd⟩:=mem_ready.1 a9;have U:i<ops.size:=(Array.getElem?_eq_some_iff.1 ho).1;have O:A[i]? = some false:=uj hu
   have D : ∀ j,sS ops i j=true→A[j]? = some true:=fun j hj=>by
    obtain ⟨o2,ad,e,he,bb,rfl⟩:=yX hj;rw [ho] at ad;cases ad
    exact wT (hd e he bb)
   have a5:qe (R.getD i 0) A.toList:=sP _ _ fun j hj=>by
    have I:j<ops.size:=by rw [hk,← hz]; simpa using hj
    rw [Array.getElem?_toList];refine ⟨fun h=>?_,fun h=>?_⟩
    · rcases pC hR U I h with h2 | ⟨d,b2,h2,h3⟩
      · exact D j h2
      · exact qr hR hc d j (by omega) I h3 (D d h2)
    · rcases vS hR U I h with rfl | h2
      · exact O
      · have ag:j<A.size:=by omega
        cases al:A[j] with
        | false=>rw [Array.getElem?_eq_getElem ag,al]
        | true =>
         have h3:=qr hR hc j i I U h2 (by rw [Array.getElem?_eq_getElem ag,al]);rw [h3] at O;cases O
   refine wpOp_mono (fun a0 ac h4=>⟨by simpa using hz,?_,?_⟩) (hs.get i (by omega) _ a' w' hJ a5)
   · intro i' Z ah h
     rw [Array.getElem?_setIfInBounds] at h ⊢
     have ba:A[Z]? = some true:=by
      by_cases e:i=i'
      · subst e; exact D Z ah
      · rw [if_neg e] at h; exact hc i' Z ah h
     by_cases e:i=Z
     · rw [if_pos e,if_pos (by omega)]
     · rw [if_neg e]; exact ba
   · rw [Array.toList_setIfInBounds]; exact h4
def BU:List Value→List (Nat × Bool × Value)→List Value
 | l,[]=>l
 | [],_=>[]
 | x::l,(0,f,v)::r=>cond f v x::BU l r
 | x::l,(n+1,f,v)::r=>x::BU l ((n,f,v)::r)
def B3 (a:Act) (r:List (Nat × Bool × Value)):Act:=⟨(BU a.tmps.toList r).toArray,a.defers⟩
theorem Cf {J:List Bool→Act→World→Prop} {l l':List Bool} {a a':Act} {w:World} (A:l=l') (ha:a=a') (h:J l' a' w):J l a w:=by subst A ha; exact h
def uX (t:Tr):Option Er:=if t.name=aq then none else some (20,t.name)
def js (B:Nat) (e0 e1 e2 e3 D:Value) (G A N:S) (x0 x1 x2 x3 x4 x5 x6 x7 x8 x9 x10 x11 x12 x13 x14 x15 x16 x17 x18 x19 x20 x21 x22 x23 x24 x25 x26 x27 x36 x37 x38 x39 x40 x41 x42 x43 x44 x45 x46 x47 x48 x49 a5 a4 a0 al ah ag ad ac aa Z U O J I:Value) (f0 f1 f2 f3 f4 f5 f6 f7 _f8:Bool)  : Act :=
 ⟨#[x0,x1,x2,x3,x4,x5,x6,x7,x8,x9,x10,x11,x12,x13,x14,x15,x16,x17,x18,x19,x20,x21,x22,x23,x24,x25,x26,x27,cond f0 (.agg #[e0,e1,e2,e3,D]) undef,cond f1 (.string G) undef,cond f2 (.agg #[e0,e1,e2,e3,D]) undef,cond f3 (.string A) undef,cond f4 (.agg #[e0,e1,e2,e3,D]) undef,cond f5 (.string N) undef,cond f6 (.agg #[.string G,.string A,.string N]) undef,cond f7 (.pointer (some ⟨B+1,1,none⟩)) undef,x36,x37,x38,x39,x40,x41,x42,x43,x44,x45,x46,x47,x48,x49,a5,a4,a0,al,ah,ag,ad,ac,aa,Z,U,O,J,I],[{ target:=.fn (.func 91) #[.pointer (some ⟨B+1,0,none⟩),.pointer (some ⟨B+1+1,0,none⟩),.pointer (some ⟨B+1+1+1,0,none⟩)],args:=#[] }]⟩
def B9 (B:Nat) (e0 e1 e2 e3 e4:Value) (G A N:S) (I E2 E3:Option Er) (V:World) (x0 x1 x2 x3 x4 x5 x6 x7 x8 x9 x10 x11 x12 x13 x14 x15 x16 x17 x18 x19 x20 x21 x22 x23 x24 x25 x26 x27 x36 x37 x38 x39 x40 x41 x42 x43 x44 x45 x46 x47 x48 x49 a6 a5 a4 a0 al ah ag ad ac aa Z U O J:Value) (D:Array Bool) (a8:Act) (w':World):Prop :=
 ∃ (f0 f1 f2 f3 f4 f5 f6 f7 f8:Bool) ,D=#[f0,f1,f2,f3,f4,f5,f6,f7,f8]∧a8=js B e0 e1 e2 e3 e4 G A N x0 x1 x2 x3 x4 x5 x6 x7 x8 x9 x10 x11 x12 x13 x14 x15 x16 x17 x18 x19 x20 x21 x22 x23 x24 x25 x26 x27 x36 x37 x38 x39 x40 x41 x42 x43 x44 x45 x46 x47 x48 x49 a6 a5 a4 a0 al ah ag ad ac aa Z U O J f0 f1 f2 f3 f4 f5 f6 f7 f8  ∧ Hid (f8=true→f0=true∧f1=true∧f2=true∧f3=true∧f4=true∧f5=true)∧Hid (f1=true→I=none)∧Hid (f3=true→I=none∧E2=none)∧Hid (f5=true→I=none∧E2=none∧E3=none)∧(f8=false→Below V.heap.size V w')∧(f8=true→ak w' (B+1) [.bool true,.string G,.string A,.string N,.string ⟨#[]⟩,.string ⟨#[]⟩,.string ⟨#[]⟩,.string ⟨#[]⟩,.slice none 0 0,.slice none 0 0,.slice none 0 0] ∧ ∃ w8,Below V.heap.size V w8∧w8.grownBy w' (some (B+1)))
theorem vX (t:Tr) (w:World) (av kv:Value) (ht:dJ w t av kv) (hm:dM t) :
    Calls Tryz.prog 58 #[.agg #[.string (bs t.name),av,kv,.string (bs t.text)]] w (nk t w):=by
 obtain ⟨ao,ac,ko,kc,rfl,rfl,wn,-⟩:=ht.shape;have HM:=zH hm
 have HE:Hid (dz t=(uX t).or ((gx t aq).or ((bB t aq aG false cM).or ((bB t aq ar true cM).or ((bB t aq aA false cM).or
  ((bB t aq bk false cM).or ((kx t aq).or ((fi t aq).or (iY false t aq)))))))) ):=rfl
 have HV:Hid (eL t=⟨(iA t).1,(iA t).2,bs (ae t aG),bs (ae t ar),bs (ae t aA),bs (ae t bk),kw t,ig t,lH t⟩):=rfl;have hv:Hid (dJ w t (.slice ao t.attrs.length ac) (.slice ko t.kids.length kc)):=ht;have ty : ∀ (fn:Fn) (first cap:Array Value) (w:World),(Instr.makeFunc fn first cap).run Tryz.prog w = .ok (.func fn first cap) w:=fun _ _ _ _=>rfl;obtain ⟨q,hq⟩ : ∃ q,q=decide (t.name=aq):=⟨_,rfl⟩
 have t2:((bs t.name:S).toList == [112,114,111,106,101,99,116])=q:=by
  have h1:=fJ t.name aq;rw [show ((bs aq:S)).toList=[112,114,111,106,101,99,116] from by decide +kernel] at h1;rw [h1,hq]
 have HQ:=zH hq;clear ht hm hq;go_enter_defers Tryz.func58,Tryz.ntmps58
 go_upto_region 3 with fail
 refine ai fun W hW=>?_
 have x0:ak W w.heap.size [.string (bs t.name),.slice ao t.attrs.length ac,.slice ko t.kids.length kc,.string (bs t.text)]:=by rw [hW]; exact ((((ak.new w [.string (bs t.name),.slice ao t.attrs.length ac,.slice ko t.kids.length kc,.string (bs t.text)] _ _ rfl).alloc _).alloc _).alloc _).alloc _
 have x1:ak W (w.heap.size+1) [.bool false,.string ⟨#[]⟩,.string ⟨#[]⟩,.string ⟨#[]⟩,.string ⟨#[]⟩,.string ⟨#[]⟩,.string ⟨#[]⟩,.string ⟨#[]⟩,.slice none 0 0,.slice none 0 0,.slice none 0 0]:=by rw [hW]; exact (((ak.new _ [.bool false,.string ⟨#[]⟩,.string ⟨#[]⟩,.string ⟨#[]⟩,.string ⟨#[]⟩,.string ⟨#[]⟩,.string ⟨#[]⟩,.string ⟨#[]⟩,.slice none 0 0,.slice none 0 0,.slice none 0 0] _ _ (by simp)).alloc _).alloc _).alloc _
 have x2:ak W (w.heap.size+2) [.int .i64 0]:=by rw [hW]; exact ((ak.new _ [.int .i64 0] _ _ (by simp)).alloc _).alloc _
 have x3:ak W (w.heap.size+3) [.string ⟨#[]⟩]:=by rw [hW]; exact (ak.new _ [.string ⟨#[]⟩] _ _ (by simp)).alloc _
 have x4:ak W (w.heap.size+4) [.string (bs t.name),.slice ao t.attrs.length ac,.slice ko t.kids.length kc,.string (bs t.text),.string (bs t.name)]:=by rw [hW]; exact ak.new _ [.string (bs t.name),.slice ao t.attrs.length ac,.slice ko t.kids.length kc,.string (bs t.text),.string (bs t.name)] _ _ (by simp)
 have hb:Below w.heap.size w W:=by rw [hW]; exact (((((Below.refl _ _).alloc (Nat.le_refl _) _).alloc (by simp) _).alloc (by simp; omega) _).alloc (by simp; omega) _).alloc (by simp; omega) _
 clear hW ty;have HN:=zH x0;have HP:=zH x1;have I:=zH x2;have D:=zH x3;have A:=zH x4;have Z:=zH hb;clear x0 x1 x2 x3 x4 hb;have c0:=HN.out.cell 0 _ rfl;have cl:=HN.out.lt;cases q with
 | false =>
  have HR:Hid (dz t=some (20,t.name)):=by
   show _=_
   rw [HE.out]; unfold uX; rw [if_neg (of_decide_eq_false HQ.out.symm)]; rfl
  clear HE HV;go_wp2_with fail
  refine (dF _ _ _).mono ?_
  rintro e w9 ⟨rfl,rfl⟩;go_wp2
  exact cX t (20,t.name) HR.out w W _ _ _ _ _ _ _ _ _ _ _ _ _ _ rfl rfl rfl HP.out I.out D.out Z.out
 | true =>
  have li:t.name=aq:=of_decide_eq_true HQ.out.symm;have n0:Hid (uX t=none):=by show _=_; unfold uX; rw [if_pos li]
  have J:Hid (ak W (w.heap.size+4) [.string (bs t.name),.slice ao t.attrs.length ac,.slice ko t.kids.length kc,.string (bs t.text),.string (bs aq)]):=by have h1:=A.out; rw [li] at h1 ⊢; exact h1
  clear A li HQ;have A:=J;clear J;have wo:Hid (w.heap.size+4<W.heap.size):=A.out.lt;have p5:Hid (∀ X,Below w.heap.size w X→Calls Tryz.prog 93 #[.agg #[.string (bs t.name),.slice ao t.attrs.length ac,.slice ko t.kids.length kc,.string (bs t.text),.string (bs aq)],.string ⟨#[112,97,114,101,110,116]⟩] X (dx (cS t aq cr) (gn (fun j=>w.heap.size≤j) aq cr (cZ t cr)) X)):=fun X h=>nd (fun j=>w.heap.size≤j) t aq cr X _ _ (hv.out.fresh.later h) HM.out.kl (by decide);have ms:Hid (∀ X,Below w.heap.size w X→Calls Tryz.prog 94 #[.agg #[.string (bs t.name),.slice ao t.attrs.length ac,.slice ko t.kids.length kc,.string (bs t.text),.string (bs aq)],.string ⟨#[103,114,111,117,112,73,100]⟩,.bool false,.func (.func 95) #[] #[]] X (dx (bB t aq aG false cM) (fun e _=>e = .returned (.string (bs (ae t aG)))) X)):=fun X h=>cj _ _ _ t aq aG false X _ _ (hv.out.later h) HM.out (by decide) (dq X);have mo:Hid (∀ X,Below w.heap.size w X→Calls Tryz.prog 94 #[.agg #[.string (bs t.name),.slice ao t.attrs.length ac,.slice ko t.kids.length kc,.string (bs t.text),.string (bs aq)],.string ⟨#[97,114,116,105,102,97,99,116,73,100]⟩,.bool true,.func (.func 95) #[] #[]] X (dx (bB t aq ar true cM) (fun e _=>e = .returned (.string (bs (ae t ar)))) X)):=fun X h=>cj _ _ _ t aq ar true X _ _ (hv.out.later h) HM.out (by decide) (dq X);have mc:Hid (∀ X,Below w.heap.size w X→Calls Tryz.prog 94 #[.agg #[.string (bs t.name),.slice ao t.attrs.length ac,.slice ko t.kids.length kc,.string (bs t.text),.string (bs aq)],.string ⟨#[118,101,114,115,105,111,110]⟩,.bool false,.func (.func 95) #[] #[]] X (dx (bB t aq aA false cM) (fun e _=>e = .returned (.string (bs (ae t aA)))) X)):=fun X h=>cj _ _ _ t aq aA false X _ _ (hv.out.later h) HM.out (by decide) (dq X);have l9:Hid (∀ X,Below w.heap.size w X→Calls Tryz.prog 94 #[.agg #[.string (bs t.name),.slice ao t.attrs.length ac,.slice ko t.kids.length kc,.string (bs t.text),.string (bs aq)],.string ⟨#[112,97,99,107,97,103,105,110,103]⟩,.bool false,.func (.func 95) #[] #[]] X (dx (bB t aq bk false cM) (fun e _=>e = .returned (.string (bs (ae t bk)))) X)):=fun X h=>cj _ _ _ t aq bk false X _ _ (hv.out.later h) HM.out (by decide) (dq X);have pk:Hid (∀ X,Below w.heap.size w X→Calls Tryz.prog 96 #[.agg #[.string (bs t.name),.slice ao t.attrs.length ac,.slice ko t.kids.length kc,.string (bs t.text),.string (bs aq)]] X (dx (kx t aq) (zz X (kw t)) X)):=fun X h=>tO t aq X _ _ (hv.out.later h) HM.out (by decide);have p7:Hid (∀ X,Below w.heap.size w X→Calls Tryz.prog 93 #[.agg #[.string (bs t.name),.slice ao t.attrs.length ac,.slice ko t.kids.length kc,.string (bs t.text),.string (bs aq)],.string ⟨#[100,101,112,101,110,100,101,110,99,121,77,97,110,97,103,101,109,101,110,116]⟩] X (dx (cS t aq bt) (gn (fun _=>False) aq bt (cZ t bt)) X)):=fun X h=>nd (fun _=>False) t aq bt X _ _ (hv.out.later h) HM.out.kl (by decide);have kE:Hid (∀ X,Below w.heap.size w X→Calls Tryz.prog 97 #[.agg #[.string (bs t.name),.slice ao t.attrs.length ac,.slice ko t.kids.length kc,.string (bs t.text),.string (bs aq)],.bool false] X (dx (iY false t aq) (zG X (lH t)) X)):=fun X h=>qm false t aq X _ _ (hv.out.later h) HM.out (by decide);go_upto_region 5 with fail
  clear c0 cl t2 HN;obtain ⟨a0,a1,a2,a3,a4⟩:=gU A.out;have al:=A.out.lt;go_wp2_with fail
  refine (p5.out _ Z.out).mono ?_
  rintro e w1 ⟨aa,a7,hq⟩;clear a0 a1 a2 a3 a4 al;have ba:=zH (HP.out.below aa HP.out.lt);have U:=zH (I.out.below aa I.out.lt);have O:=zH (D.out.below aa D.out.lt);have J:=zH (A.out.below aa A.out.lt);have ag:=zH (Z.out.trans (aa.mono Z.out.size));clear HP I D A Z;have HP:=ba;have I:=U;have D:=O;have A:=J;have Z:=ag;clear ba U O J ag;rcases hM:cS t aq cr with _ | x
  rotate_left
  · obtain rfl:=a7 x hM
    have HR:Hid (dz t=some x):=by show _=_; rw [HE.out,n0.out,Option.none_or]; unfold gx; rw [hM]; rfl
    clear a7 hq hM HE HV;unfold dS;go_wp2
    exact cX t x HR.out w w1 _ _ _ _ _ _ _ _ _ _ _ _ _ _ rfl rfl rfl HP.out I.out D.out Z.out
  have hq:=hq hM;have hw:=zH hM;clear a7 hM aa p5;obtain ⟨PV,pb⟩ : ∃ PV,PV=iA t:=⟨_,rfl⟩;have el:=zH pb;clear pb;obtain ⟨hp,⟨pg,pa,pn⟩⟩:=PV
  obtain ⟨s0,b1,m1,c1,b2,m2,c2,s3,s4,ok,rfl,oa,lb⟩ : ∃ (s0:S) (b1:Option Addr) (m1 c1:Nat) (b2:Option Addr) (m2 c2:Nat) (s3 s4:S) (ok:Bool),e = .returned (.tuple #[.agg #[.string s0,.slice b1 m1 c1,.slice b2 m2 c2,.string s3,.string s4],.bool ok])∧(ok=false→cZ t cr=none)∧(ok=true → ∃ k av kv,cZ t cr=some k∧(Value.agg #[.string s0,.slice b1 m1 c1,.slice b2 m2 c2,.string s3,.string s4])=dj k av kv (sl aq cr)∧bj (fun j=>w.heap.size≤j) w1 k av kv):=by
   rcases hO:cZ t cr with _ | k
   · rw [hO] at hq
     simp only [gn] at hq;exact ⟨_,_,_,_,_,_,_,_,_,false,hq,fun _=>rfl,by simp⟩
   · rw [hO] at hq
     obtain ⟨l6,la,he,hn⟩:=hq;obtain ⟨q1,q2,q3,q4,rfl,rfl,-,-⟩:=hn.shape;exact ⟨_,_,_,_,_,_,_,_,_,true,he,by simp,fun _=>⟨k,_,_,rfl,rfl,hn⟩⟩
  have p6:=zH oa;have l7:=zH lb;clear hq oa lb;go_upto_if 26 with fail
  refine ai fun W2 fz=>?_
  have x5:ak W2 w1.heap.size [.string s0,.slice b1 m1 c1,.slice b2 m2 c2,.string s3,.string s4]:=by rw [fz]; exact ak.new w1 [.string s0,.slice b1 m1 c1,.slice b2 m2 c2,.string s3,.string s4] _ _ rfl
  have bv:Below w1.heap.size w1 W2:=by rw [fz]; exact (Below.refl _ _).alloc (Nat.le_refl _) _
  clear fz;have HF:=zH x5;have hr:=zH bv;have nc:Hid (w.heap.size+4<w1.heap.size):=A.out.lt;clear x5;have ba:=zH (HP.out.below bv HP.out.lt);have U:=zH (I.out.below bv I.out.lt);have O:=zH (D.out.below bv D.out.lt);have J:=zH (A.out.below bv A.out.lt);have ag:=zH (Z.out.trans (bv.mono Z.out.size));clear HP I D A Z;have HP:=ba;have I:=U;have D:=O;have A:=J;have Z:=ag;clear ba U O J ag;clear bv;go_cut [] from 26 to 35 (fun wx=>Hid (Below w.heap.size w wx∧ak wx (w.heap.size+1) [.bool hp,.string pg,.string pa,.string pn,.string ⟨#[]⟩,.string ⟨#[]⟩,.string ⟨#[]⟩,.string ⟨#[]⟩,.slice none 0 0,.slice none 0 0,.slice none 0 0]∧ak wx (w.heap.size+2) [.int .i64 0]∧ak wx (w.heap.size+3) [.string ⟨#[]⟩]∧ak wx (w.heap.size+4) [.string (bs t.name),.slice ao t.attrs.length ac,.slice ko t.kids.length kc,.string (bs t.text),.string (bs aq)]∧gx t aq=none))
  case first =>
   cases ok with
   | false =>
    have hO:=p6.out rfl;have h1:=el.out;have n9:gx t aq=none:=by unfold gx; rw [hw.out,hO]; rfl
    unfold iA at h1;rw [hO] at h1;simp only [Prod.mk.injEq,bp.mk.injEq] at h1;obtain ⟨rfl,rfl,rfl,rfl⟩:=h1;have hX:=zH n9;clear hO n9;go_wp2
    go_meet
    case rel=>exact ⟨Z.out,HP.out,I.out,D.out,A.out,hX.out⟩
   | true =>
    obtain ⟨k,l6,la,hO,ow,hn⟩:=l7.out rfl;have h1:=el.out;unfold iA at h1;rw [hO] at h1;simp only [Prod.mk.injEq,bp.mk.injEq] at h1;obtain ⟨rfl,ou,oo,oj⟩:=h1;obtain ⟨E1,lV⟩ : ∃ E1,E1=bB k (sl aq cr) aG true isIdQ:=⟨_,rfl⟩;obtain ⟨E2,lF⟩ : ∃ E2,E2=bB k (sl aq cr) ar true isIdQ:=⟨_,rfl⟩;obtain ⟨E3,lx⟩ : ∃ E3,E3=bB k (sl aq cr) aA true A7:=⟨_,rfl⟩;have hX:Hid (gx t aq=E1.or (E2.or E3)):=by show _=_; unfold gx; rw [hw.out,hO,lV,lF,lx]; rfl
    have nl:Hid ((∀ x,E1=some x→dz t=some x)∧(∀ x,E1=none→E2=some x→dz t=some x)∧(∀ x,E1=none→E2=none→E3=some x→dz t=some x)) :=
     ⟨fun x h=>by rw [HE.out,n0.out,hX.out,h]; rfl,fun x h h'=>by rw [HE.out,n0.out,hX.out,h,h']; rfl,fun x h h' t4=>by rw [HE.out,n0.out,hX.out,h,h',t4]; rfl⟩
    have nv:=zH (HM.out.one hO);have nm:=zH hn;have eV:Hid (Value.agg #[.string s0,.slice b1 m1 c1,.slice b2 m2 c2,.string s3,.string s4]=dj k l6 la (sl aq cr)):=ow
    have m5:Hid (∀ X,Below w.heap.size w1 X→Calls Tryz.prog 94 #[.agg #[.string s0,.slice b1 m1 c1,.slice b2 m2 c2,.string s3,.string s4],.string ⟨#[103,114,111,117,112,73,100]⟩,.bool true,.func (.func 62) #[] #[]] X fun e w'=>Below X.heap.size X w'∧zv E1 pg e):=fun X h=>by
     rw [eV.out,lV,ou];exact (cj _ _ _ k (sl aq cr) aG true X _ _ (nm.out.keep (pU h h.size (fun k hk=>by omega)) (fun _ _ h=>h.elim)) nv.out (by decide) (rP X)).mono fun e w' h=>h.wd
    have m4:Hid (∀ X,Below w.heap.size w1 X→Calls Tryz.prog 94 #[.agg #[.string s0,.slice b1 m1 c1,.slice b2 m2 c2,.string s3,.string s4],.string ⟨#[97,114,116,105,102,97,99,116,73,100]⟩,.bool true,.func (.func 62) #[] #[]] X fun e w'=>Below X.heap.size X w'∧zv E2 pa e):=fun X h=>by
     rw [eV.out,lF,oo];exact (cj _ _ _ k (sl aq cr) ar true X _ _ (nm.out.keep (pU h h.size (fun k hk=>by omega)) (fun _ _ h=>h.elim)) nv.out (by decide) (rP X)).mono fun e w' h=>h.wd
    have m3:Hid (∀ X,Below w.heap.size w1 X→Calls Tryz.prog 94 #[.agg #[.string s0,.slice b1 m1 c1,.slice b2 m2 c2,.string s3,.string s4],.string ⟨#[118,101,114,115,105,111,110]⟩,.bool true,.func (.func 63) #[] #[]] X fun e w'=>Below X.heap.size X w'∧zv E3 pn e):=fun X h=>by
     rw [eV.out,lx,oj];exact (cj _ _ _ k (sl aq cr) aA true X _ _ (nm.out.keep (pU h h.size (fun k hk=>by omega)) (fun _ _ h=>h.elim)) nv.out (by decide) (vJ X)).mono fun e w' h=>h.wd
    clear hO ow hn ou oo oj lV lF lx;obtain ⟨d0,g7,dl⟩:=zB HP.out 0 rfl;go_upto_region 8 with fail
    refine ai fun W hW=>?_
    have x1:ak W (w.heap.size+1) [.bool true,.string ⟨#[]⟩,.string ⟨#[]⟩,.string ⟨#[]⟩,.string ⟨#[]⟩,.string ⟨#[]⟩,.string ⟨#[]⟩,.string ⟨#[]⟩,.slice none 0 0,.slice none 0 0,.slice none 0 0]:=by rw [hW]; exact HP.out.set 0 _
    have hg:World.grownBy W2 W (some (w.heap.size+1)):=by rw [hW]; exact ab _ (w.heap.size+1) 0 _
    clear hW d0 g7 dl;have U:=zH (I.out.grown hg (by simp));have O:=zH (D.out.grown hg (by simp));have J:=zH (A.out.grown hg (by simp));have ag:=zH (Z.out.trans (aS hg (by omega) Z.out.size));have p9:=zH (HF.out.grown hg (by have:=nc.out; simp; omega));have nz:=zH ((hr.out.mono (by have:=nc.out; omega)).trans (aS hg (by omega:w.heap.size≤w.heap.size+1) Z.out.size));clear HP I D A Z hg;have HP:=zH x1;have I:=U;have D:=O;have A:=J;have Z:=ag;clear x1 U O J ag;have bg:=p9;have el:=HP;have eV:=I;have hA:=D;have g8:=Z;have vb:Hid (∀ X,Below W.heap.size W X→Calls Tryz.prog 94 #[.agg #[.string s0,.slice b1 m1 c1,.slice b2 m2 c2,.string s3,.string s4],.string ⟨#[103,114,111,117,112,73,100]⟩,.bool true,.func (.func 62) #[] #[]] X fun e w'=>Below X.heap.size X w'∧zv E1 pg e):=fun X h=>m5.out X (nz.out.trans (h.mono Z.out.size));have va:Hid (∀ X,Below W.heap.size W X→Calls Tryz.prog 94 #[.agg #[.string s0,.slice b1 m1 c1,.slice b2 m2 c2,.string s3,.string s4],.string ⟨#[97,114,116,105,102,97,99,116,73,100]⟩,.bool true,.func (.func 62) #[] #[]] X fun e w'=>Below X.heap.size X w'∧zv E2 pa e):=fun X h=>m4.out X (nz.out.trans (h.mono Z.out.size));have u9:Hid (∀ X,Below W.heap.size W X→Calls Tryz.prog 94 #[.agg #[.string s0,.slice b1 m1 c1,.slice b2 m2 c2,.string s3,.string s4],.string ⟨#[118,101,114,115,105,111,110]⟩,.bool true,.func (.func 63) #[] #[]] X fun e w'=>Below X.heap.size X w'∧zv E3 pn e):=fun X h=>m3.out X (nz.out.trans (h.mono Z.out.size));clear m5 m4 m3 p9;refine bm (B9 w.heap.size (.string s0) (.slice b1 m1 c1) (.slice b2 m2 c2) (.string s3) (.string s4) pg pa pn E1 E2 E3 W _ _ _ _ _ _ _ _ _ _ _ _ _ _ _ _ _ _ _ _ _ _ _ _ _ _ _ _ _ _ _ _ _ _ _ _ _ _ _ _ _ _ _ _ _ _ _ _ _ _ _ _ _ _ _ _) (by kernel_rfl) 9 rfl (by kernel_rfl) ⟨false,false,false,false,false,false,false,false,false,rfl,rfl,zH (by simp),zH (by simp),zH (by simp),zH (by simp),fun _=>aY (Below.refl _ _) 1,by simp⟩ ?fin ?step
    case fin =>
     rintro a' w' ⟨f0,f1,f2,f3,f4,f5,f6,f7,f8,hl,rfl,a8,n1,n2,n3,hB,h8⟩;have oi:[true,true,true,true,true,true,true,true,true]=[f0,f1,f2,f3,f4,f5,f6,f7,f8]:=congrArg Array.toList hl;simp only [List.cons.injEq,and_true] at oi;obtain ⟨rfl,rfl,rfl,rfl,rfl,rfl,rfl,rfl,rfl⟩:=oi;unfold js;simp only [cond_true];have vj:=zH (h8 rfl);have vi:=zH (n3.out rfl);clear a8 n1 n2 n3 hB h8;go_wp2
     go_meet
     case rel =>
      obtain ⟨hp,w8,h7,kr⟩:=vj.out;obtain ⟨z1,z2,z3⟩:=vi.out;exact ⟨g8.out.trans ((h7.mono g8.out.size).trans (aS kr (by omega) (Nat.le_trans g8.out.size h7.size))),hp,(eV.out.below h7 eV.out.lt).grown kr (by simp),(hA.out.below h7 hA.out.lt).grown kr (by simp),(A.out.below h7 A.out.lt).grown kr (by simp),by rw [hX.out,z1,z2,z3]; rfl⟩
    case step =>
     rintro s1 a' w' ⟨f0,f1,f2,f3,f4,f5,f6,f7,f8,rfl,rfl,a8,n1,n2,n3,hB,h8⟩ i hi;rw [mem_ready] at hi;obtain ⟨hu,o,ho,ha⟩:=hi;have wk:i<9:=(Array.getElem?_eq_some_iff.1 ho).1;rcases (by omega:i=0∨i=1∨i=2∨i=3∨i=4∨i=5∨i=6∨i=7∨i=8) with rfl | rfl | rfl | rfl | rfl | rfl | rfl | rfl | rfl
     · have hs:=ho
       simp at hu ho;subst hu ho;clear ha;have e8:f8=false:=aP (fun h=>(a8.out h).1) rfl;subst e8;have ah:=hB rfl;have co:=ah.size;have k0:=(ah.cell (p:=⟨w1.heap.size,0,none⟩) (by exact bg.out.lt)).trans (bg.out.cell 0 _ rfl);have k1:=(ah.cell (p:=⟨w1.heap.size,1,none⟩) (by exact bg.out.lt)).trans (bg.out.cell 1 _ rfl);have k2:=(ah.cell (p:=⟨w1.heap.size,2,none⟩) (by exact bg.out.lt)).trans (bg.out.cell 2 _ rfl);have k3:=(ah.cell (p:=⟨w1.heap.size,3,none⟩) (by exact bg.out.lt)).trans (bg.out.cell 3 _ rfl);have k4:=(ah.cell (p:=⟨w1.heap.size,4,none⟩) (by exact bg.out.lt)).trans (bg.out.cell 4 _ rfl);refine .inl ?_
       unfold js Oper.wp;go_simp
       exact ⟨true,f1,f2,f3,f4,f5,f6,f7,false,rfl,rfl,zH (by simp),n1,n2,n3,hB,h8⟩
     · have hs:=ho
       simp at hu ho;subst hu ho;simp [Region.binds] at ha
       obtain rfl:f0=true:=by simp only [ha]
       clear ha;have e8:f8=false:=aP (fun h=>(a8.out h).2.1) rfl;subst e8;have ah:=hB rfl;have co:=ah.size;refine .inl ?_
       unfold js Oper.wp;go_simp
       refine (vb.out _ ah).mono ?_
       rintro e w9 ⟨c9,⟨x,hM,rfl⟩ | ⟨hM,rfl⟩⟩
       · exact cX t x (nl.out.1 x hM) w w9 _ _ _ _ _ _ _ _ _ _ _ _ _ _ rfl rfl rfl (el.out.below (ah.trans (c9.mono co)) el.out.lt) (eV.out.below (ah.trans (c9.mono co)) eV.out.lt) (hA.out.below (ah.trans (c9.mono co)) hA.out.lt) (g8.out.trans ((ah.trans (c9.mono co)).mono g8.out.size))
       exact ⟨true,true,f2,f3,f4,f5,f6,f7,false,rfl,rfl,zH (by simp),zH (fun _=>hM),n2,n3,fun _=>ah.trans (c9.mono co),by simp⟩
     · have hs:=ho
       simp at hu ho;subst hu ho;clear ha;have e8:f8=false:=aP (fun h=>(a8.out h).2.2.1) rfl;subst e8;have ah:=hB rfl;have co:=ah.size;have k0:=(ah.cell (p:=⟨w1.heap.size,0,none⟩) (by exact bg.out.lt)).trans (bg.out.cell 0 _ rfl);have k1:=(ah.cell (p:=⟨w1.heap.size,1,none⟩) (by exact bg.out.lt)).trans (bg.out.cell 1 _ rfl);have k2:=(ah.cell (p:=⟨w1.heap.size,2,none⟩) (by exact bg.out.lt)).trans (bg.out.cell 2 _ rfl);have k3:=(ah.cell (p:=⟨w1.heap.size,3,none⟩) (by exact bg.out.lt)).trans (bg.out.cell 3 _ rfl);have k4:=(ah.cell (p:=⟨w1.heap.size,4,none⟩) (by exact bg.out.lt)).trans (bg.out.cell 4 _ rfl);refine .inl ?_
       unfold js Oper.wp;go_simp
       exact ⟨f0,f1,true,f3,f4,f5,f6,f7,false,rfl,rfl,zH (by simp),n1,n2,n3,hB,h8⟩
     · have hs:=ho
       simp at hu ho;subst hu ho;simp [Region.binds] at ha
       obtain rfl:f2=true:=by simp only [ha]
       obtain rfl:f1=true:=by simp only [ha]
       clear ha;have e8:f8=false:=aP (fun h=>(a8.out h).2.2.2.1) rfl;subst e8;have ah:=hB rfl;have co:=ah.size;refine .inl ?_
       unfold js Oper.wp;go_simp
       refine (va.out _ ah).mono ?_
       rintro e w9 ⟨c9,⟨x,hM,rfl⟩ | ⟨hM,rfl⟩⟩
       · exact cX t x (nl.out.2.1 x (n1.out rfl) hM) w w9 _ _ _ _ _ _ _ _ _ _ _ _ _ _ rfl rfl rfl (el.out.below (ah.trans (c9.mono co)) el.out.lt) (eV.out.below (ah.trans (c9.mono co)) eV.out.lt) (hA.out.below (ah.trans (c9.mono co)) hA.out.lt) (g8.out.trans ((ah.trans (c9.mono co)).mono g8.out.size))
       exact ⟨f0,true,true,true,f4,f5,f6,f7,false,rfl,rfl,zH (by simp),n1,zH (fun _=>⟨n1.out rfl,hM⟩),n3,fun _=>ah.trans (c9.mono co),by simp⟩
     · have hs:=ho
       simp at hu ho;subst hu ho;clear ha;have e8:f8=false:=aP (fun h=>(a8.out h).2.2.2.2.1) rfl;subst e8;have ah:=hB rfl;have co:=ah.size;have k0:=(ah.cell (p:=⟨w1.heap.size,0,none⟩) (by exact bg.out.lt)).trans (bg.out.cell 0 _ rfl);have k1:=(ah.cell (p:=⟨w1.heap.size,1,none⟩) (by exact bg.out.lt)).trans (bg.out.cell 1 _ rfl);have k2:=(ah.cell (p:=⟨w1.heap.size,2,none⟩) (by exact bg.out.lt)).trans (bg.out.cell 2 _ rfl);have k3:=(ah.cell (p:=⟨w1.heap.size,3,none⟩) (by exact bg.out.lt)).trans (bg.out.cell 3 _ rfl);have k4:=(ah.cell (p:=⟨w1.heap.size,4,none⟩) (by exact bg.out.lt)).trans (bg.out.cell 4 _ rfl);refine .inl ?_
       unfold js Oper.wp;go_simp
       exact ⟨f0,f1,f2,f3,true,f5,f6,f7,false,rfl,rfl,zH (by simp),n1,n2,n3,hB,h8⟩
     · have hs:=ho
       simp at hu ho;subst hu ho;simp [Region.binds] at ha
       obtain rfl:f4=true:=by simp only [ha]
       obtain rfl:f3=true:=by simp only [ha]
       clear ha;have e8:f8=false:=aP (fun h=>(a8.out h).2.2.2.2.2) rfl;subst e8;have ah:=hB rfl;have co:=ah.size;refine .inl ?_
       unfold js Oper.wp;go_simp
       refine (u9.out _ ah).mono ?_
       rintro e w9 ⟨c9,⟨x,hM,rfl⟩ | ⟨hM,rfl⟩⟩
       · exact cX t x (nl.out.2.2 x (n2.out rfl).1 (n2.out rfl).2 hM) w w9 _ _ _ _ _ _ _ _ _ _ _ _ _ _ rfl rfl rfl (el.out.below (ah.trans (c9.mono co)) el.out.lt) (eV.out.below (ah.trans (c9.mono co)) eV.out.lt) (hA.out.below (ah.trans (c9.mono co)) hA.out.lt) (g8.out.trans ((ah.trans (c9.mono co)).mono g8.out.size))
       exact ⟨f0,f1,f2,true,true,true,f6,f7,false,rfl,rfl,zH (by simp),n1,n2,zH (fun _=>⟨(n2.out rfl).1,(n2.out rfl).2,hM⟩),fun _=>ah.trans (c9.mono co),by simp⟩
     · have hs:=ho
       simp at hu ho;subst hu ho;simp [Region.binds] at ha
       obtain rfl:f1=true:=by simp only [ha]
       obtain rfl:f3=true:=by simp only [ha]
       obtain rfl:f5=true:=by simp only [ha]
       clear ha;refine .inl ?_
       unfold js Oper.wp;go_simp
       exact ⟨f0,true,f2,true,f4,true,true,f7,f8,rfl,rfl,a8,n1,n2,n3,hB,h8⟩
     · have hs:=ho
       simp at hu ho;subst hu ho;simp [Region.binds] at ha
       obtain rfl:f0=true:=by simp only [ha]
       obtain rfl:f1=true:=by simp only [ha]
       obtain rfl:f2=true:=by simp only [ha]
       obtain rfl:f3=true:=by simp only [ha]
       obtain rfl:f4=true:=by simp only [ha]
       obtain rfl:f5=true:=by simp only [ha]
       obtain rfl:f6=true:=by simp only [ha]
       clear ha;refine .inl ?_
       unfold js Oper.wp;go_simp
       exact ⟨true,true,true,true,true,true,true,true,f8,rfl,rfl,a8,n1,n2,n3,hB,h8⟩
     · have hs:=ho
       simp at hu ho;subst hu ho;simp [Region.binds] at ha
       obtain rfl:f7=true:=by simp only [ha]
       obtain rfl:f6=true:=by simp only [ha]
       obtain rfl:f5=true:=by simp only [ha]
       obtain rfl:f0=true:=by simp only [ha]
       obtain rfl:f1=true:=by simp only [ha]
       obtain rfl:f2=true:=by simp only [ha]
       obtain rfl:f3=true:=by simp only [ha]
       obtain rfl:f4=true:=by simp only [ha]
       clear ha;have ah:=hB rfl;have co:=ah.size;have hp:=el.out.below ah el.out.lt;have z1:=hp.cell 1 _ rfl;have z2:=hp.cell 2 _ rfl;have z3:=hp.cell 3 _ rfl;have u1:=hp.free 1;have u2:=hp.free 2;have u3:=hp.free 3;have hl:=hp.lt;have ve:=zH (((hp.set 1 (.string pg)).set 2 (.string pa)).set 3 (.string pn));have ag:=zH ah;clear hp ah co;refine .inl ?_
       unfold js Oper.wp;go_simp
       exact ⟨true,true,true,true,true,true,true,true,true,rfl,rfl,zH (by simp),n1,n2,n3,by simp,fun _=>⟨ve.out,w',ag.out,((ab _ _ _ _).trans (ab _ _ _ _)).trans (ab _ _ _ _)⟩⟩
  case rest =>
   have Z:=zH hcut.out.1;have HP:=zH hcut.out.2.1;have I:=zH hcut.out.2.2.1;have D:=zH hcut.out.2.2.2.1;have A:=zH hcut.out.2.2.2.2.1;have n1:=zH hcut.out.2.2.2.2.2;clear hcut HF hr nc p6 l7 hw;obtain ⟨a0,a1,a2,a3,a4⟩:=gU A.out;have al:=A.out.lt;go_wp2_with fail
   refine (ms.out _ Z.out).mono ?_
   rintro e w1 ⟨aa,a7,hq⟩;clear a0 a1 a2 a3 a4 al;have ba:=zH (HP.out.below aa HP.out.lt);have U:=zH (I.out.below aa I.out.lt);have O:=zH (D.out.below aa D.out.lt);have J:=zH (A.out.below aa A.out.lt);have ag:=zH (Z.out.trans (aa.mono Z.out.size));clear HP I D A Z;have HP:=ba;have I:=U;have D:=O;have A:=J;have Z:=ag;clear ba U O J ag;rcases hM:bB t aq aG false cM with _ | x
   rotate_left
   · obtain rfl:=a7 x hM
     have HR:Hid (dz t=some x):=by show _=_; rw [HE.out,n0.out,Option.none_or,n1.out,Option.none_or,hM]; rfl
     clear a7 hq hM HE HV;unfold dS;go_wp2
     exact cX t x HR.out w w1 _ _ _ _ _ _ _ _ _ _ _ _ _ _ rfl rfl rfl HP.out I.out D.out Z.out
   obtain rfl:=hq hM;have n2:=zH hM;clear a7 hq hM aa ms;obtain ⟨d4,u7,dl⟩:=zB HP.out 4 rfl;go_upto_region 10 with fail
   refine ai fun W hW=>?_
   have x1:ak W (w.heap.size+1) [.bool hp,.string pg,.string pa,.string pn,.string (bs (ae t aG)),.string ⟨#[]⟩,.string ⟨#[]⟩,.string ⟨#[]⟩,.slice none 0 0,.slice none 0 0,.slice none 0 0]:=by rw [hW]; exact HP.out.set 4 _
   have hg:World.grownBy w1 W (some (w.heap.size+1)):=by rw [hW]; exact ab _ (w.heap.size+1) 4 _
   clear hW d4 u7 dl;have U:=zH (I.out.grown hg (by simp));have O:=zH (D.out.grown hg (by simp));have J:=zH (A.out.grown hg (by simp));have ag:=zH (Z.out.trans (aS hg (by omega) Z.out.size));clear HP I D A Z hg;have HP:=zH x1;have I:=U;have D:=O;have A:=J;have Z:=ag;clear x1 U O J ag;obtain ⟨a0,a1,a2,a3,a4⟩:=gU A.out;have al:=A.out.lt;go_wp2_with fail
   refine (mo.out _ Z.out).mono ?_
   rintro e w1 ⟨aa,a7,hq⟩;clear a0 a1 a2 a3 a4 al;have ba:=zH (HP.out.below aa HP.out.lt);have U:=zH (I.out.below aa I.out.lt);have O:=zH (D.out.below aa D.out.lt);have J:=zH (A.out.below aa A.out.lt);have ag:=zH (Z.out.trans (aa.mono Z.out.size));clear HP I D A Z;have HP:=ba;have I:=U;have D:=O;have A:=J;have Z:=ag;clear ba U O J ag;rcases hM:bB t aq ar true cM with _ | x
   rotate_left
   · obtain rfl:=a7 x hM
     have HR:Hid (dz t=some x):=by show _=_; rw [HE.out,n0.out,Option.none_or,n1.out,Option.none_or,n2.out,Option.none_or,hM]; rfl
     clear a7 hq hM HE HV;unfold dS;go_wp2
     exact cX t x HR.out w w1 _ _ _ _ _ _ _ _ _ _ _ _ _ _ rfl rfl rfl HP.out I.out D.out Z.out
   obtain rfl:=hq hM;have n3:=zH hM;clear a7 hq hM aa mo;obtain ⟨d5,u6,dl⟩:=zB HP.out 5 rfl;go_upto_region 11 with fail
   refine ai fun W hW=>?_
   have x1:ak W (w.heap.size+1) [.bool hp,.string pg,.string pa,.string pn,.string (bs (ae t aG)),.string (bs (ae t ar)),.string ⟨#[]⟩,.string ⟨#[]⟩,.slice none 0 0,.slice none 0 0,.slice none 0 0]:=by rw [hW]; exact HP.out.set 5 _
   have hg:World.grownBy w1 W (some (w.heap.size+1)):=by rw [hW]; exact ab _ (w.heap.size+1) 5 _
   clear hW d5 u6 dl;have U:=zH (I.out.grown hg (by simp));have O:=zH (D.out.grown hg (by simp));have J:=zH (A.out.grown hg (by simp));have ag:=zH (Z.out.trans (aS hg (by omega) Z.out.size));clear HP I D A Z hg;have HP:=zH x1;have I:=U;have D:=O;have A:=J;have Z:=ag;clear x1 U O J ag;obtain ⟨a0,a1,a2,a3,a4⟩:=gU A.out;have al:=A.out.lt;go_wp2_with fail
   refine (mc.out _ Z.out).mono ?_
   rintro e w1 ⟨aa,a7,hq⟩;clear a0 a1 a2 a3 a4 al;have ba:=zH (HP.out.below aa HP.out.lt);have U:=zH (I.out.below aa I.out.lt);have O:=zH (D.out.below aa D.out.lt);have J:=zH (A.out.below aa A.out.lt);have ag:=zH (Z.out.trans (aa.mono Z.out.size));clear HP I D A Z;have HP:=ba;have I:=U;have D:=O;have A:=J;have Z:=ag;clear ba U O J ag;rcases hM:bB t aq aA false cM with _ | x
   rotate_left
   · obtain rfl:=a7 x hM
     have HR:Hid (dz t=some x):=by show _=_; rw [HE.out,n0.out,Option.none_or,n1.out,Option.none_or,n2.out,Option.none_or,n3.out,Option.none_or,hM]; rfl
     clear a7 hq hM HE HV;unfold dS;go_wp2
     exact cX t x HR.out w w1 _ _ _ _ _ _ _ _ _ _ _ _ _ _ rfl rfl rfl HP.out I.out D.out Z.out
   obtain rfl:=hq hM;have n4:=zH hM;clear a7 hq hM aa mc;obtain ⟨d6,u5,dl⟩:=zB HP.out 6 rfl;go_upto_region 12 with fail
   refine ai fun W hW=>?_
   have x1:ak W (w.heap.size+1) [.bool hp,.string pg,.string pa,.string pn,.string (bs (ae t aG)),.string (bs (ae t ar)),.string (bs (ae t aA)),.string ⟨#[]⟩,.slice none 0 0,.slice none 0 0,.slice none 0 0]:=by rw [hW]; exact HP.out.set 6 _
   have hg:World.grownBy w1 W (some (w.heap.size+1)):=by rw [hW]; exact ab _ (w.heap.size+1) 6 _
   clear hW d6 u5 dl;have U:=zH (I.out.grown hg (by simp));have O:=zH (D.out.grown hg (by simp));have J:=zH (A.out.grown hg (by simp));have ag:=zH (Z.out.trans (aS hg (by omega) Z.out.size));clear HP I D A Z hg;have HP:=zH x1;have I:=U;have D:=O;have A:=J;have Z:=ag;clear x1 U O J ag;obtain ⟨a0,a1,a2,a3,a4⟩:=gU A.out;have al:=A.out.lt;go_wp2_with fail
   refine (l9.out _ Z.out).mono ?_
   rintro e w1 ⟨aa,a7,hq⟩;clear a0 a1 a2 a3 a4 al;have ba:=zH (HP.out.below aa HP.out.lt);have U:=zH (I.out.below aa I.out.lt);have O:=zH (D.out.below aa D.out.lt);have J:=zH (A.out.below aa A.out.lt);have ag:=zH (Z.out.trans (aa.mono Z.out.size));clear HP I D A Z;have HP:=ba;have I:=U;have D:=O;have A:=J;have Z:=ag;clear ba U O J ag;rcases hM:bB t aq bk false cM with _ | x
   rotate_left
   · obtain rfl:=a7 x hM
     have HR:Hid (dz t=some x):=by show _=_; rw [HE.out,n0.out,Option.none_or,n1.out,Option.none_or,n2.out,Option.none_or,n3.out,Option.none_or,n4.out,Option.none_or,hM]; rfl
     clear a7 hq hM HE HV;unfold dS;go_wp2
     exact cX t x HR.out w w1 _ _ _ _ _ _ _ _ _ _ _ _ _ _ rfl rfl rfl HP.out I.out D.out Z.out
   obtain rfl:=hq hM;have n5:=zH hM;clear a7 hq hM aa l9;obtain ⟨d7,u4,dl⟩:=zB HP.out 7 rfl;go_upto_region 13 with fail
   refine ai fun W hW=>?_
   have x1:ak W (w.heap.size+1) [.bool hp,.string pg,.string pa,.string pn,.string (bs (ae t aG)),.string (bs (ae t ar)),.string (bs (ae t aA)),.string (bs (ae t bk)),.slice none 0 0,.slice none 0 0,.slice none 0 0]:=by rw [hW]; exact HP.out.set 7 _
   have hg:World.grownBy w1 W (some (w.heap.size+1)):=by rw [hW]; exact ab _ (w.heap.size+1) 7 _
   clear hW d7 u4 dl;have U:=zH (I.out.grown hg (by simp));have O:=zH (D.out.grown hg (by simp));have J:=zH (A.out.grown hg (by simp));have ag:=zH (Z.out.trans (aS hg (by omega) Z.out.size));clear HP I D A Z hg;have HP:=zH x1;have I:=U;have D:=O;have A:=J;have Z:=ag;clear x1 U O J ag;obtain ⟨a0,a1,a2,a3,a4⟩:=gU A.out;have al:=A.out.lt;go_wp2_with fail
   refine (pk.out _ Z.out).mono ?_
   rintro e w1 ⟨aa,a7,hq⟩;clear a0 a1 a2 a3 a4 al;have ba:=zH (HP.out.below aa HP.out.lt);have U:=zH (I.out.below aa I.out.lt);have O:=zH (D.out.below aa D.out.lt);have J:=zH (A.out.below aa A.out.lt);have ag:=zH (Z.out.trans (aa.mono Z.out.size));have e9:Hid (w.heap.size+4<W.heap.size):=A.out.lt;clear HP I D A Z;have HP:=ba;have I:=U;have D:=O;have A:=J;have Z:=ag;clear ba U O J ag;rcases hM:kx t aq with _ | x
   rotate_left
   · obtain rfl:=a7 x hM
     have HR:Hid (dz t=some x):=by show _=_; rw [HE.out,n0.out,Option.none_or,n1.out,Option.none_or,n2.out,Option.none_or,n3.out,Option.none_or,n4.out,Option.none_or,n5.out,Option.none_or,hM]; rfl
     clear a7 hq hM HE HV;unfold dS;go_wp2
     exact cX t x HR.out w w1 _ _ _ _ _ _ _ _ _ _ _ _ _ _ rfl rfl rfl HP.out I.out D.out Z.out
   obtain ⟨pv,rfl,hH⟩:=hq hM;obtain ⟨po,pc,rfl⟩:=hH.shape;generalize tm:(kw t).length=pl at *;have bc:=zH (hH.base_mono (show w.heap.size+4≤W.heap.size by have:=e9.out; omega));have n6:=zH hM;clear a7 hq hM aa pk hH tm e9;obtain ⟨d8,t6,dl⟩:=zB HP.out 8 rfl;go_upto_region 14 with fail
   refine ai fun W hW=>?_
   have x1:ak W (w.heap.size+1) [.bool hp,.string pg,.string pa,.string pn,.string (bs (ae t aG)),.string (bs (ae t ar)),.string (bs (ae t aA)),.string (bs (ae t bk)),.slice po pl pc,.slice none 0 0,.slice none 0 0]:=by rw [hW]; exact HP.out.set 8 _
   have hg:World.grownBy w1 W (some (w.heap.size+1)):=by rw [hW]; exact ab _ (w.heap.size+1) 8 _
   clear hW d8 t6 dl;have U:=zH (I.out.grown hg (by simp));have O:=zH (D.out.grown hg (by simp));have J:=zH (A.out.grown hg (by simp));have ag:=zH (Z.out.trans (aS hg (by omega) Z.out.size));have a9:=zH (bc.out.keptR hg (by omega));clear bc;have bc:=a9;clear a9;clear HP I D A Z hg;have HP:=zH x1;have I:=U;have D:=O;have A:=J;have Z:=ag;clear x1 U O J ag;obtain ⟨a0,a1,a2,a3,a4⟩:=gU A.out;have al:=A.out.lt;go_wp2_with fail
   refine (p7.out _ Z.out).mono ?_
   rintro e w1 ⟨aa,a7,hq⟩;clear a0 a1 a2 a3 a4 al;have ba:=zH (HP.out.below aa HP.out.lt);have U:=zH (I.out.below aa I.out.lt);have O:=zH (D.out.below aa D.out.lt);have J:=zH (A.out.below aa A.out.lt);have ag:=zH (Z.out.trans (aa.mono Z.out.size));have a9:=zH (bc.out.below aa);clear bc;have bc:=a9;clear a9;clear HP I D A Z;have HP:=ba;have I:=U;have D:=O;have A:=J;have Z:=ag;clear ba U O J ag;rcases hM:cS t aq bt with _ | x
   rotate_left
   · obtain rfl:=a7 x hM
     have HR:Hid (dz t=some x):=by show _=_; rw [HE.out,n0.out,Option.none_or,n1.out,Option.none_or,n2.out,Option.none_or,n3.out,Option.none_or,n4.out,Option.none_or,n5.out,Option.none_or,n6.out,Option.none_or]; unfold fi; rw [hM]; rfl
     clear a7 hq hM HE HV;unfold dS;go_wp2
     exact cX t x HR.out w w1 _ _ _ _ _ _ _ _ _ _ _ _ _ _ rfl rfl rfl HP.out I.out D.out Z.out
   have hq:=hq hM;have hw:=zH hM;clear a7 hM aa p7;rcases hO:cZ t bt with _ | k
   · rw [hO] at hq
     simp only [gn] at hq;subst hq;have n7:Hid (fi t aq=none):=by show _=_; unfold fi; rw [hw.out,hO]; rfl
     have nu:Hid (ig t=[]):=by show _=_; unfold ig; rw [hO]
     have cm:Hid (bM (w.heap.size+4) w1 (.slice none 0 0) [] []):=bM.nil _ _;clear hO hw;go_upto_region 17 with fail
     refine ai fun W2 fz=>?_
     have bv:Below w1.heap.size w1 W2:=by rw [fz]; exact (Below.refl _ _).alloc (Nat.le_refl _) _
     clear fz;have ba:=zH (HP.out.below bv HP.out.lt);have U:=zH (I.out.below bv I.out.lt);have O:=zH (D.out.below bv D.out.lt);have J:=zH (A.out.below bv A.out.lt);have ag:=zH (Z.out.trans (bv.mono Z.out.size));have a9:=zH (bc.out.below bv);have cf:=zH (cm.out.below bv);clear bc cm;have bc:=a9;have cm:=cf;clear a9 cf;clear HP I D A Z;have HP:=ba;have I:=U;have D:=O;have A:=J;have Z:=ag;clear ba U O J ag;clear bv;obtain ⟨a0,a1,a2,a3,a4⟩:=gU A.out;have al:=A.out.lt;go_wp2_with fail
     refine (kE.out _ Z.out).mono ?_
     rintro e w1 ⟨aa,a7,hq⟩;clear a0 a1 a2 a3 a4 al;have ba:=zH (HP.out.below aa HP.out.lt);have U:=zH (I.out.below aa I.out.lt);have O:=zH (D.out.below aa D.out.lt);have J:=zH (A.out.below aa A.out.lt);have ag:=zH (Z.out.trans (aa.mono Z.out.size));have a9:=zH (bc.out.below aa);have cf:=zH (cm.out.below aa);have e9:Hid (w.heap.size+4<W2.heap.size):=A.out.lt;clear bc cm;have bc:=a9;have cm:=cf;clear a9 cf;clear HP I D A Z;have HP:=ba;have I:=U;have D:=O;have A:=J;have Z:=ag;clear ba U O J ag;rcases hM:iY false t aq with _ | x
     rotate_left
     · obtain rfl:=a7 x hM
       have HR:Hid (dz t=some x):=by show _=_; rw [HE.out,n0.out,Option.none_or,n1.out,Option.none_or,n2.out,Option.none_or,n3.out,Option.none_or,n4.out,Option.none_or,n5.out,Option.none_or,n6.out,Option.none_or,n7.out,Option.none_or,hM]
       clear a7 hq hM HE HV;unfold dS;go_wp2
       exact cX t x HR.out w w1 _ _ _ _ _ _ _ _ _ _ _ _ _ _ rfl rfl rfl HP.out I.out D.out Z.out
     obtain ⟨dv,DL,rfl,e5⟩:=hq hM;obtain ⟨eg,ei,lk⟩:=e5.row.shape;subst lk;generalize ll:DL.length=dn at *;have fv:=zH (e5.base_mono (show w.heap.size+4≤W2.heap.size by have:=e9.out; omega));have n8:=zH hM;clear a7 hq hM aa kE e5 ll e9;obtain ⟨l1,km,dl⟩:=zB HP.out 10 rfl;go_upto_region 18 with fail
     refine ai fun W hW=>?_
     have x1:ak W (w.heap.size+1) [.bool hp,.string pg,.string pa,.string pn,.string (bs (ae t aG)),.string (bs (ae t ar)),.string (bs (ae t aA)),.string (bs (ae t bk)),.slice po pl pc,.slice none 0 0,.slice eg dn ei]:=by rw [hW]; exact HP.out.set 10 _
     have hg:World.grownBy w1 W (some (w.heap.size+1)):=by rw [hW]; exact ab _ (w.heap.size+1) 10 _
     clear hW l1 km dl;have U:=zH (I.out.grown hg (by simp));have O:=zH (D.out.grown hg (by simp));have J:=zH (A.out.grown hg (by simp));have ag:=zH (Z.out.trans (aS hg (by omega) Z.out.size));have a9:=zH (bc.out.keptR hg (by omega));have cf:=zH (cm.out.keptR hg (by omega));have hT:=zH (fv.out.keptR hg (by omega));clear bc cm fv;have bc:=a9;have cm:=cf;have fv:=hT;clear a9 cf hT;clear HP I D A Z hg;have HP:=zH x1;have I:=U;have D:=O;have A:=J;have Z:=ag;clear x1 U O J ag;obtain ⟨d0,g7,hN⟩:=zB I.out 0 rfl;obtain ⟨q0,hE,hC⟩:=zB D.out 0 rfl;go_wp2_with (first | ((with_reducible show wpList _ _ _ (Oper.mk _ (Op.load 55 (.tmp 2)) _ _ _ _::_) _ _); refine er rfl 55 (.tmp 2) rfl (w.heap.size+1) [.bool hp,.string pg,.string pa,.string pn,.string (bs (ae t aG)),.string (bs (ae t ar)),.string (bs (ae t aA)),.string (bs (ae t bk)),.slice po pl pc,.slice none 0 0,.slice eg dn ei] rfl HP.out Tryz.underlying55 rfl jS ?_) | ((with_reducible show wpList _ _ _ (Oper.mk none (Op.store 55 (.tmp 2) (.tmp 63)) _ _ _ _::_) _ _); refine bn rfl 55 (.tmp 2) (.tmp 63) rfl (w.heap.size+1) [.bool hp,.string pg,.string pa,.string pn,.string (bs (ae t aG)),.string (bs (ae t ar)),.string (bs (ae t aA)),.string (bs (ae t bk)),.slice po pl pc,.slice none 0 0,.slice eg dn ei] [.bool hp,.string pg,.string pa,.string pn,.string (bs (ae t aG)),.string (bs (ae t ar)),.string (bs (ae t aA)),.string (bs (ae t bk)),.slice po pl pc,.slice none 0 0,.slice eg dn ei] rfl rfl HP.out rfl jS (by simp [Value.oneCell']) ?_; intro hR h4 hJ; have hS:=zH h4; have cT:=zH hJ; clear h4 hJ d0 g7 hN q0 hE hC; have dk:=zH (I.out.grown cT.out (by simp)); have dg:=zH (D.out.grown cT.out (by simp)); have d0:=dk.out.cell 0 _ rfl; have g7:=dk.out.free 0; have hN:=dk.out.lt; have q0:=dg.out.cell 0 _ rfl; have hE:=dg.out.free 0; have hC:=dg.out.lt))
     clear d0 g7 hN q0 hE hC;have ga:=ab hR (w.heap.size+1+1) 0 (.int .i64 0);have gb:=ab (hR.setCell ⟨w.heap.size+1+1,0,none⟩ (.int .i64 0)) (w.heap.size+1+1+1) 0 (.string ⟨#[]⟩);have h6:=(hS.out.grown ga (by simp)).grown gb (by simp);have lg:=(dk.out.set 0 (.int .i64 0)).grown gb (by simp);have lc:=(dg.out.grown ga (by simp)).set 0 (.string ⟨#[]⟩);have hH:=(((bc.out.keptR cT.out (by omega)).keptR ga (by omega)).keptR gb (by omega)).base_mono (show w.heap.size≤w.heap.size+4 by omega);have hI:=(((cm.out.keptR cT.out (by omega)).keptR ga (by omega)).keptR gb (by omega)).base_mono (show w.heap.size≤w.heap.size+4 by omega);have e5:=(((fv.out.keptR cT.out (by omega)).keptR ga (by omega)).keptR gb (by omega)).base_mono (show w.heap.size≤w.heap.size+4 by omega);have hK:=Z.out.trans (aS cT.out (by omega) Z.out.size);have ah:=hK.trans (aS ga (by omega) hK.size);have l0:=ah.trans (aS gb (by omega) ah.size);clear ga gb hK ah hS dk dg cT HP I D A Z bc cm fv;generalize ((hR.setCell ⟨w.heap.size+1+1,0,none⟩ (.int .i64 0)).setCell ⟨w.heap.size+1+1+1,0,none⟩ (.string ⟨#[]⟩))=W3 at *;refine leaves_cons (f:=91) (args:=#[.pointer (some ⟨w.heap.size+1,0,none⟩),.pointer (some ⟨w.heap.size+2,0,none⟩),.pointer (some ⟨w.heap.size+3,0,none⟩)]) (by simp) (by simp [go_sem]) ?_
     refine (jq _ _ _ _).mono ?_
     rintro e u' w4 ⟨rfl,rfl,rfl⟩;obtain ⟨b0,b1,b2,b3,b4,b5,b6,b7,b8,b9,l5⟩:=rH h6;have bl:=h6.lt;have l3:=lg.cell 0 _ rfl;have l2:=lc.cell 0 _ rfl;have lp:dz t=none:=by rw [HE.out,n0.out,Option.none_or,n1.out,Option.none_or,n2.out,Option.none_or,n3.out,Option.none_or,n4.out,Option.none_or,n5.out,Option.none_or,n6.out,Option.none_or,n7.out,Option.none_or,n8.out]
     refine ⟨.tuple #[.agg #[.bool hp,.string pg,.string pa,.string pn,.string (bs (ae t aG)),.string (bs (ae t ar)),.string (bs (ae t aA)),.string (bs (ae t bk)),.slice po pl pc,.slice none 0 0,.slice eg dn ei],.int .i64 0,.string ⟨#[]⟩],?_,l0,fun x hx=>?_,fun _=>?_⟩
     · simp [results,Tryz.results58,go_sem,b0,b1,b2,b3,b4,b5,b6,b7,b8,b9,l5,l3,l2]
     · rw [lp] at hx; cases hx
     · refine ⟨.slice po pl pc,.slice none 0 0,.slice eg dn ei,?_,?_,?_,?_⟩
       · rw [HV.out,← el.out]
         rfl
       · rw [HV.out]; exact hH
       · rw [HV.out]; exact ⟨_,by rw [nu.out]; exact hI⟩
       · rw [HV.out]; exact ⟨_,e5⟩
   · rw [hO] at hq
     obtain ⟨l6,la,rfl,hn⟩:=hq;obtain ⟨p1,p2,p3,p4,rfl,rfl,-,-⟩:=hn.shape;have oc:=HM.out.one hO;have p8:Hid (∀ X,Below w1.heap.size w1 X→Calls Tryz.prog 97 #[.agg #[.string (bs k.name),.slice p1 k.attrs.length p2,.slice p3 k.kids.length p4,.string (bs k.text),.string (bs (sl aq bt))],.bool true] X (dx (iY true k (sl aq bt)) (zG X (lH k)) X)):=fun X h=>qm true k (sl aq bt) X _ _ (hn.later h) oc (by decide);have nx:Hid (fi t aq=iY true k (sl aq bt)):=by show _=_; unfold fi; rw [hw.out,hO]; rfl
     have su:Hid (ig t=lH k):=by show _=_; unfold ig; rw [hO]
     have e9:Hid (w.heap.size+4<w1.heap.size):=A.out.lt;clear hO hw hn oc;unfold dj;go_upto_region 16 with fail
     refine ai fun W2 fz=>?_
     have x5:ak W2 w1.heap.size [.string (bs k.name),.slice p1 k.attrs.length p2,.slice p3 k.kids.length p4,.string (bs k.text),.string (bs (sl aq bt))]:=by rw [fz]; exact ak.new w1 [.string (bs k.name),.slice p1 k.attrs.length p2,.slice p3 k.kids.length p4,.string (bs k.text),.string (bs (sl aq bt))] _ _ rfl
     have bv:Below w1.heap.size w1 W2:=by rw [fz]; exact (Below.refl _ _).alloc (Nat.le_refl _) _
     clear fz;have HF:=zH x5;have hr:=zH bv;clear x5;have ba:=zH (HP.out.below bv HP.out.lt);have U:=zH (I.out.below bv I.out.lt);have O:=zH (D.out.below bv D.out.lt);have J:=zH (A.out.below bv A.out.lt);have ag:=zH (Z.out.trans (bv.mono Z.out.size));have a9:=zH (bc.out.below bv);clear bc;have bc:=a9;clear a9;clear HP I D A Z;have HP:=ba;have I:=U;have D:=O;have A:=J;have Z:=ag;clear ba U O J ag;obtain ⟨a0,a1,a2,a3,a4⟩:=gU HF.out;have al:=HF.out.lt;clear bv;go_wp2_with fail
     refine (p8.out _ hr.out).mono ?_
     rintro e w3 ⟨aa,a7,hq⟩;clear a0 a1 a2 a3 a4 al p8;have ba:=zH (HP.out.below aa HP.out.lt);have U:=zH (I.out.below aa I.out.lt);have O:=zH (D.out.below aa D.out.lt);have J:=zH (A.out.below aa A.out.lt);have ag:=zH (Z.out.trans (aa.mono Z.out.size));have a9:=zH (bc.out.below aa);have m6:=zH (Nat.le_trans (Nat.le_of_lt e9.out) hr.out.size);clear bc;have bc:=a9;clear a9;clear HP I D A Z;have HP:=ba;have I:=U;have D:=O;have A:=J;have Z:=ag;clear ba U O J ag;rcases hM:iY true k (sl aq bt) with _ | x
     rotate_left
     · obtain rfl:=a7 x hM
       have HR:Hid (dz t=some x):=by show _=_; rw [HE.out,n0.out,Option.none_or,n1.out,Option.none_or,n2.out,Option.none_or,n3.out,Option.none_or,n4.out,Option.none_or,n5.out,Option.none_or,n6.out,Option.none_or,nx.out,hM]; rfl
       clear a7 hq hM HE HV;unfold dS;go_wp2
       exact cX t x HR.out w w3 _ _ _ _ _ _ _ _ _ _ _ _ _ _ rfl rfl rfl HP.out I.out D.out Z.out
     obtain ⟨mv,ML,rfl,hI⟩:=hq hM;obtain ⟨hF,hG,tn⟩:=hI.row.shape;subst tn;generalize tp:ML.length=mn at *;have cm:=zH (hI.base_mono (show w.heap.size+4≤W2.heap.size by have:=m6.out; omega));have n7:Hid (fi t aq=none):=by show _=_; rw [nx.out,hM]
     have nu:=su;clear a7 hq hM aa hI tp e9 m6 nx HF hr;obtain ⟨d9,t5,dl⟩:=zB HP.out 9 rfl;go_upto_region 17 with fail
     refine ai fun W hW=>?_
     have x1:ak W (w.heap.size+1) [.bool hp,.string pg,.string pa,.string pn,.string (bs (ae t aG)),.string (bs (ae t ar)),.string (bs (ae t aA)),.string (bs (ae t bk)),.slice po pl pc,.slice hF mn hG,.slice none 0 0]:=by rw [hW]; exact HP.out.set 9 _
     have hg:World.grownBy w3 W (some (w.heap.size+1)):=by rw [hW]; exact ab _ (w.heap.size+1) 9 _
     clear hW d9 t5 dl;have U:=zH (I.out.grown hg (by simp));have O:=zH (D.out.grown hg (by simp));have J:=zH (A.out.grown hg (by simp));have ag:=zH (Z.out.trans (aS hg (by omega) Z.out.size));have a9:=zH (bc.out.keptR hg (by omega));have cf:=zH (cm.out.keptR hg (by omega));clear bc cm;have bc:=a9;have cm:=cf;clear a9 cf;clear HP I D A Z hg;have HP:=zH x1;have I:=U;have D:=O;have A:=J;have Z:=ag;clear x1 U O J ag;obtain ⟨a0,a1,a2,a3,a4⟩:=gU A.out;have al:=A.out.lt;go_wp2_with fail
     refine (kE.out _ Z.out).mono ?_
     rintro e w1 ⟨aa,a7,hq⟩;clear a0 a1 a2 a3 a4 al;have ba:=zH (HP.out.below aa HP.out.lt);have U:=zH (I.out.below aa I.out.lt);have O:=zH (D.out.below aa D.out.lt);have J:=zH (A.out.below aa A.out.lt);have ag:=zH (Z.out.trans (aa.mono Z.out.size));have a9:=zH (bc.out.below aa);have cf:=zH (cm.out.below aa);have e9:Hid (w.heap.size+4<W.heap.size):=A.out.lt;clear bc cm;have bc:=a9;have cm:=cf;clear a9 cf;clear HP I D A Z;have HP:=ba;have I:=U;have D:=O;have A:=J;have Z:=ag;clear ba U O J ag;rcases hM:iY false t aq with _ | x
     rotate_left
     · obtain rfl:=a7 x hM
       have HR:Hid (dz t=some x):=by show _=_; rw [HE.out,n0.out,Option.none_or,n1.out,Option.none_or,n2.out,Option.none_or,n3.out,Option.none_or,n4.out,Option.none_or,n5.out,Option.none_or,n6.out,Option.none_or,n7.out,Option.none_or,hM]
       clear a7 hq hM HE HV;unfold dS;go_wp2
       exact cX t x HR.out w w1 _ _ _ _ _ _ _ _ _ _ _ _ _ _ rfl rfl rfl HP.out I.out D.out Z.out
     obtain ⟨dv,DL,rfl,e5⟩:=hq hM;obtain ⟨eg,ei,lk⟩:=e5.row.shape;subst lk;generalize ll:DL.length=dn at *;have fv:=zH (e5.base_mono (show w.heap.size+4≤W.heap.size by have:=e9.out; omega));have n8:=zH hM;clear a7 hq hM aa kE e5 ll e9;obtain ⟨l1,km,dl⟩:=zB HP.out 10 rfl;go_upto_region 18 with fail
     refine ai fun W hW=>?_
     have x1:ak W (w.heap.size+1) [.bool hp,.string pg,.string pa,.string pn,.string (bs (ae t aG)),.string (bs (ae t ar)),.string (bs (ae t aA)),.string (bs (ae t bk)),.slice po pl pc,.slice hF mn hG,.slice eg dn ei]:=by rw [hW]; exact HP.out.set 10 _
     have hg:World.grownBy w1 W (some (w.heap.size+1)):=by rw [hW]; exact ab _ (w.heap.size+1) 10 _
     clear hW l1 km dl;have U:=zH (I.out.grown hg (by simp));have O:=zH (D.out.grown hg (by simp));have J:=zH (A.out.grown hg (by simp));have ag:=zH (Z.out.trans (aS hg (by omega) Z.out.size));have a9:=zH (bc.out.keptR hg (by omega));have cf:=zH (cm.out.keptR hg (by omega));have hT:=zH (fv.out.keptR hg (by omega));clear bc cm fv;have bc:=a9;have cm:=cf;have fv:=hT;clear a9 cf hT;clear HP I D A Z hg;have HP:=zH x1;have I:=U;have D:=O;have A:=J;have Z:=ag;clear x1 U O J ag;obtain ⟨d0,g7,hN⟩:=zB I.out 0 rfl;obtain ⟨q0,hE,hC⟩:=zB D.out 0 rfl;go_wp2_with (first | ((with_reducible show wpList _ _ _ (Oper.mk _ (Op.load 55 (.tmp 2)) _ _ _ _::_) _ _); refine er rfl 55 (.tmp 2) rfl (w.heap.size+1) [.bool hp,.string pg,.string pa,.string pn,.string (bs (ae t aG)),.string (bs (ae t ar)),.string (bs (ae t aA)),.string (bs (ae t bk)),.slice po pl pc,.slice hF mn hG,.slice eg dn ei] rfl HP.out Tryz.underlying55 rfl jS ?_) | ((with_reducible show wpList _ _ _ (Oper.mk none (Op.store 55 (.tmp 2) (.tmp 63)) _ _ _ _::_) _ _); refine bn rfl 55 (.tmp 2) (.tmp 63) rfl (w.heap.size+1) [.bool hp,.string pg,.string pa,.string pn,.string (bs (ae t aG)),.string (bs (ae t ar)),.string (bs (ae t aA)),.string (bs (ae t bk)),.slice po pl pc,.slice hF mn hG,.slice eg dn ei] [.bool hp,.string pg,.string pa,.string pn,.string (bs (ae t aG)),.string (bs (ae t ar)),.string (bs (ae t aA)),.string (bs (ae t bk)),.slice po pl pc,.slice hF mn hG,.slice eg dn ei] rfl rfl HP.out rfl jS (by simp [Value.oneCell']) ?_; intro hR h4 hJ; have hS:=zH h4; have cT:=zH hJ; clear h4 hJ d0 g7 hN q0 hE hC; have dk:=zH (I.out.grown cT.out (by simp)); have dg:=zH (D.out.grown cT.out (by simp)); have d0:=dk.out.cell 0 _ rfl; have g7:=dk.out.free 0; have hN:=dk.out.lt; have q0:=dg.out.cell 0 _ rfl; have hE:=dg.out.free 0; have hC:=dg.out.lt))
     clear d0 g7 hN q0 hE hC;have ga:=ab hR (w.heap.size+1+1) 0 (.int .i64 0);have gb:=ab (hR.setCell ⟨w.heap.size+1+1,0,none⟩ (.int .i64 0)) (w.heap.size+1+1+1) 0 (.string ⟨#[]⟩);have h6:=(hS.out.grown ga (by simp)).grown gb (by simp);have lg:=(dk.out.set 0 (.int .i64 0)).grown gb (by simp);have lc:=(dg.out.grown ga (by simp)).set 0 (.string ⟨#[]⟩);have hH:=(((bc.out.keptR cT.out (by omega)).keptR ga (by omega)).keptR gb (by omega)).base_mono (show w.heap.size≤w.heap.size+4 by omega);have hI:=(((cm.out.keptR cT.out (by omega)).keptR ga (by omega)).keptR gb (by omega)).base_mono (show w.heap.size≤w.heap.size+4 by omega);have e5:=(((fv.out.keptR cT.out (by omega)).keptR ga (by omega)).keptR gb (by omega)).base_mono (show w.heap.size≤w.heap.size+4 by omega);have hK:=Z.out.trans (aS cT.out (by omega) Z.out.size);have ah:=hK.trans (aS ga (by omega) hK.size);have l0:=ah.trans (aS gb (by omega) ah.size);clear ga gb hK ah hS dk dg cT HP I D A Z bc cm fv;generalize ((hR.setCell ⟨w.heap.size+1+1,0,none⟩ (.int .i64 0)).setCell ⟨w.heap.size+1+1+1,0,none⟩ (.string ⟨#[]⟩))=W3 at *;refine leaves_cons (f:=91) (args:=#[.pointer (some ⟨w.heap.size+1,0,none⟩),.pointer (some ⟨w.heap.size+2,0,none⟩),.pointer (some ⟨w.heap.size+3,0,none⟩)]) (by simp) (by simp [go_sem]) ?_
     refine (jq _ _ _ _).mono ?_
     rintro e u' w4 ⟨rfl,rfl,rfl⟩;obtain ⟨b0,b1,b2,b3,b4,b5,b6,b7,b8,b9,l5⟩:=rH h6;have bl:=h6.lt;have l3:=lg.cell 0 _ rfl;have l2:=lc.cell 0 _ rfl;have lp:dz t=none:=by rw [HE.out,n0.out,Option.none_or,n1.out,Option.none_or,n2.out,Option.none_or,n3.out,Option.none_or,n4.out,Option.none_or,n5.out,Option.none_or,n6.out,Option.none_or,n7.out,Option.none_or,n8.out]
     refine ⟨.tuple #[.agg #[.bool hp,.string pg,.string pa,.string pn,.string (bs (ae t aG)),.string (bs (ae t ar)),.string (bs (ae t aA)),.string (bs (ae t bk)),.slice po pl pc,.slice hF mn hG,.slice eg dn ei],.int .i64 0,.string ⟨#[]⟩],?_,l0,fun x hx=>?_,fun _=>?_⟩
     · simp [results,Tryz.results58,go_sem,b0,b1,b2,b3,b4,b5,b6,b7,b8,b9,l5,l3,l2]
     · rw [lp] at hx; cases hx
     · refine ⟨.slice po pl pc,.slice hF mn hG,.slice eg dn ei,?_,?_,?_,?_⟩
       · rw [HV.out,← el.out]
         rfl
       · rw [HV.out]; exact hH
       · rw [HV.out]; exact ⟨_,by rw [nu.out]; exact hI⟩
       · rw [HV.out]; exact ⟨_,e5⟩
theorem vY (t:Tr) (w:World) (av kv:Value) (A:dJ w t av kv) (hm:fq t) :
    Calls Tryz.prog 58 #[.agg #[.string (bs t.name),av,kv,.string (bs t.text)]] w (nk t w):=vX t w av kv A hm.weak
end Go.Proofs.YtominiaohfjobaaGreatDoor
