/- The order of versions is a weak order; plain laws, no program in sight. -/
import Derived.Test.YtominiaohfjobaaGreatDoorPK07
import Derived.Test.YtominiaohfjobaaGreatDoorPK01
import Derived.Test.YtominiaohfjobaaGreatDoorPK06
import Derived.Lib.SplitLaws
import Derived.StillTailTactics
import Derived.IntWalk
import Derived.Laws.EntriesVeiled
import Derived.Test.YtominiaohfjobaaGreatDoorPK04
import Derived.Test.YtominiaohfjobaaGreatDoorPK02
import Derived.Deep.RegionLaw
import Derived.Deep.RegionLawGrows
import Derived.Deep.AppendLies
set_option maxRecDepth 100000
set_option maxHeartbeats 64000000
namespace Go.Proofs.YtominiaohfjobaaGreatDoor
open Go Go.RowKit
structure eH {α:Type} (c:α→α→Int):Prop where
 flip : ∀ a b,c b a = - c a b
 le : ∀ a b d,c a b≤0→c b d≤0→c a d≤0
def mQ {α:Type} (c d:α→α→Int) (a b:α):Int:=if c a b≠0 then c a b else d a b
theorem eH.ltle {α:Type} {c:α→α→Int} (h:eH c) {a b d:α} (h1:c a b<0) (h2:c b d≤0):c a d<0:=by
 have h3:=h.le a b d (by omega) h2;by_cases I:c a d=0
 · have D:c d a≤0:=by rw [h.flip]; omega
   have A:=h.le b d a h2 D;rw [h.flip] at A; omega
 · omega
theorem eH.lelt {α:Type} {c:α→α→Int} (h:eH c) {a b d:α} (h1:c a b≤0) (h2:c b d<0):c a d<0:=by
 have h3:=h.le a b d h1 (by omega);by_cases I:c a d=0
 · have D:c d a≤0:=by rw [h.flip]; omega
   have A:=h.le d a b D h1;rw [h.flip] at A; omega
 · omega
theorem eH.lex {α:Type} {c d:α→α→Int} (h:eH c) (g:eH d):eH (mQ c d):=by
 constructor
 · intro a b
   unfold mQ;rw [h.flip a b];by_cases e:c a b=0
   · rw [e]; simp [g.flip a b]
   · rw [if_pos (by omega),if_pos e]
 · intro a b e h1 h2
   unfold mQ at h1 h2 ⊢;by_cases e1:c a b=0
   · rw [if_neg (by simpa using e1)] at h1
     by_cases e2:c b e=0
     · rw [if_neg (by simpa using e2)] at h2
       have h3:=h.le a b e (by omega) (by omega)
       have I:c a e=0:=by
        have D:=h.le e b a (by rw [h.flip]; omega) (by rw [h.flip]; omega);rw [h.flip] at D; omega
       rw [if_neg (by simpa using I)];exact g.le a b e h1 h2
     · rw [if_pos e2] at h2
       have h3:=h.lelt (a:=a) (b:=b) (d:=e) (by omega) (by omega);rw [if_pos (by omega)]; omega
   · rw [if_pos e1] at h1
     have A:c b e≤0:=by
      by_cases e2:c b e=0
      · omega
      · rw [if_pos e2] at h2; exact h2
     have h3:=h.ltle (a:=a) (b:=b) (d:=e) (by omega) A;rw [if_pos (by omega)]; omega
theorem eH.via {α β:Type} {c:β→β→Int} (h:eH c) (f:α→β):eH (fun a b=>c (f a) (f b)):=⟨fun _ _=>h.flip _ _,fun _ _ _=>h.le _ _ _⟩
theorem eH.none {α:Type}:eH (fun _ _:α=>(0:Int)):=⟨fun _ _=>rfl,fun _ _ _ _ _=>Int.le_refl _⟩
theorem eH.eq {α:Type} {c d:α→α→Int} (h:eH c) (e : ∀ a b,d a b=c a b):eH d:=by
 have:d=c:=funext fun a=>funext fun b=>e a b
 rw [this]; exact h
theorem r9:eH fd:=by
 constructor
 · intro a b
   unfold fd;by_cases h1:a<b <;> by_cases h2:b<a <;> simp [h1,h2] <;> omega
 · intro a b d h1 h2
   unfold fd at *;split at h1 <;> split at h2 <;> split <;> (try split at h1) <;> (try split at h2) <;> (try split) <;> omega
theorem oH:eH Lib.compareBytes:=by
 refine ⟨fun a b=>qq a b,fun a b d h1 h2=>?_⟩
 rcases gf a b with e1 | e1 | e1
 · rcases gf b d with e2 | e2 | e2
   · rw [oE e1 e2]; omega
   · rw [← jW e2]; omega
   · omega
 · rw [jW e1]; exact h2
 · omega
def Ar (p:aM):Int:=if 7<aO p then p.text.length else 0
def zW (p:aM):Bs:=if 7≤aO p then p.text else []
theorem zc (p q:aM):fm p q=mQ (fun a b=>fd (aO a) (aO b)) (mQ (fun a b=>fd (Ar a) (Ar b)) (fun a b=>Lib.compareBytes (zW a) (zW b))) p q:=by
 unfold fm mQ;by_cases h:fd (aO p) (aO q)≠0
 · rw [if_pos h,if_pos h]
 · rw [if_neg h,if_neg h]
   have he:aO p=aO q:=by
    have h':fd (aO p) (aO q)=0:=by simpa using h
    unfold fd at h';split at h'
    · omega
    · split at h' <;> omega
   simp only [];unfold Ar zW;rw [← he];by_cases D:aO p=7
   · rw [if_pos D,D]; simp [fd]
   · rw [if_neg D]
     by_cases I:7<aO p
     · have A:7≤aO p:=by omega
       simp only [if_pos I,if_pos A]
     · have A : ¬ 7≤aO p:=by omega
       simp only [if_neg I,if_neg A];simp [fd,ip]
theorem qp:eH fm:=eH.eq ((r9.via fun a:aM=>(aO a:Int)).lex ((r9.via Ar).lex (oH.via zW))) zc
theorem xi (p:aM):fm p p=0:=by have:=qp.flip p p; omega
theorem iH : ∀ n i,eH (fun l m=>cR l m n i)
 | 0,_=>eH.none
 | n+1,i=>eH.eq ((qp.via fun l:List aM=>gS l i).lex (iH n (i+1))) fun _ _=>rfl
theorem ni {l:List aM} {i:Nat} (h:l.length≤i):gS l i=lu:=by unfold gS; rw [List.getElem?_eq_none h]; rfl
theorem mG {l m:List aM} : ∀ n i,l.length≤i→m.length≤i→cR l m n i=0
 | 0,_,_,_=>rfl
 | n+1,i,h1,h2=>by
  unfold cR;rw [ni h1,ni h2,xi];simp
  exact mG n (i+1) (by omega) (by omega)
theorem lK {l m:List aM} : ∀ n k i,l.length≤i+n→m.length≤i+n→cR l m (n+k) i=cR l m n i
 | 0,k,i,h1,h2=>by rw [mG _ i (by omega) (by omega)]; rfl
 | n+1,k,i,h1,h2=>by
  rw [show n+1+k=(n+k)+1 by omega];unfold cR;rw [lK n k (i+1) (by omega) (by omega)]
theorem jD {a b:Bs} {N:Nat} (h1:(aL a).length≤N) (h2:(aL b).length≤N):bC a b=cR (aL a) (aL b) N 0:=by
 unfold bC;obtain ⟨k,rfl⟩ : ∃ k,N=max (aL a).length (aL b).length+k:=⟨N - max (aL a).length (aL b).length,by omega⟩;rw [lK _ k 0 (by omega) (by omega)]
theorem pf:eH bC:=by
 constructor
 · intro a b
   rw [jD (N:=max (aL a).length (aL b).length) (by omega) (by omega),jD (N:=max (aL a).length (aL b).length) (by omega) (by omega)];exact (iH _ _).flip _ _
 · intro a b d
   have e : ∀ x y,(x=a∨x=b∨x=d)→(y=a∨y=b∨y=d)→bC x y=cR (aL x) (aL y) ((aL a).length+(aL b).length+(aL d).length) 0:=fun x y hx hy=>jD (by rcases hx with rfl | rfl | rfl <;> omega) (by rcases hy with rfl | rfl | rfl <;> omega);rw [e a b (by simp) (by simp),e b d (by simp) (by simp),e a d (by simp) (by simp)];exact (iH _ _).le _ _ _
def lJ (a b:S):Int:=bC a.data.toList b.data.toList
def lW (a b:S):Bool:=decide (lJ a b<0)
theorem eH.weak {α:Type} {c:α→α→Int} (h:eH c):eG (fun a b=>decide (c a b<0)):=by
 constructor
 · intro a
   have:=h.flip a a
   simp; omega
 · intro a b h1
   have:=h.flip a b
   simp at h1 ⊢; omega
 · intro a b d h1
   simp at h1 ⊢;by_cases h2:c a b<0
   · exact .inl h2
   · right
     have h3:c b a≤0:=by rw [h.flip]; omega
     exact h.lelt h3 h1
theorem oD:eH lJ:=pf.via _
theorem wF:eG lW:=oD.weak
structure aF (K:Type) where
 key:K
 val:Value
 born:Nat
def aF.ent {K:Type} (kc:K→Value) (e:aF K):MapEntry:={ key:=kc e.key,val:=e.val,born:=e.born }
def de {K:Type} (kc:K→Value) (w:World) (m:Nat) (L:List (aF K)) (c:Nat):Prop:=w.heap[m]? = some (.map (L.map (aF.ent kc)).toArray c)
structure uF {K:Type} [DecidableEq K] (P:Program) (tk:TypeId) (kc:K→Value):Prop where
 str : ∃ fs,P.underlying tk=some (.struct fs)
 eq : ∀ (a b:K) (w:World),(Op.equal tk (kc a) (kc b)).run P w = .ok (decide (a=b)) w
 chk : ∀ (b:Bool) (k:K) (w:World),(Instr.checkKey b 10000 tk (kc k)).run P w = .ok () w
def fk {K:Type} [DecidableEq K] (L:List (aF K)) (k:K):Option Nat:=L.findIdx? (fun e=>decide (k=e.key))
def eQ {K:Type} [DecidableEq K] (L:List (aF K)) (k:K):Option Value:=(L.find? (fun e=>decide (k=e.key))).map (·.val)
theorem yC {K:Type} [DecidableEq K] (L:List (aF K)) (k:K):((fk L k).bind fun j=>(L[j]?).map fun e=>e.val)=eQ L k:=by
 unfold fk eQ;induction L with
 | nil=>rfl
 | cons e L A =>
  rw [List.findIdx?_cons,List.find?_cons];cases decide (k=e.key) with
  | true=>simp
  | false =>
   rw [← A];cases L.findIdx? (fun e=>decide (k=e.key)) <;> simp
theorem pP {K:Type} [DecidableEq K] {L:List (aF K)} {k:K}:fk L k=none↔eQ L k=none:=by
 unfold fk eQ;rw [Option.map_eq_none_iff,List.findIdx?_eq_none_iff,List.find?_eq_none];simp
theorem iU {K:Type} [DecidableEq K] {P:Program} {tk:TypeId} {kc:K→Value} (hk:uF P tk kc) (k:K) (w:World) : ∀ (L:List (aF K)) (i:Nat),(Instr.findAsking tk (kc k) (L.map (aF.ent kc)) i).run P w =
    .ok ((fk L k).bind fun j=>(L[j]?).map fun e=>(i+j,e.val)) w
 | [],i=>by simp [Instr.findAsking,fk]
 | e::L,i=>by
  simp only [List.map_cons,Instr.findAsking,Sem.run_bind,aF.ent,hk.eq,Result.andThen_ok,fk,List.findIdx?_cons];by_cases h:k=e.key
  · simp [h]
  · simp only [h,decide_false,Bool.false_eq_true,if_false]
    have A:=iU hk k w L (i+1);unfold fk at A;rw [A];congr 1
    cases L.findIdx? (fun e=>decide (k=e.key)) <;> simp [Nat.add_assoc,Nat.add_comm 1]
theorem iw {K:Type} [DecidableEq K] {P:Program} {tk:TypeId} {kc:K→Value} (hk:uF P tk kc) (k:K) (w:World) (L:List (aF K)):(Instr.findKey tk (kc k) (L.map (aF.ent kc))).run P w =
    .ok ((fk L k).bind fun j=>(L[j]?).map fun e=>(j,e.val)) w:=by
 obtain ⟨fs,A⟩:=hk.str;simp only [Instr.findKey,Sem.run_bind,run_underlying A,Result.andThen_ok];cases L with
 | nil=>simp [Instr.findNow,fk]
 | cons e L =>
  have h:=iU hk k w (e::L) 0;simp only [Nat.zero_add] at h;simp only [List.map_cons,Instr.findNow,aF.ent,Instr.sameNow] at h ⊢;exact h
theorem mt {K:Type} [DecidableEq K] {P:Program} {tk D A:TypeId} {kc:K→Value} (hk:uF P tk kc) (J:P.underlying A=some (.map tk D)) {z:Value} (hz : ∀ w,(zeroValue D).run P w = .ok z w) {w:World} {m:Nat} {L:List (aF K)} {c:Nat} (k:K) (h:de kc w m L c) :
    (Instr.lookup A (.map (some m)) (kc k) false).run P w = .ok ((eQ L k).getD z) w:=by
 simp only [Instr.lookup,Sem.run_bind,run_underlying J,Result.andThen_ok];have O:(getObj m).run P w = .ok (.map (L.map (aF.ent kc)).toArray c) w:=by simp [getObj,Sem.run,show w.heap[m]? = _ from h]
 simp only [O,Sem.run_bind,Result.andThen_ok,Sem.run_pure,hk.chk,iw hk];rw [← yC];cases I:fk L k with
 | none=>simp [hz]
 | some j =>
  have hlt:j<L.length:=by
   unfold fk at I;have:=List.findIdx?_eq_some_iff_findIdx_eq.1 I; omega
  simp [hlt]
def fG {K:Type} (kc:K→Value) (w:World) (m:Nat) (L:List (aF K)) (c:Nat):World:={ w with heap:=w.heap.setIfInBounds m (.map (L.map (aF.ent kc)).toArray c) }
theorem mP {K:Type} [DecidableEq K] {P:Program} {tk I D:TypeId} {kc:K→Value} (hk:uF P tk kc) (J:P.underlying D=some (.map tk I)) {w:World} {m:Nat} {L:List (aF K)} {c:Nat} (k:K) (v:Value) (h:de kc w m L c) (hn:fk L k=none) :
    (Instr.mapUpdate D (.map (some m)) (kc k) v).run P w = .ok () (fG kc w m (L ++ [⟨k,v,c⟩]) (c+1)):=by
 simp only [Instr.mapUpdate,Sem.run_bind,run_underlying J,Result.andThen_ok];have O:(getObj m).run P w = .ok (.map (L.map (aF.ent kc)).toArray c) w:=by simp [getObj,Sem.run,show w.heap[m]? = _ from h]
 have A : ∀ o,(setObj m o).run P w = .ok () { w with heap:=w.heap.setIfInBounds m o }:=fun o=>by simp [setObj,Sem.run,show w.heap[m]? = _ from h]
 simp only [O,Sem.run_bind,Result.andThen_ok,hk.chk,iw hk,hn];simp [A,fG,aF.ent]
theorem de.lt {K:Type} {kc:K→Value} {w:World} {m:Nat} {L:List (aF K)} {c:Nat} (h:de kc w m L c):m<w.heap.size:=(Array.getElem?_eq_some_iff.1 h).1
theorem uZ {K:Type} {kc:K→Value} {w:World} {m:Nat} {L D:List (aF K)} {c A:Nat} (h:de kc w m L c):de kc (fG kc w m D A) m D A:=by
 have:=h.lt
 simp [de,fG,this]
theorem fW {K:Type} {kc:K→Value} (w:World) (m:Nat) (L:List (aF K)) (c:Nat):w.grownBy (fG kc w m L c) (some m) :=
 ⟨rfl,rfl,rfl,by simp [fG],fun k _ A=>by
  have:m≠k:=fun e=>A (by rw [e])
  simp [fG,this]⟩
theorem de.grown {K:Type} {kc:K→Value} {w w':World} {m:Nat} {L:List (aF K)} {c:Nat} {row:Option Nat} (h:de kc w m L c) (D:w.grownBy w' row) (A:some m≠row):de kc w' m L c:=(D.block m h.lt A).trans h
theorem de.below {K:Type} {kc:K→Value} {w w':World} {m:Nat} {L:List (aF K)} {c B:Nat} (h:de kc w m L c) (A:Below B w w') (hm:m<B):de kc w' m L c:=(A.block m hm).trans h
def dV {K:Type} [DecidableEq K] (L:List (aF K)) (k:K) (v:Value) (c:Nat):List (aF K):=match fk L k with
 | some j=>L.modify j fun e=>{ e with val:=v }
 | none=>L ++ [⟨k,v,c⟩]
def fl {K:Type} [DecidableEq K] (L:List (aF K)) (k:K) (c:Nat):Nat:=if (fk L k).isSome then c else c+1
theorem wD {K:Type} [DecidableEq K] {L:List (aF K)} {k:K} {j:Nat} (h:fk L k=some j) : ∃ D:j<L.length,L[j].key=k:=by
 obtain ⟨D,A,-⟩:=List.findIdx?_eq_some_iff_getElem.1 h;exact ⟨D,by simpa using (of_decide_eq_true A).symm⟩
theorem mr {K:Type} [DecidableEq K] {P:Program} {tk te I:TypeId} {kc:K→Value} (hk:uF P tk kc) (hs : ∀ k,Instr.sameBits 10000 (kc k) (kc k)=true) (J:P.underlying I=some (.map tk te)) {w:World} {m:Nat} {L:List (aF K)} {c:Nat} (k:K) (v:Value) (h:de kc w m L c) :
    (Instr.mapUpdate I (.map (some m)) (kc k) v).run P w = .ok () (fG kc w m (dV L k v c) (fl L k c)):=by
 cases hn:fk L k with
 | none =>
  have e1:dV L k v c=L ++ [⟨k,v,c⟩]:=by simp [dV,hn]
  have e2:fl L k c=c+1:=by simp [fl,hn]
  rw [e1,e2];exact mP hk J k v h hn
 | some j =>
  obtain ⟨U,A⟩:=wD hn;have e1:dV L k v c=L.modify j fun e=>{ e with val:=v }:=by simp [dV,hn]
  have e2:fl L k c=c:=by simp [fl,hn]
  rw [e1,e2];simp only [Instr.mapUpdate,Sem.run_bind,run_underlying J,Result.andThen_ok];have hg:(getObj m).run P w = .ok (.map (L.map (aF.ent kc)).toArray c) w:=by simp [getObj,Sem.run,show w.heap[m]? = _ from h]
  have D : ∀ o,(setObj m o).run P w = .ok () { w with heap:=w.heap.setIfInBounds m o }:=fun o=>by simp [setObj,Sem.run,show w.heap[m]? = _ from h]
  simp only [hg,Sem.run_bind,Result.andThen_ok,hk.chk,iw hk,hn]
  have O:Instr.keyThatStays (kc L[j].key) (kc k)=(pure (kc k):Sem Value):=by
   unfold Instr.keyThatStays;rw [A,if_pos (hs k)]
  have hl:((L.map (aF.ent kc)).modify j fun e=>{ key:=kc k,val:=v,born:=e.born })=(L.modify j fun e=>{ e with val:=v }).map (aF.ent kc):=by
   apply List.ext_getElem?
   intro i;simp only [List.getElem?_modify,List.getElem?_map];by_cases Z:j=i
   · subst Z
     simp [U,aF.ent,A]
   · simp [Z]
  simp [U,aF.ent,O,D,fG]
  congr 2
  simpa [aF.ent] using hl
theorem eB {K:Type} [DecidableEq K] (e:aF K) (L:List (aF K)) (k:K):eQ (e::L) k=if k=e.key then some e.val else eQ L k:=by
 unfold eQ;rw [List.find?_cons];by_cases h:k=e.key <;> simp [h]
theorem sw {K:Type} [DecidableEq K] (L M:List (aF K)) (k:K):eQ (L ++ M) k=(eQ L k).or (eQ M k):=by
 induction L with
 | nil=>simp [eQ]
 | cons e L A =>
  rw [List.cons_append,eB,eB,A];split <;> simp
theorem wE {K:Type} [DecidableEq K] (e:aF K) (L:List (aF K)) (k:K):fk (e::L) k=if k=e.key then some 0 else (fk L k).map (· + 1):=by
 unfold fk;rw [List.findIdx?_cons];by_cases h:k=e.key <;> simp [h]
theorem nX {K:Type} [DecidableEq K] (L:List (aF K)) (k:K) (v:Value) (c:Nat) (A:K):eQ (dV L k v c) A=if A=k then some v else eQ L A:=by
 cases hn:fk L k with
 | none =>
  have e1:dV L k v c=L ++ [⟨k,v,c⟩]:=by simp [dV,hn]
  have J:=pP.1 hn;rw [e1,sw,eB];by_cases h:A=k
  · subst h; simp [J]
  · simp [h,eQ]
 | some j =>
  have e1:dV L k v c=L.modify j fun e=>{ e with val:=v }:=by simp [dV,hn]
  rw [e1];clear e1;induction L generalizing j with
  | nil=>simp [fk] at hn
  | cons e L D =>
   rw [wE] at hn;by_cases h:k=e.key
   · rw [if_pos h] at hn
     cases hn
     rw [List.modify_cons,if_pos rfl,eB,eB];simp only [← h];by_cases h2:A=k <;> simp [h2]
   · rw [if_neg h] at hn
     obtain ⟨i,I,rfl⟩:=Option.map_eq_some_iff.1 hn;rw [List.modify_cons,if_neg (by omega),eB,eB,Nat.add_sub_cancel,D i I];by_cases h2:A=e.key
     · have : ¬ A=k:=fun e3=>h (e3.symm.trans h2)
       simp [h2,show ¬ e.key=k from fun e3=>h e3.symm]
     · simp [h2]
structure aV (F:Nat→Prop) (w w':World):Prop where
 os:w'.os=w.os
 tape:w'.tape=w.tape
 output:w'.output=w.output
 size:w.heap.size≤w'.heap.size
 block : ∀ k,k<w.heap.size → ¬ F k→w'.heap[k]? = w.heap[k]?
theorem aV.refl (F:Nat→Prop) (w:World):aV F w w:=⟨rfl,rfl,rfl,Nat.le_refl _,fun _ _ _=>rfl⟩
theorem aV.trans {F G:Nat→Prop} {a b c:World} (h:aV F a b) (k:aV G b c) (I : ∀ k,k<a.heap.size→G k→F k):aV F a c :=
 ⟨k.os.trans h.os,k.tape.trans h.tape,k.output.trans h.output,Nat.le_trans h.size k.size,fun i A D=>(k.block i (Nat.lt_of_lt_of_le A h.size) (fun h=>D (I i A h))).trans (h.block i A D)⟩
theorem aV.of {F:Nat→Prop} {w w':World} (h:Below w.heap.size w w'):aV F w w':=⟨h.os,h.tape,h.output,h.size,fun k hk _=>h.block k hk⟩
theorem aV.grown {F:Nat→Prop} {w w':World} {row:Option Nat} (h:w.grownBy w' row) (A : ∀ k,row=some k→F k):aV F w w' :=
 ⟨h.os,h.tape,h.output,h.size,fun k hk D=>h.block k hk fun e=>D (A k e.symm)⟩
theorem aV.below {F:Nat→Prop} {B:Nat} {w w':World} (h:aV F w w') (hB:B≤w.heap.size) (A : ∀ k,F k→B≤k):Below B w w' :=
 ⟨h.os,h.tape,h.output,h.size,fun k hk=>h.block k (by omega) fun e=>by have:=A k e; omega⟩
theorem aV.mono {F G:Nat→Prop} {w w':World} (h:aV F w w') (D : ∀ k,k<w.heap.size→F k→G k):aV G w w':=⟨h.os,h.tape,h.output,h.size,fun k hk A=>h.block k hk fun e=>A (D k hk e)⟩
theorem ak.only {F:Nat→Prop} {w w':World} {b:Nat} {cs:List Value} (h:ak w b cs) (ho:aV F w w') (A : ¬ F b):ak w' b cs :=
 ⟨Nat.lt_of_lt_of_le h.lt ho.size,fun j u D=>(World.cell?_of_block (by exact ho.block b h.lt A)).trans (h.cell j u D),fun j=>(World.frozen?_of_block (by exact ho.block b h.lt A)).trans (h.free j)⟩
theorem de.only {K:Type} {kc:K→Value} {F:Nat→Prop} {w w':World} {m:Nat} {L:List (aF K)} {c:Nat} (h:de kc w m L c) (ho:aV F w w') (A : ¬ F m):de kc w' m L c:=(ho.block m h.lt A).trans h
theorem aj.only {α:Type} {F:Nat→Prop} {base:Nat} {E:TypeId} {n:Nat} {C:α→List Value} {w w':World} {v:Value} {l:List α} (h:aj base E n C w v l) (ho:aV F w w') (J : ∀ k,v.ownBlock=some k → ¬ F k):aj base E n C w' v l:=by
 have hlt:=h.lt;obtain ⟨h1,h2⟩:=h;refine ⟨h1,?_⟩
 rcases h2 with h2 | ⟨g,cap,A,rfl,D,I,h3⟩
 · exact .inl h2
 · exact .inr ⟨g,cap,A,rfl,D,(ho.block g (hlt g rfl).2 (J g rfl)).trans I,h3⟩
structure mT {K:Type} (L:List (aF K)) (c:Nat):Prop where
 keys:(L.map (·.key)).Nodup
 each:(L.map (·.born)).Nodup
 lt : ∀ e ∈ L,e.born<c
theorem mT.nil {K:Type} (c:Nat):mT ([]:List (aF K)) c:=⟨by simp,by simp,fun e h=>by cases h⟩
theorem mT.put {K:Type} [DecidableEq K] {L:List (aF K)} {c:Nat} (h:mT L c) (k:K) (v:Value):mT (dV L k v c) (fl L k c):=by
 cases hn:fk L k with
 | none =>
  have e1:dV L k v c=L ++ [⟨k,v,c⟩]:=by simp [dV,hn]
  have e2:fl L k c=c+1:=by simp [fl,hn]
  have A : ∀ e ∈ L,k≠e.key:=fun e he=>by
   have h1:=List.findIdx?_eq_none_iff.1 hn e he;simpa using h1
  rw [e1,e2];refine ⟨?_,?_,fun e he=>?_⟩
  · rw [List.map_append,List.nodup_append]
    refine ⟨h.keys,by simp,fun x hx y hy=>?_⟩
    obtain ⟨e,he,rfl⟩:=List.mem_map.1 hx;simp at hy; subst hy;exact (A e he).symm
  · rw [List.map_append,List.nodup_append]
    refine ⟨h.each,by simp,fun x hx y hy=>?_⟩
    obtain ⟨e,he,rfl⟩:=List.mem_map.1 hx;simp at hy; subst hy;have:=h.lt e he
    omega
  · rcases List.mem_append.1 he with he | he
    · have:=h.lt e he; omega
    · obtain rfl:=List.mem_singleton.1 he
      exact Nat.lt_succ_self _
 | some j =>
  have e1:dV L k v c=L.modify j fun e=>{ e with val:=v }:=by simp [dV,hn]
  have e2:fl L k c=c:=by simp [fl,hn]
  have hm : ∀ {β:Type} (f:aF K→β),(∀ e:aF K,f { e with val:=v }=f e)→(L.modify j fun e=>{ e with val:=v }).map f=L.map f:=fun f hf=>by
   apply List.ext_getElem?
   intro i;rw [List.getElem?_map,List.getElem?_map,List.getElem?_modify];cases L[i]? with
   | none=>rfl
   | some e=>by_cases I:j=i <;> simp [I,hf]
  rw [e1,e2];refine ⟨by rw [hm _ fun _=>rfl]; exact h.keys,by rw [hm _ fun _=>rfl]; exact h.each,fun e he=>?_⟩
  have h1:e.born ∈ (L.modify j fun e=>{ e with val:=v }).map (·.born):=List.mem_map.2 ⟨e,he,rfl⟩;rw [hm _ fun _=>rfl] at h1;obtain ⟨e0,D,h2⟩:=List.mem_map.1 h1;have:=h.lt e0 D
  omega
theorem yB {K:Type} [DecidableEq K] (L:List (aF K)) (k:K) (v:Value) (c:Nat):(dV L k v c).length≤L.length+1:=by
 unfold dV;cases fk L k with
 | none=>simp
 | some j=>simp
def qH (d:Bs):Int :=
 if d=[99,111,109,112,105,108,101] then 1 else if d=[114,117,110,116,105,109,101] then 2 else if d=[112,114,111,118,105,100,101,100] then 3
 else if d=[115,121,115,116,101,109] then 4 else if d=[116,101,115,116] then 5 else 0
theorem pE (s:S) (w:World) (A:s.size≤9223372036854775807):Calls Tryz.prog 64 #[.string s] w fun e w'=>e = .returned (.bool (isIdB s))∧Below w.heap.size w w' :=
 (sb s w A).mono fun _ _ ⟨h1,h2⟩=>⟨h1,h2 ▸ Below.refl _ _⟩
theorem ye (s:S) (w:World) (A:s.size≤9223372036854775807):Calls Tryz.prog 65 #[.string s] w fun e w'=>e = .returned (.bool (iu s))∧Below w.heap.size w w' :=
 (tL s w A).mono fun _ _ ⟨h1,h2⟩=>⟨h1,h2 ▸ Below.refl _ _⟩
def vf (g:bp):Prop:=g.group.size≤9223372036854775807∧g.artifact.size≤9223372036854775807∧g.version.size≤9223372036854775807
theorem t8 (g:bp) (w:World) (h:vf g) :
    Calls Tryz.prog 41 #[.agg #[.string g.group,.string g.artifact,.string g.version]] w fun e w'=>e = .returned (.bool (dI g))∧Below w.heap.size w w':=by
 have HH:=zH h;clear h;go_enter Tryz.func41,Tryz.ntmps41
 go_wp2_with fail
 refine Calls.world ?_
 intro W hW;have x0:ak W w.heap.size [.string g.group,.string g.artifact,.string g.version]:=by rw [hW]; exact ak.new w _ _ _ rfl
 have ad:Below w.heap.size w W:=by rw [hW]; exact (Below.refl _ _).alloc (Nat.le_refl _) _
 have X:=zH x0;have A:=zH ad;clear hW x0 ad;refine (lB g.group _ HH.out.1).mono ?_
 rintro e w0 ⟨rfl,J⟩;have O:=zH (X.out.below J X.out.lt);have I:=zH (A.out.trans (J.mono A.out.size));clear J X A;have X:=O;have A:=I;clear O I;cases D:isIdB g.group
 · have U:=zH D
   clear D;obtain ⟨c0,c1,c2⟩:=ej X.out;have Z:=X.out.lt;go_wp2
   go_ret
   exact ⟨aD (by have z:=True.intro; unfold dI; rw [U.out] <;> (first | done | (simp; done) | (simp; omega) | omega)),A.out⟩
 have U:=zH D;clear D;obtain ⟨c0,c1,c2⟩:=ej X.out;have Z:=X.out.lt;go_wp2_with fail
 refine (lB g.artifact _ HH.out.2.1).mono ?_
 rintro e w1 ⟨rfl,J⟩;have O:=zH (X.out.below J X.out.lt);have I:=zH (A.out.trans (J.mono A.out.size));clear J X A;clear c0 c1 c2 Z;have X:=O;have A:=I;clear O I;cases D:isIdB g.artifact
 · have aa:=zH D
   clear D;obtain ⟨c0,c1,c2⟩:=ej X.out;have Z:=X.out.lt;go_wp2
   go_ret
   exact ⟨aD (by have z:=True.intro; unfold dI; rw [U.out,aa.out] <;> (first | done | (simp; done) | (simp; omega) | omega)),A.out⟩
 have aa:=zH D;clear D;obtain ⟨c0,c1,c2⟩:=ej X.out;have Z:=X.out.lt;go_wp2_with fail
 refine (uL g.version _ HH.out.2.2).mono ?_
 rintro e w2 ⟨rfl,J⟩;have O:=zH (X.out.below J X.out.lt);have I:=zH (A.out.trans (J.mono A.out.size));clear J X A;clear c0 c1 c2 Z;have X:=O;have A:=I;clear O I;cases D:iu g.version
 · have ac:=zH D
   clear D;obtain ⟨c0,c1,c2⟩:=ej X.out;have Z:=X.out.lt;go_wp2
   go_ret
   exact ⟨aD (by have z:=True.intro; unfold dI; rw [U.out,aa.out,ac.out] <;> (first | done | (simp; done) | (simp; omega) | omega)),A.out⟩
 have ac:=zH D;clear D;obtain ⟨c0,c1,c2⟩:=ej X.out;have Z:=X.out.lt;go_wp2
 go_ret
 exact ⟨aD (by have z:=True.intro; unfold dI; rw [U.out,aa.out,ac.out] <;> (first | done | (simp; done) | (simp; omega) | omega)),A.out⟩
theorem zJ (g:bp) (w:World) (h:vf g) :
    Calls Tryz.prog 43 #[.agg #[.string g.group,.string g.artifact,.string g.version]] w fun e w'=>e = .returned (.bool (dI g))∧Below w.heap.size w w':=by
 have HH:=zH h;clear h;go_enter Tryz.func43,Tryz.ntmps43
 go_wp2_with fail
 refine Calls.world ?_
 intro W hW;have x0:ak W w.heap.size [.string g.group,.string g.artifact,.string g.version]:=by rw [hW]; exact ak.new w _ _ _ rfl
 have ad:Below w.heap.size w W:=by rw [hW]; exact (Below.refl _ _).alloc (Nat.le_refl _) _
 have X:=zH x0;have A:=zH ad;clear hW x0 ad;refine (pE g.group _ HH.out.1).mono ?_
 rintro e w0 ⟨rfl,J⟩;have O:=zH (X.out.below J X.out.lt);have I:=zH (A.out.trans (J.mono A.out.size));clear J X A;have X:=O;have A:=I;clear O I;cases D:isIdB g.group
 · have U:=zH D
   clear D;obtain ⟨c0,c1,c2⟩:=ej X.out;have Z:=X.out.lt;go_wp2
   go_ret
   exact ⟨aD (by have z:=True.intro; unfold dI; rw [U.out] <;> (first | done | (simp; done) | (simp; omega) | omega)),A.out⟩
 have U:=zH D;clear D;obtain ⟨c0,c1,c2⟩:=ej X.out;have Z:=X.out.lt;go_wp2_with fail
 refine (pE g.artifact _ HH.out.2.1).mono ?_
 rintro e w1 ⟨rfl,J⟩;have O:=zH (X.out.below J X.out.lt);have I:=zH (A.out.trans (J.mono A.out.size));clear J X A;clear c0 c1 c2 Z;have X:=O;have A:=I;clear O I;cases D:isIdB g.artifact
 · have aa:=zH D
   clear D;obtain ⟨c0,c1,c2⟩:=ej X.out;have Z:=X.out.lt;go_wp2
   go_ret
   exact ⟨aD (by have z:=True.intro; unfold dI; rw [U.out,aa.out] <;> (first | done | (simp; done) | (simp; omega) | omega)),A.out⟩
 have aa:=zH D;clear D;obtain ⟨c0,c1,c2⟩:=ej X.out;have Z:=X.out.lt;go_wp2_with fail
 refine (ye g.version _ HH.out.2.2).mono ?_
 rintro e w2 ⟨rfl,J⟩;have O:=zH (X.out.below J X.out.lt);have I:=zH (A.out.trans (J.mono A.out.size));clear J X A;clear c0 c1 c2 Z;have X:=O;have A:=I;clear O I;cases D:iu g.version
 · have ac:=zH D
   clear D;obtain ⟨c0,c1,c2⟩:=ej X.out;have Z:=X.out.lt;go_wp2
   go_ret
   exact ⟨aD (by have z:=True.intro; unfold dI; rw [U.out,aa.out,ac.out] <;> (first | done | (simp; done) | (simp; omega) | omega)),A.out⟩
 have ac:=zH D;clear D;obtain ⟨c0,c1,c2⟩:=ej X.out;have Z:=X.out.lt;go_wp2
 go_ret
 exact ⟨aD (by have z:=True.intro; unfold dI; rw [U.out,aa.out,ac.out] <;> (first | done | (simp; done) | (simp; omega) | omega)),A.out⟩
theorem sI:(Tryz.prog.info? 9).map (fun i=>(i.zero,i.size,i.bytes))=some (some (.string ⟨#[]⟩),1,16):=by kernel_rfl
theorem xT (s:S):(gq s).length=1:=rfl
def dZ (n:Int):Bs :=
 if n=1 then [99,111,109,112,105,108,101] else if n=2 then [114,117,110,116,105,109,101] else if n=3 then [112,114,111,118,105,100,101,100] else if n=4 then [115,121,115,116,101,109]
 else if n=5 then [116,101,115,116] else if n=6 then [105,109,112,111,114,116] else []
theorem gV (n:Int) (w:World):Calls Tryz.prog 204 #[.int .i64 n] w fun e w'=>e = .returned (.string (bs (dZ n)))∧w=w':=by
 go_enter Tryz.func204,Tryz.ntmps204
 by_cases h1:n=1
 · subst h1
   go_wp2
   go_ret
   exact ⟨rfl,rfl⟩
 by_cases h2:n=2
 · subst h2
   go_wp2
   go_ret
   exact ⟨rfl,rfl⟩
 by_cases h3:n=3
 · subst h3
   go_wp2
   go_ret
   exact ⟨rfl,rfl⟩
 by_cases I:n=4
 · subst I
   go_wp2
   go_ret
   exact ⟨rfl,rfl⟩
 by_cases D:n=5
 · subst D
   go_wp2
   go_ret
   exact ⟨rfl,rfl⟩
 by_cases A:n=6
 · subst A
   go_wp2
   go_ret
   exact ⟨rfl,rfl⟩
 have J:Hid (dZ n=[]):=by show _=_; unfold dZ; rw [if_neg h1,if_neg h2,if_neg h3,if_neg I,if_neg D,if_neg A]
 go_wp2
 go_ret
 exact ⟨by rw [J.out]; rfl,rfl⟩
def bZ (d:Bs):Int:=if qH d≠0 then qH d else if d=[105,109,112,111,114,116] then 6 else 0
theorem fp (a b:Bs):((bs a).toList == (bs b).toList)=decide (a=b):=Bl a b
theorem pB (d:Bs) (w:World):Calls Tryz.prog 174 #[.string (bs d)] w fun e w'=>e = .returned (.tuple #[.int .i64 (bZ d),.bool (decide (bZ d≠0))])∧w=w':=by
 go_enter Tryz.func174,Tryz.ntmps174
 go_wp2_with fail
 go_loop [5] (fun iv=>∃ i:Nat,i≤7∧iv = .int .i64 i ∧ ∀ j:Nat,1≤j→j<i→dZ j≠d) (fun iv=>7 - (intOf iv).toNat)
 case atStart=>exact ⟨0,by omega,rfl,fun j h1 h2=>by omega⟩
 case round =>
  obtain ⟨i,hi,rfl,Z⟩:=hrel;have D:=zH Z;clear Z;rcases (by omega:i=0∨i=1∨i=2∨i=3∨i=4∨i=5∨i=6∨i=7) with rfl | rfl | rfl | rfl | rfl | rfl | rfl | rfl
  · go_wp2
    go_round
    case rel=>exact ⟨1,by omega,rfl,fun j h1 h2=>by omega⟩
    case measure=>simp [intOf]
  · have U:=zH (gV 1 w)
    go_wp2_with fail
    refine U.out.mono ?_
    rintro e w' ⟨rfl,rfl⟩;by_cases A:dZ 1=d
    · have I:Hid (bZ d=1):=by show _=_; rw [← A]; rfl
      have he:=fp (dZ 1) d;rw [decide_eq_true A] at he;clear A;go_wp2
      go_ret2
      exact ⟨by rw [I.out]; rfl,rfl⟩
    · have O:=zH A
      have he:=fp (dZ 1) d;rw [decide_eq_false A] at he;clear A;go_wp2
      go_round
      case rel=>exact ⟨2,by omega,rfl,fun j h1 h2=>by
       by_cases J:j=1
       · subst J; exact O.out
       · exact D.out j h1 (by omega)⟩
      case measure=>simp [intOf]
  · have U:=zH (gV 2 w)
    go_wp2_with fail
    refine U.out.mono ?_
    rintro e w' ⟨rfl,rfl⟩;by_cases A:dZ 2=d
    · have I:Hid (bZ d=2):=by show _=_; rw [← A]; rfl
      have he:=fp (dZ 2) d;rw [decide_eq_true A] at he;clear A;go_wp2
      go_ret2
      exact ⟨by rw [I.out]; rfl,rfl⟩
    · have O:=zH A
      have he:=fp (dZ 2) d;rw [decide_eq_false A] at he;clear A;go_wp2
      go_round
      case rel=>exact ⟨3,by omega,rfl,fun j h1 h2=>by
       by_cases J:j=2
       · subst J; exact O.out
       · exact D.out j h1 (by omega)⟩
      case measure=>simp [intOf]
  · have U:=zH (gV 3 w)
    go_wp2_with fail
    refine U.out.mono ?_
    rintro e w' ⟨rfl,rfl⟩;by_cases A:dZ 3=d
    · have I:Hid (bZ d=3):=by show _=_; rw [← A]; rfl
      have he:=fp (dZ 3) d;rw [decide_eq_true A] at he;clear A;go_wp2
      go_ret2
      exact ⟨by rw [I.out]; rfl,rfl⟩
    · have O:=zH A
      have he:=fp (dZ 3) d;rw [decide_eq_false A] at he;clear A;go_wp2
      go_round
      case rel=>exact ⟨4,by omega,rfl,fun j h1 h2=>by
       by_cases J:j=3
       · subst J; exact O.out
       · exact D.out j h1 (by omega)⟩
      case measure=>simp [intOf]
  · have U:=zH (gV 4 w)
    go_wp2_with fail
    refine U.out.mono ?_
    rintro e w' ⟨rfl,rfl⟩;by_cases A:dZ 4=d
    · have I:Hid (bZ d=4):=by show _=_; rw [← A]; rfl
      have he:=fp (dZ 4) d;rw [decide_eq_true A] at he;clear A;go_wp2
      go_ret2
      exact ⟨by rw [I.out]; rfl,rfl⟩
    · have O:=zH A
      have he:=fp (dZ 4) d;rw [decide_eq_false A] at he;clear A;go_wp2
      go_round
      case rel=>exact ⟨5,by omega,rfl,fun j h1 h2=>by
       by_cases J:j=4
       · subst J; exact O.out
       · exact D.out j h1 (by omega)⟩
      case measure=>simp [intOf]
  · have U:=zH (gV 5 w)
    go_wp2_with fail
    refine U.out.mono ?_
    rintro e w' ⟨rfl,rfl⟩;by_cases A:dZ 5=d
    · have I:Hid (bZ d=5):=by show _=_; rw [← A]; rfl
      have he:=fp (dZ 5) d;rw [decide_eq_true A] at he;clear A;go_wp2
      go_ret2
      exact ⟨by rw [I.out]; rfl,rfl⟩
    · have O:=zH A
      have he:=fp (dZ 5) d;rw [decide_eq_false A] at he;clear A;go_wp2
      go_round
      case rel=>exact ⟨6,by omega,rfl,fun j h1 h2=>by
       by_cases J:j=5
       · subst J; exact O.out
       · exact D.out j h1 (by omega)⟩
      case measure=>simp [intOf]
  · have U:=zH (gV 6 w)
    go_wp2_with fail
    refine U.out.mono ?_
    rintro e w' ⟨rfl,rfl⟩;by_cases A:dZ 6=d
    · have I:Hid (bZ d=6):=by show _=_; rw [← A]; rfl
      have he:=fp (dZ 6) d;rw [decide_eq_true A] at he;clear A;go_wp2
      go_ret2
      exact ⟨by rw [I.out]; rfl,rfl⟩
    · have O:=zH A
      have he:=fp (dZ 6) d;rw [decide_eq_false A] at he;clear A;go_wp2
      go_round
      case rel=>exact ⟨7,by omega,rfl,fun j h1 h2=>by
       by_cases J:j=6
       · subst J; exact O.out
       · exact D.out j h1 (by omega)⟩
      case measure=>simp [intOf]
  · have I:Hid (bZ d=0):=by
     show _=_
     have h1:=D.out 1 (by omega) (by omega);have h2:=D.out 2 (by omega) (by omega);have h3:=D.out 3 (by omega) (by omega);have h4:=D.out 4 (by omega) (by omega);have h5:=D.out 5 (by omega) (by omega);have h6:=D.out 6 (by omega) (by omega)
     have hn:qH d=0:=by
      unfold qH;rw [if_neg (fun e=>h1 e.symm),if_neg (fun e=>h2 e.symm),if_neg (fun e=>h3 e.symm),if_neg (fun e=>h4 e.symm),if_neg (fun e=>h5 e.symm)]
     unfold bZ;rw [hn,if_neg (by simp),if_neg (fun e=>h6 e.symm)]
    go_wp2
    go_ret2
    exact ⟨by rw [I.out]; rfl,rfl⟩
abbrev Er:=Int × Bs
def nQ (n:Nat):Bs:=if n<10 then [UInt8.ofNat (48+n)] else nQ (n / 10) ++ [UInt8.ofNat (48+n % 10)]
def sl (w m:Bs):Bs:=w ++ 47::m
def mI (w:Bs) (i:Nat):Bs:=w ++ 91::(nQ i ++ [93])
def zX (w:Bs):Bs:=w ++ [91,50,93]
def uM (t:Tr) (e:Bool):Bool:=!(bV [] t.kids).isEmpty || decide (1024<(gW (cJ t.kids)).length) || ((gW (cJ t.kids)).isEmpty && !e)
def cM:Bs→Bool:=fun _=>true
def aG:Bs:=[103,114,111,117,112,73,100]
def ar:Bs:=[97,114,116,105,102,97,99,116,73,100]
def aA:Bs:=[118,101,114,115,105,111,110]
def dE:Bs:=[116,121,112,101]
def aR:Bs:=[99,108,97,115,115,105,102,105,101,114]
def cI:Bs:=[115,99,111,112,101]
def dX:Bs:=[111,112,116,105,111,110,97,108]
def aQ:Bs:=[101,120,99,108,117,115,105,111,110,115]
def db:Bs:=[101,120,99,108,117,115,105,111,110]
def aE:Bs:=[100,101,112,101,110,100,101,110,99,105,101,115]
def cx:Bs:=[100,101,112,101,110,100,101,110,99,121]
def aw:Bs:=[112,114,111,112,101,114,116,105,101,115]
def bt:Bs:=[100,101,112,101,110,100,101,110,99,121,77,97,110,97,103,101,109,101,110,116]
def cr:Bs:=[112,97,114,101,110,116]
def bk:Bs:=[112,97,99,107,97,103,105,110,103]
def aq:Bs:=[112,114,111,106,101,99,116]
def jG:Bs:=[116,114,117,101]
def gR:Bs:=[102,97,108,115,101]
def jx (s:Bs):Bool:=decide (s=jG) || decide (s=gR)
def isIdQ (s:Bs):Bool:=isIdB (bs s)
def A7 (s:Bs):Bool:=iu (bs s)
def fH (s:Bs):Bool:=decide (s=[42]) || isIdQ s
def jy (managed:Bool) (s:Bs):Bool:=decide (bZ s≠0) && (managed || decide (bZ s≠6))
def gN (s:Bs):Int:=if s=jG then 1 else if s=gR then 2 else 0
def cS (t:Tr) (w m:Bs):Option Er:=if 1<(bV m t.kids).length then some (20,zX (sl w m)) else none
def eI (t:Tr):Bs:=gW (cJ t.kids)
def fw (t:Tr) (w:Bs) (e:Bool):Option Er:=if uM t e then some (20,w) else none
def cZ (t:Tr) (m:Bs):Option Tr:=(bV m t.kids).head?
def ae (t:Tr) (m:Bs):Bs:=match cZ t m with
 | none=>[]
 | some k=>eI k
def bB (t:Tr) (w m:Bs) (A:Bool) (r:Bs→Bool):Option Er:=(cS t w m).or (match cZ t m with
 | none=>if A then some (20,sl w m) else none
 | some k=>(fw k (sl w m) false).or (if r (eI k) then none else some (20,sl w m)))
def fx (f:Tr→Bs→Option Er) (w:Bs):List Tr→Nat→Option Er
 | [],_=>none
 | t::r,i=>(f t (mI w (i+1))).or (fx f w r (i+1))
def A3 (f:Tr→Bs→Option Er) (t:Tr) (w m:Bs):Option Er:=(if 1024<(bV m t.kids).length then some (2,w) else none).or (fx f (sl w m) (bV m t.kids) 0)
def qg (t:Tr):Id:=⟨bs (ae t aG),bs (ae t ar)⟩
def qh (t:Tr) (w:Bs):Option Er:=(bB t w aG true fH).or (bB t w ar true fH)
def qY (t:Tr):List Id:=match cZ t aQ with
 | none=>[]
 | some f=>(bV db f.kids).map qg
def ot (t:Tr) (w:Bs):Option Er:=(cS t w aQ).or (match cZ t aQ with
 | none=>none
 | some f=>A3 qh f (sl w aQ) db)
def mg (t:Tr):jk:=⟨bs (ae t aG),bs (ae t ar),bs (ae t aA),bs (ae t dE),bs (ae t aR),bZ (ae t cI),gN (ae t dX),qY t⟩
def gd (managed:Bool) (t:Tr) (w:Bs):Option Er:=(bB t w aG true cM).or ((bB t w ar true cM).or ((bB t w aA false cM).or ((bB t w dE false cM).or ((bB t w aR false cM).or
 ((bB t w cI false (jy managed)).or ((bB t w dX false jx).or (ot t w)))))))
def lH (t:Tr):List jk:=match cZ t aE with
 | none=>[]
 | some f=>(bV cx f.kids).map mg
def iY (managed:Bool) (t:Tr) (w:Bs):Option Er:=(cS t w aE).or (match cZ t aE with
 | none=>none
 | some f=>A3 (gd managed) f (sl w aE) cx)
def lm (t:Tr):rB:=⟨bs t.name,bs (eI t)⟩
def dA (w:Bs):List Tr→List Tr→Option Er
 | [],_=>none
 | t::r,d=>(if d.any (fun x=>decide (x.name=t.name)) then some (20,zX (sl w t.name)) else none).or ((fw t (sl w t.name) true).or (dA w r (d ++ [t])))
def kw (t:Tr):List rB:=match cZ t aw with
 | none=>[]
 | some f=>(bV [] f.kids).map lm
def kx (t:Tr) (w:Bs):Option Er:=(cS t w aw).or (match cZ t aw with
 | none=>none
 | some f=>(if 1024<(bV [] f.kids).length then some (2,sl w aw) else none).or (dA (sl w aw) (bV [] f.kids) []))
def iA (t:Tr):Bool × bp:=match cZ t cr with
 | none=>(false,⟨⟨#[]⟩,⟨#[]⟩,⟨#[]⟩⟩)
 | some f=>(true,⟨bs (ae f aG),bs (ae f ar),bs (ae f aA)⟩)
def gx (t:Tr) (w:Bs):Option Er:=(cS t w cr).or (match cZ t cr with
 | none=>none
 | some f=>(bB f (sl w cr) aG true isIdQ).or ((bB f (sl w cr) ar true isIdQ).or (bB f (sl w cr) aA true A7)))
def ig (t:Tr):List jk:=match cZ t bt with
 | none=>[]
 | some f=>lH f
def fi (t:Tr) (w:Bs):Option Er:=(cS t w bt).or (match cZ t bt with
 | none=>none
 | some f=>iY true f (sl w bt))
def eL (t:Tr):pq:=⟨(iA t).1,(iA t).2,bs (ae t aG),bs (ae t ar),bs (ae t aA),bs (ae t bk),kw t,ig t,lH t⟩
def dz (t:Tr):Option Er:=(if t.name=aq then none else some (20,t.name)).or ((gx t aq).or ((bB t aq aG false cM).or ((bB t aq ar true cM).or ((bB t aq aA false cM).or
 ((bB t aq bk false cM).or ((kx t aq).or ((fi t aq).or (iY false t aq))))))))
def eP (x:Er):Value:=.iface 173 (.agg #[.int .i64 x.1,.string (bs x.2)])
def dS (x:Er):Ending:=.panicked [{ v:=eP x,recovered:=false }]
def dx (o:Option Er) (P:Ending→World→Prop) (w:World) (e:Ending) (w':World):Prop :=
 Below w.heap.size w w'∧(∀ x,o=some x→e=dS x)∧(o=none→P e w')
theorem dx.bad {o:Option Er} {P:Ending→World→Prop} {w w':World} {e:Ending} {x:Er} (h:o=some x) (A:Below w.heap.size w w') (he:e=dS x):dx o P w e w' :=
 ⟨A,fun y hy=>by rw [h] at hy; cases hy; exact he,fun ha=>by rw [h] at ha; cases ha⟩
theorem dx.good {o:Option Er} {P:Ending→World→Prop} {w w':World} {e:Ending} (h:o=none) (A:Below w.heap.size w w') (he:P e w'):dx o P w e w' :=
 ⟨A,fun y hy=>(by rw [h] at hy; cases hy),fun _=>he⟩
def dj (t:Tr) (av kv:Value) (A:Bs):Value:=.agg #[.string (bs t.name),av,kv,.string (bs t.text),.string (bs A)]
def gn (X:Nat→Prop) (A m:Bs):Option Tr→Ending→World→Prop
 | none,e,_=>e = .returned (.tuple #[.agg #[.string ⟨#[]⟩,.slice none 0 0,.slice none 0 0,.string ⟨#[]⟩,.string (bs (sl A m))],.bool false])
 | some k,e,w'=>∃ av kv,e = .returned (.tuple #[dj k av kv (sl A m),.bool true])∧bj X w' k av kv
def kL (A m:Bs) (o:Option Tr) (e:Ending) (w':World):Prop:=gn (fun _=>False) A m o e w'
theorem A5 {X:Nat→Prop} {B:Nat} {w wr w':World} {v:Value} {L:List iq} (h:gK X B w wr v L) (A:Below wr.heap.size wr w'):af 4 fu w' v L ∧ ∀ y ∈ L,bj (fun j=>X j∨B≤j) w' y.1 y.2.1 y.2.2 :=
 ⟨(h.own.below A).slice bY,fun y hy=>(h.nodes y hy).later A⟩
theorem tX {X:Nat→Prop} {w:World} {a:Option Addr} {n c:Nat} {L:List iq} (h:af 4 fu w (.slice a n c) L) (hn : ∀ y ∈ L,bj X w y.1 y.2.1 y.2.2) (k:Nat) (hk:k<L.length) : ∃ g o a1 a2 a3 A,a=some ⟨g,o,none⟩∧g<w.heap.size∧w.cell? ⟨g,o+k*4,none⟩=some (.string (bs L[k].1.name))∧w.cell? ⟨g,o+k*4+1,none⟩=some (.slice a1 L[k].1.attrs.length a2)∧w.cell? ⟨g,o+k*4+2,none⟩=some (.slice a3 L[k].1.kids.length A)∧w.cell? ⟨g,o+k*4+3,none⟩=some (.string (bs L[k].1.text))∧bj X w L[k].1 (.slice a1 L[k].1.attrs.length a2) (.slice a3 L[k].1.kids.length A):=by
 obtain ⟨ao,cap,e,-,-,-,D⟩:=h;simp only [Value.slice.injEq] at e;obtain ⟨rfl,-,-⟩:=e;obtain ⟨g,o,e1,e2,e3⟩:=D k L[k] (List.getElem?_eq_getElem hk);have hy:=hn L[k] (List.getElem_mem hk);obtain ⟨x1,x2,x3,x4,f1,f2,-,-⟩:=hy.shape;rw [f1,f2] at hy;exact ⟨g,o,x1,x2,x3,x4,e1,e2,by simpa using e3 0 _ rfl,by rw [← f1]; exact e3 1 _ rfl,by rw [← f2]; exact e3 2 _ rfl,e3 3 _ rfl,hy⟩
theorem bj.freshX {X:Nat→Prop} {w:World} {t:Tr} {av kv:Value} (h:bj X w t av kv):bj (fun j=>X j∨w.heap.size≤j) w t av kv:=h.keep (aK.refl _ _) (fun k h1 h2=>h2.elim id (fun h=>absurd h1 (by omega)))
theorem bj.fresh {X:Nat→Prop} {w:World} {t:Tr} {av kv:Value} (h:bj X w t av kv):bj (fun j=>w.heap.size≤j) w t av kv:=h.keep (aK.refl _ _) (fun k h1 h2=>by omega)
theorem dF (e:Int) (s:S) (w:World) :
    Calls Tryz.prog 92 #[.int .i64 e,.string s] w fun x w'=>x = .panicked [{ v:=.iface 173 (.agg #[.int .i64 e,.string s]),recovered:=false }]∧w=w':=by
 go_enter Tryz.func92,Tryz.ntmps92
 go_wp2
 exact ⟨rfl,rfl,rfl⟩
theorem xH (w m:Bs) (X M:S) (h:X ++ ⟨#[47]⟩ ++ M=bs (sl w m)):X ++ ⟨#[47]⟩ ++ M ++ ⟨#[91,50,93]⟩=bs (zX (sl w m)):=by
 rw [h]; show bs (sl w m) ++ bs [91,50,93]=_; rw [cU]; rfl
theorem nd (Z:Nat→Prop) (t:Tr) (A m:Bs) (w:World) (av kv:Value) (ht:bj Z w t av kv) (dk:t.kids.length≤100000) (hl:A.length+m.length≤1000000000000) :
    Calls Tryz.prog 93 #[dj t av kv A,.string (bs m)] w (dx (cS t A m) (gn Z A m (cZ t m)) w):=by
 obtain ⟨ao,ac,ko,kc,rfl,rfl,el,-⟩:=ht.shape;have ad:Hid (∀ x y l,bV m t.kids=x::y::l→cS t A m=some (20,zX (sl A m))):=fun x y l h=>by unfold cS; rw [h]; simp
 have aa:Hid (∀ x,bV m t.kids=[x]→cS t A m=none∧cZ t m=some x):=fun x h=>by unfold cS cZ; rw [h]; simp
 have U:Hid (bV m t.kids=[]→cS t A m=none∧cZ t m=none):=fun h=>by unfold cS cZ; rw [h]; simp
 obtain ⟨r,hr⟩ : ∃ r,r=cS t A m:=⟨_,rfl⟩;obtain ⟨o,ho⟩ : ∃ o,o=cZ t m:=⟨_,rfl⟩;rw [← hr,← ho];rw [← hr] at ad;rw [← hr,← ho] at aa U;clear hr ho;obtain ⟨X,hX⟩ : ∃ X:S,X=bs A:=⟨_,rfl⟩;obtain ⟨M,hM⟩ : ∃ M:S,M=bs m:=⟨_,rfl⟩;have HC:Hid (∀ W,Below w.heap.size w W→Calls Tryz.prog 133 #[.agg #[.string (bs t.name),.slice ao t.attrs.length ac,.slice ko t.kids.length kc,.string (bs t.text)],.string M] W fun e w'=>∃ v L,e = .returned v∧L.map (·.1)=bV m t.kids∧gK (fun j=>Z j∨w.heap.size≤j) W.heap.size W w' v L):=fun W h=>by rw [hM]; exact t9 t m W _ _ (ht.freshX.later h) dk
 have HW:Hid (X ++ ⟨#[47]⟩ ++ M=bs (sl A m)):=by show _=_; rw [hX,hM]; show bs A ++ bs [47] ++ bs m=_; rw [cU,cU,List.append_assoc]; rfl
 have c9:X.size=A.length:=by rw [hX,ax]
 have dg:M.size=m.length:=by rw [hM,ax]
 have ef : ¬ 9223372036854775807<X.size+1:=by omega
 have ed : ¬ 9223372036854775807<X.size+1+M.size:=by omega
 have d9 : ¬ 9223372036854775807<X.size+1+M.size+3:=by omega
 unfold dj;rw [← hX,← hM];clear ht hX hM c9 dg;go_enter Tryz.func93,Tryz.ntmps93
 go_upto_region 1 with fail
 refine ai fun W hW=>?_
 have x1:ak W w.heap.size [.string (bs t.name),.slice ao t.attrs.length ac,.slice ko t.kids.length kc,.string (bs t.text),.string X]:=by rw [hW]; exact (ak.new w [.string (bs t.name),.slice ao t.attrs.length ac,.slice ko t.kids.length kc,.string (bs t.text),.string X] _ _ rfl).alloc _
 have x2:ak W (w.heap.size+1) [.string ⟨#[]⟩,.slice none 0 0,.slice none 0 0,.string ⟨#[]⟩,.string ⟨#[]⟩]:=by rw [hW]; exact ak.new (w.alloc _) [.string ⟨#[]⟩,.slice none 0 0,.slice none 0 0,.string ⟨#[]⟩,.string ⟨#[]⟩] _ _ (by simp)
 have hb:Below w.heap.size w W:=by rw [hW]; exact ((Below.refl _ w).alloc (Nat.le_refl _) _).alloc (by simp) _
 clear hW;have a6:=zH x1;have bv:=zH x2;have HB:=zH hb;clear x1 x2 hb;obtain ⟨a0,a1,a2,a3,a4⟩:=gU a6.out;have al:=a6.out.lt;go_wp2_with fail
 refine (HC.out _ HB.out).mono ?_
 rintro e w1 ⟨v,L,rfl,J,ah⟩;obtain ⟨la,lc,rfl⟩:=ah.own.shape;have a5:=ah.below;have b2:=zH (HB.out.trans (a5.mono HB.out.size));have bo:=zH (a6.out.below a5 a6.out.lt);have I:=zH (bv.out.below a5 bv.out.lt);have D:=zH (A5 ah (Below.refl _ _));clear a0 a1 a2 a3 a4 al a5 ah;obtain ⟨a0,a1,a2,a3,a4⟩:=gU bo.out;have al:=bo.out.lt;obtain ⟨r0,r1,r2,r3,r4⟩:=gU I.out;have d8:=I.out.free 0;have d7:=I.out.free 1;have d6:=I.out.free 2;have d5:=I.out.free 3;have d4:=I.out.free 4;have rl:=I.out.lt;have bl:Below w.heap.size w w1:=b2.out
 have b0:Hid (∀ v0 v1 v2 v3 v4,Below w.heap.size w (((((w1.setCell ⟨w.heap.size+1,0,none⟩ v0).setCell ⟨w.heap.size+1,1,none⟩ v1).setCell ⟨w.heap.size+1,2,none⟩ v2).setCell ⟨w.heap.size+1,3,none⟩ v3).setCell ⟨w.heap.size+1,4,none⟩ v4)) :=
  fun v0 v1 v2 v3 v4=>((((bl.setCell (by simp) _).setCell (by simp) _).setCell (by simp) _).setCell (by simp) _).setCell (by simp) _
 clear bl;match L,J,D with
 | [],J,D =>
  have HF:=zH (U.out J.symm);clear J D ad aa U HC;have O:Hid ((bs (sl A m):S)=X ++ ⟨#[47]⟩ ++ M):=HW.out.symm;go_wp2
  refine bodyPost_ret (v:=.tuple #[.agg #[.string ⟨#[]⟩,.slice none 0 0,.slice none 0 0,.string ⟨#[]⟩,.string (X ++ ⟨#[47]⟩ ++ M)],.bool false]) (by simp [results,Tryz.results93,go_sem,r0,r1,r2,r3,r4]) rfl ?_
  refine dx.good HF.out.1 (b0.out _ _ _ _ _) ?_
  rw [HF.out.2];show _=_
  rw [O.out]
 | [y],J,D =>
  have HF:=zH (aa.out y.1 J.symm);obtain ⟨g,o1,p1,p2,p3,p4,rfl,hg,c0,c1,c2,c3,hn⟩:=tX D.out.1 D.out.2 0 (by simp);simp only [List.getElem_cons_zero,Nat.zero_mul,Nat.add_zero] at c0 c1 c2 c3 hn;obtain ⟨k,ya,yk⟩:=y;simp only at *;have HN:=zH hn;clear J D ad aa U HC hn;have O:Hid ((bs (sl A m):S)=X ++ ⟨#[47]⟩ ++ M):=HW.out.symm
  have d2:Hid (∀ v0 v1 v2 v3 v4,bj Z (((((w1.setCell ⟨w.heap.size+1,0,none⟩ v0).setCell ⟨w.heap.size+1,1,none⟩ v1).setCell ⟨w.heap.size+1,2,none⟩ v2).setCell ⟨w.heap.size+1,3,none⟩ v3).setCell ⟨w.heap.size+1,4,none⟩ v4) k (.slice p1 k.attrs.length p2) (.slice p3 k.kids.length p4)):=fun v0 v1 v2 v3 v4 =>
   HN.out.keep (((((aZ _ _ _ _ (by left; right; omega)).trans (aZ _ _ _ _ (by left; right; omega))).trans (aZ _ _ _ _ (by left; right; omega))).trans (aZ _ _ _ _ (by left; right; omega))).trans (aZ _ _ _ _ (by left; right; omega))) (fun _ _ h=>.inl (.inl h))
  clear HN;go_wp2
  refine bodyPost_ret (v:=.tuple #[.agg #[.string (bs k.name),.slice p1 k.attrs.length p2,.slice p3 k.kids.length p4,.string (bs k.text),.string (X ++ ⟨#[47]⟩ ++ M)],.bool true]) (by simp [results,Tryz.results93,go_sem,r0,r1,r2,r3,r4]) rfl ?_
  refine dx.good HF.out.1 (b0.out _ _ _ _ _) ?_
  rw [HF.out.2];refine ⟨_,_,?_,d2.out _ _ _ _ _⟩
  unfold dj;rw [O.out]
 | y::z::L,J,D =>
  have HF:=zH (ad.out _ _ _ J.symm);have O:Hid ((bs (zX (sl A m)):S)=X ++ ⟨#[47]⟩ ++ M ++ ⟨#[91,50,93]⟩):=(xH _ _ _ _ HW.out).symm;obtain ⟨n,hn⟩ : ∃ n:Nat,n=(y::z::L).length:=⟨_,rfl⟩;have ei:((n:Int) == 0)=false:=by rw [beq_eq_false_iff_ne]; simp at hn; omega
  have eg:((n:Int) == 1)=false:=by rw [beq_eq_false_iff_ne]; simp at hn; omega
  rw [← hn];clear J D ad aa U HC hn;go_wp2_with fail
  refine (dF _ _ _).mono ?_
  rintro e w2 ⟨rfl,rfl⟩;go_wp2
  refine ⟨rfl,dx.bad HF.out b2.out ?_⟩
  unfold dS eP;rw [O.out]
theorem l8 (t:Tr) (A m:Bs) (w:World) (av kv:Value) (I:dJ w t av kv) (D:t.kids.length≤100000) (J:A.length+m.length≤1000000000000) :
    Calls Tryz.prog 93 #[dj t av kv A,.string (bs m)] w (dx (cS t A m) (kL A m (cZ t m)) w) :=
 nd (fun _=>False) t A m w av kv I D J
theorem mC {m:Bs} {l:List Tr} {L:List iq} (h:L.map (·.1)=bV m l):((bV m l).isEmpty=false→0<L.length)∧((bV m l).isEmpty=true→L.length=0):=by
 rw [← h];cases L <;> simp
theorem py (t:Tr) (wh:Bs) (b:Bool) (w:World) (av kv:Value) (ht:dJ w t av kv) (c8:t.kids.length≤100000) (hx:(cJ t.kids).length≤1000000000) :
    Calls Tryz.prog 134 #[dj t av kv wh,.bool b] w (dx (fw t wh b) (fun e _=>e = .returned (.string (bs (eI t)))) w):=by
 obtain ⟨ao,ac,ko,kc,rfl,rfl,dr,-⟩:=ht.shape;obtain ⟨N,hN⟩ : ∃ N:Bs,N=eI t:=⟨_,rfl⟩;obtain ⟨q,hq⟩ : ∃ q:Bool,q=(bV [] t.kids).isEmpty:=⟨_,rfl⟩;have HE:Hid (fw t wh b=if !q || decide (1024<N.length) || (N.isEmpty && !b) then some (20,wh) else none):=by show _=_; rw [hq,hN]; rfl
 have HT:Hid (∀ W,Below w.heap.size w W→Calls Tryz.prog 171 #[.agg #[.string (bs t.name),.slice ao t.attrs.length ac,.slice ko t.kids.length kc,.string (bs t.text)]] W fun e w'=>e = .returned (.string (bs N))∧Below W.heap.size W w'):=fun W h=>by rw [hN]; exact xR t W _ _ (ht.later h) hx
 have HC:Hid (∀ W,Below w.heap.size w W→Calls Tryz.prog 133 #[.agg #[.string (bs t.name),.slice ao t.attrs.length ac,.slice ko t.kids.length kc,.string (bs t.text)],.string ⟨#[]⟩] W fun e w'=>∃ a n c,e = .returned (.slice a n c)∧(q=false→0<n)∧(q=true→n=0)∧Below W.heap.size W w'):=fun W h =>
  (sF t [] W _ _ (ht.later h) c8).mono fun _ _ ⟨v,L,h1,h2,h3⟩=>by
   obtain ⟨la,lc,rfl⟩:=h3.own.shape;exact ⟨la,L.length,lc,h1,fun e=>by rw [hq] at e; exact (mC h2).1 e,fun e=>by rw [hq] at e; exact (mC h2).2 e,h3.below⟩
 rw [← hN];obtain ⟨r,hr⟩ : ∃ r,r=fw t wh b:=⟨_,rfl⟩;rw [← hr] at HE ⊢;clear hr ht hN hq;have bg:(bs N:S).size=N.length:=ax _;obtain ⟨X,hX⟩ : ∃ X:S,X=bs wh:=⟨_,rfl⟩;unfold dj;rw [← hX];have bo:Hid ((bs wh:S)=X):=hX.symm;clear hX;have b8:(bs N:S).toList.isEmpty=N.isEmpty:=by rw [bH,ax]; cases N <;> simp
 have bv:=zH b8;obtain ⟨Y,hY⟩ : ∃ Y:S,Y=bs N:=⟨_,rfl⟩;rw [← hY] at HT bg bv ⊢;clear b8 hY hx;go_enter Tryz.func134,Tryz.ntmps134
 go_upto_region 1 with fail
 refine ai fun W hW=>?_
 have x1:ak W w.heap.size [.string (bs t.name),.slice ao t.attrs.length ac,.slice ko t.kids.length kc,.string (bs t.text),.string X]:=by rw [hW]; exact ak.new w [.string (bs t.name),.slice ao t.attrs.length ac,.slice ko t.kids.length kc,.string (bs t.text),.string X] _ _ rfl
 have hb:Below w.heap.size w W:=by rw [hW]; exact (Below.refl _ w).alloc (Nat.le_refl _) _
 clear hW;have a8:=zH x1;have HB:=zH hb;clear x1 hb;obtain ⟨a0,a1,a2,a3,a4⟩:=gU a8.out;have al:=a8.out.lt;go_wp2_with fail
 refine (HT.out _ HB.out).mono ?_
 rintro e w1 ⟨rfl,bl⟩;have D:=zH (HB.out.trans (bl.mono HB.out.size));have O:=zH (a8.out.below bl a8.out.lt);clear a0 a1 a2 a3 a4 al bl;obtain ⟨a0,a1,a2,a3,a4⟩:=gU O.out;have al:=O.out.lt;clear HT;obtain ⟨lg,bb⟩ : ∃ lg,lg=decide (1024<N.length):=⟨_,rfl⟩;obtain ⟨em,bc⟩ : ∃ em,em=N.isEmpty:=⟨_,rfl⟩;have hL:decide ((1024:Int)<((Y.size:Nat):Int))=lg:=by rw [bb,bg]; exact decide_eq_decide.2 (by omega)
 have hM:Y.toList.isEmpty=em:=by rw [bc]; exact bv.out
 rw [← bb,← bc] at HE;clear bb bc bv bg;cases q with
 | false =>
  have HR:Hid (r=some (20,wh)):=HE.out;clear HE hL hM;go_wp2_with fail
  refine (HC.out _ D.out).mono ?_
  rintro e w2 ⟨la,n,lc,rfl,U,J,A⟩;have hn:=U (by trivial);have dn:(0:Int)<(n:Int):=by omega
  have Z:=zH (D.out.trans (A.mono D.out.size));have I:=zH (O.out.below A O.out.lt);clear a0 a1 a2 a3 a4 al A HC U J;obtain ⟨a0,a1,a2,a3,a4⟩:=gU I.out;have al:=I.out.lt;go_wp2_with fail
  refine (dF _ _ _).mono ?_
  rintro e w3 ⟨rfl,rfl⟩;go_wp2
  refine ⟨rfl,dx.bad HR.out Z.out ?_⟩
  unfold dS eP;rw [bo.out]
 | true =>
  cases lg with
  | true =>
   have HR:Hid (r=some (20,wh)):=HE.out;clear HE hM;go_wp2_with fail
   refine (HC.out _ D.out).mono ?_
   rintro e w2 ⟨la,n,lc,rfl,U,J,A⟩;obtain rfl:=J (by trivial);have Z:=zH (D.out.trans (A.mono D.out.size));have I:=zH (O.out.below A O.out.lt);clear a0 a1 a2 a3 a4 al A HC U J;obtain ⟨a0,a1,a2,a3,a4⟩:=gU I.out;have al:=I.out.lt;go_wp2_with fail
   refine (dF _ _ _).mono ?_
   rintro e w3 ⟨rfl,rfl⟩;go_wp2
   refine ⟨rfl,dx.bad HR.out Z.out ?_⟩
   unfold dS eP;rw [bo.out]
  | false =>
   cases em with
   | false =>
    have HR:Hid (r=none):=HE.out;clear HE;go_wp2_with fail
    refine (HC.out _ D.out).mono ?_
    rintro e w2 ⟨la,n,lc,rfl,U,J,A⟩;obtain rfl:=J (by trivial);have Z:=zH (D.out.trans (A.mono D.out.size));have I:=zH (O.out.below A O.out.lt);clear a0 a1 a2 a3 a4 al A HC U J;obtain ⟨a0,a1,a2,a3,a4⟩:=gU I.out;have al:=I.out.lt;go_wp2
    go_ret
    exact dx.good HR.out Z.out rfl
   | true =>
    cases b with
    | false =>
     have HR:Hid (r=some (20,wh)):=HE.out;clear HE;go_wp2_with fail
     refine (HC.out _ D.out).mono ?_
     rintro e w2 ⟨la,n,lc,rfl,U,J,A⟩;obtain rfl:=J (by trivial);have Z:=zH (D.out.trans (A.mono D.out.size));have I:=zH (O.out.below A O.out.lt);clear a0 a1 a2 a3 a4 al A HC U J;obtain ⟨a0,a1,a2,a3,a4⟩:=gU I.out;have al:=I.out.lt;go_wp2_with fail
     refine (dF _ _ _).mono ?_
     rintro e w3 ⟨rfl,rfl⟩;go_wp2
     refine ⟨rfl,dx.bad HR.out Z.out ?_⟩
     unfold dS eP;rw [bo.out]
    | true =>
     have HR:Hid (r=none):=HE.out;clear HE;go_wp2_with fail
     refine (HC.out _ D.out).mono ?_
     rintro e w2 ⟨la,n,lc,rfl,U,J,A⟩;obtain rfl:=J (by trivial);have Z:=zH (D.out.trans (A.mono D.out.size));have I:=zH (O.out.below A O.out.lt);clear a0 a1 a2 a3 a4 al A HC U J;obtain ⟨a0,a1,a2,a3,a4⟩:=gU I.out;have al:=I.out.lt;go_wp2
     go_ret
     exact dx.good HR.out Z.out rfl
inductive fq:Tr→Prop where
 | of {t:Tr} (hk:t.kids.length≤100000) (hx:(cJ t.kids).length≤1000000000) (hn:t.name.length≤1000000000) (h : ∀ k ∈ t.kids,fq k):fq t
theorem fq.kl {t:Tr} (h:fq t):t.kids.length≤100000:=by cases h; assumption
theorem fq.txt {t:Tr} (h:fq t):(cJ t.kids).length≤1000000000:=by cases h; assumption
theorem fq.name {t:Tr} (h:fq t):t.name.length≤1000000000:=by cases h; assumption
theorem fq.kids {t:Tr} (h:fq t) : ∀ k ∈ t.kids,fq k:=by cases h; assumption
inductive dM:Tr→Prop where
 | of {t:Tr} (hk:t.kids.length≤100000) (hx:(cJ t.kids).length≤1000000000) (hn:t.name=aw → ∀ k ∈ t.kids,k.name.length≤1000000000) (h : ∀ k ∈ t.kids,dM k):dM t
theorem dM.kl {t:Tr} (h:dM t):t.kids.length≤100000:=by cases h; assumption
theorem dM.txt {t:Tr} (h:dM t):(cJ t.kids).length≤1000000000:=by cases h; assumption
theorem dM.pname {t:Tr} (h:dM t):t.name=aw → ∀ k ∈ t.kids,k.name.length≤1000000000:=by cases h; assumption
theorem dM.kids {t:Tr} (h:dM t) : ∀ k ∈ t.kids,dM k:=by cases h; assumption
theorem fq.weak {t:Tr} (h:fq t):dM t:=by
 induction h with
 | of hk hx hn h A=>exact .of hk hx (fun _ k hk=>(h k hk).name) A
theorem ii {m:Bs} {l:List Tr} {k:Tr} (h:k ∈ bV m l):k ∈ l:=(List.mem_filter.1 h).1
theorem sm {t:Tr} {m:Bs} {k:Tr} (h:cZ t m=some k):k ∈ t.kids:=ii (List.mem_of_mem_head? h)
theorem fq.one {t:Tr} (h:fq t) {m:Bs} {k:Tr} (hk:cZ t m=some k):fq k:=h.kids k (sm hk)
theorem dM.one {t:Tr} (h:dM t) {m:Bs} {k:Tr} (hk:cZ t m=some k):dM k:=h.kids k (sm hk)
theorem wv {t k:Tr} {m:Bs} (h:cZ t m=some k) (hm:m≠[]):k.name=m:=by
 have h1:=(List.mem_filter.1 (List.mem_of_mem_head? h)).2;unfold ij at h1;simp only [Bool.and_eq_true,Bool.or_eq_true,decide_eq_true_eq] at h1;rcases h1.2 with h2 | h2
 · simp at h2; exact absurd h2 hm
 · exact h2
def oK (w:World) (F:FuncId) (A:Array Value) (r:Bs→Bool):Prop :=
 (∀ (args:Array Value) (W:World),(callFunc F args).run Tryz.prog W = .ok (.enter F args) W) ∧ ∀ (s:Bs) (W:World),Below w.heap.size w W→s.length≤1024→Calls Tryz.prog F (#[.string (bs s)] ++ A) W fun e w'=>e = .returned (.bool (r s))∧Below W.heap.size W w'
theorem tD {t:Tr} {w:Bs} {e:Bool} (h:fw t w e=none):(eI t).length≤1024:=by
 unfold fw uM at h;unfold eI;split at h
 · cases h
 · rename_i A
   simp only [Bool.or_eq_true,not_or,decide_eq_true_eq] at A;omega
theorem cj (F:FuncId) (b3:Array Value) (r:Bs→Bool) (t:Tr) (A m:Bs) (I:Bool) (w:World) (av kv:Value) (ht:dJ w t av kv) (hm:dM t) (hl:A.length+m.length≤1000000000000) (hT:oK w F b3 r) :
    Calls Tryz.prog 94 #[dj t av kv A,.string (bs m),.bool I,.func (.func F) #[] b3] w (dx (bB t A m I r) (fun e _=>e = .returned (.string (bs (ae t m)))) w):=by
 obtain ⟨ao,ac,ko,kc,rfl,rfl,ex,-⟩:=ht.shape;have HF:Hid (∀ W,Below w.heap.size w W→Calls Tryz.prog 93 #[dj t (.slice ao t.attrs.length ac) (.slice ko t.kids.length kc) A,.string (bs m)] W (dx (cS t A m) (kL A m (cZ t m)) W)):=fun W h=>l8 t A m W _ _ (ht.later h) hm.kl hl;have HT:=zH hT;have HM:=zH hm
 have HE:Hid (bB t A m I r=(cS t A m).or (match cZ t m with
  | none=>if I then some (20,sl A m) else none
  | some k=>(fw k (sl A m) false).or (if r (eI k) then none else some (20,sl A m)))):=rfl
 have HV:Hid (ae t m=match cZ t m with
  | none=>[]
  | some k=>eI k):=rfl
 obtain ⟨E,hE⟩ : ∃ E,E=bB t A m I r:=⟨_,rfl⟩;obtain ⟨V,hV⟩ : ∃ V,V=ae t m:=⟨_,rfl⟩;rw [← hE] at HE ⊢;rw [← hV] at HV ⊢;clear hE hV ht hT hm;obtain ⟨X,hX⟩ : ∃ X:S,X=bs A:=⟨_,rfl⟩;obtain ⟨M,D⟩ : ∃ M:S,M=bs m:=⟨_,rfl⟩;obtain ⟨Y,hY⟩ : ∃ Y:S,Y=bs (sl A m):=⟨_,rfl⟩;have HY:Hid ((bs (sl A m):S)=Y):=hY.symm;unfold dj at HF ⊢;rw [← hX,← D] at HF ⊢;clear hX D;go_enter Tryz.func94,Tryz.ntmps94
 go_upto_region 1 with fail
 refine ai fun W hW=>?_
 have x1:ak W w.heap.size [.string (bs t.name),.slice ao t.attrs.length ac,.slice ko t.kids.length kc,.string (bs t.text),.string X]:=by rw [hW]; exact ak.new w [.string (bs t.name),.slice ao t.attrs.length ac,.slice ko t.kids.length kc,.string (bs t.text),.string X] _ _ rfl
 have hb:Below w.heap.size w W:=by rw [hW]; exact (Below.refl _ w).alloc (Nat.le_refl _) _
 clear hW;have b8:=zH x1;have HB:=zH hb;clear x1 hb;obtain ⟨a0,a1,a2,a3,a4⟩:=gU b8.out;have al:=b8.out.lt;go_wp2_with fail
 refine (HF.out _ HB.out).mono ?_
 rintro e w1 ⟨cm,hp,J⟩;have ag:=zH (HB.out.trans (cm.mono HB.out.size));clear a0 a1 a2 a3 a4 al HF b8 cm;cases D:cS t A m with
 | some x =>
  obtain rfl:=hp x D;have HR:Hid (E=some x):=by show _=_; rw [HE.out,D]; rfl
  clear hp J D HE HV;unfold dS;go_wp2
  exact ⟨rfl,dx.bad HR.out ag.out rfl⟩
 | none =>
  have J:=J D;rw [D,Option.none_or] at HE;clear hp D;cases hO:cZ t m with
  | none =>
   rw [hO] at HE HV J;simp only [kL,gn] at J;rw [← hY] at J;subst J;have a8:Hid (V=[]):=HV.out;clear hO HV hY;cases I with
   | true =>
    have HR:Hid (E=some (20,sl A m)):=HE.out;clear HE;go_upto_region 2 with fail
    refine ai fun W2 O=>?_
    have x2:ak W2 w1.heap.size [.string ⟨#[]⟩,.slice none 0 0,.slice none 0 0,.string ⟨#[]⟩,.string Y]:=by rw [O]; exact ak.new w1 [.string ⟨#[]⟩,.slice none 0 0,.slice none 0 0,.string ⟨#[]⟩,.string Y] _ _ rfl
    have a5:Below w.heap.size w W2:=by rw [O]; exact ag.out.alloc ag.out.size _
    clear O;have U:=zH x2;have ah:=zH a5;clear x2 a5;obtain ⟨a0,a1,a2,a3,a4⟩:=gU U.out;have al:=U.out.lt;go_wp2_with fail
    refine (dF _ _ _).mono ?_
    rintro e w9 ⟨rfl,rfl⟩;go_wp2
    refine ⟨rfl,dx.bad HR.out ah.out ?_⟩
    unfold dS eP;rw [HY.out]
   | false =>
    have HR:Hid (E=none):=HE.out;clear HE;have ah:Hid (∀ o,Below w.heap.size w (w1.alloc o)):=fun o=>ag.out.alloc ag.out.size o;go_wp2
    go_ret
    refine dx.good HR.out (ah.out _) ?_
    rw [a8.out];rfl
  | some k =>
   rw [hO] at HE HV J;obtain ⟨eU,en,rfl,hn⟩:=J;obtain ⟨p1,p2,p3,p4,rfl,rfl,-,-⟩:=hn.shape;have a8:Hid (V=eI k):=HV.out;have a9:Hid (E=(fw k (sl A m) false).or (if r (eI k) then none else some (20,sl A m))):=HE.out;have bg:=HM.out.one hO;clear HE HV hO;have HN:=zH hn
   have cT:Hid (∀ W,Below w1.heap.size w1 W→Calls Tryz.prog 134 #[.agg #[.string (bs k.name),.slice p1 k.attrs.length p2,.slice p3 k.kids.length p4,.string (bs k.text),.string Y],.bool false] W (dx (fw k (sl A m) false) (fun e _=>e = .returned (.string (bs (eI k)))) W)):=fun W h=>by
    rw [hY]; exact py k (sl A m) false W _ _ (HN.out.later h) bg.kl bg.txt
   clear hn bg;unfold dj;rw [← hY];clear hY;go_upto_region 2 with fail
   refine ai fun W2 O=>?_
   have x2:ak W2 w1.heap.size [.string (bs k.name),.slice p1 k.attrs.length p2,.slice p3 k.kids.length p4,.string (bs k.text),.string Y]:=by rw [O]; exact ak.new w1 [.string (bs k.name),.slice p1 k.attrs.length p2,.slice p3 k.kids.length p4,.string (bs k.text),.string Y] _ _ rfl
   have a5:Below w.heap.size w W2:=by rw [O]; exact ag.out.alloc ag.out.size _
   have bv:Below w1.heap.size w1 W2:=by rw [O]; exact (Below.refl _ w1).alloc (Nat.le_refl _) _
   clear O;have U:=zH x2;have ah:=zH a5;have d2:=zH bv;clear x2 a5 bv;obtain ⟨a0,a1,a2,a3,a4⟩:=gU U.out;have al:=U.out.lt;go_wp2_with fail
   refine (cT.out _ d2.out).mono ?_
   rintro e w3 ⟨bo,hp,J⟩;have ba:=zH (ah.out.trans (bo.mono ah.out.size));have b7:=zH (U.out.below bo U.out.lt);clear a0 a1 a2 a3 a4 al cT bo U;cases D:fw k (sl A m) false with
   | some x =>
    obtain rfl:=hp x D;have HR:Hid (E=some x):=by show _=_; rw [a9.out,D]; rfl
    clear hp J D a9 a8;unfold dS;go_wp2
    exact ⟨rfl,dx.bad HR.out ba.out rfl⟩
   | none =>
    obtain rfl:=J D;have cf:=tD D;have a7:Hid (E=if r (eI k) then none else some (20,sl A m)):=by show _=_; rw [a9.out,D]; rfl
    clear hp J D a9;have c8:=zH (HT.out.2 (eI k) w3 ba.out cf);generalize hS:(bs (eI k):S)=Z at *;have ef:=zH hS;clear hS cf;go_wp2_with fail
    rw [HT.out.1,Oper.upon_enter];refine c8.out.mono ?_
    rintro e w4 ⟨rfl,bl⟩;have c9:=zH (ba.out.trans (bl.mono ba.out.size));have co:=zH (b7.out.below bl b7.out.lt);clear c8 bl b7;obtain ⟨a0,a1,a2,a3,a4⟩:=gU co.out;have al:=co.out.lt;obtain ⟨b,hb⟩ : ∃ b,b=r (eI k):=⟨_,rfl⟩;rw [← hb] at a7 ⊢;clear hb;cases b with
    | true =>
     have HR:Hid (E=none):=a7.out;clear a7;go_wp2
     go_ret
     refine dx.good HR.out c9.out ?_
     rw [a8.out,ef.out];rfl
    | false =>
     have HR:Hid (E=some (20,sl A m)):=a7.out;clear a7;go_wp2_with fail
     refine (dF _ _ _).mono ?_
     rintro e w9 ⟨rfl,rfl⟩;go_wp2
     refine ⟨rfl,dx.bad HR.out c9.out ?_⟩
     unfold dS eP;rw [HY.out]
def gA (s:S):Bool:=(s.toList == [42]) || isIdB s
theorem wI (s:Bs):gA (bs s)=fH s:=by
 unfold gA fH isIdQ;have h:=fJ s [42];have h2:((bs [42]:S)).toList=[42]:=by decide +kernel
 rw [h2] at h;rw [h]
theorem ob (s:S) (w:World) (I:s.size≤9223372036854775807):Calls Tryz.prog 218 #[.string s] w fun e w'=>e = .returned (.bool (gA s))∧Below w.heap.size w w':=by
 have D:=zH (lB s w I);unfold gA;generalize isIdB s=b at *;go_enter Tryz.func218,Tryz.ntmps218
 generalize O:(s.toList == [42])=q at *;cases q with
 | true =>
  go_wp2
  go_ret
  exact ⟨rfl,Below.refl _ _⟩
 | false =>
  go_wp2_with fail
  refine D.out.mono ?_
  rintro e w1 ⟨rfl,A⟩;have J:=zH A;clear A D;go_wp2
  go_ret
  exact ⟨by cases b <;> rfl,J.out⟩
theorem nW (x:Id) (w:World) (O:x.group.size≤9223372036854775807) (ha:x.artifact.size≤9223372036854775807):Calls Tryz.prog 206 #[.agg #[.string x.group,.string x.artifact]] w fun e w'=>e = .returned (.bool (gA x.group && gA x.artifact))∧Below w.heap.size w w':=by
 obtain ⟨g,a⟩:=x;simp only at *;have HG:=zH (fun W=>ob g W O);have HA:=zH (fun W=>ob a W ha);have Z:Hid (∀ o,Below w.heap.size w (w.alloc o)):=fun o=>(Below.refl _ w).alloc (Nat.le_refl _) _;generalize gA g=p at *;generalize gA a=q at *;clear O ha;go_enter Tryz.func206,Tryz.ntmps206
 go_wp2_with fail
 refine (HG.out _).mono ?_
 rintro e w1 ⟨rfl,I⟩;have J:=zH ((ak.new w [.string g,.string a] 24 _ rfl).below I (by simp));have A:=zH ((Z.out _).trans (I.mono (Z.out (.cells #[.string g,.string a] 24)).size));have c0:=J.out.cell 0 _ rfl;have c1:=J.out.cell 1 _ rfl;have cl:=J.out.lt;clear I;cases p with
 | false =>
  go_wp2
  go_ret
  exact ⟨rfl,A.out⟩
 | true =>
  go_wp2_with fail
  refine (HA.out _).mono ?_
  rintro e w2 ⟨rfl,D⟩;have U:=zH (A.out.trans (D.mono A.out.size));clear D;go_wp2
  go_ret
  exact ⟨by cases q <;> rfl,U.out⟩
theorem dq (w:World):oK w 95 #[] cM:=by
 refine ⟨fun args W=>by kernel_rfl,fun s W _ _=>?_⟩
 go_enter Tryz.func95,Tryz.ntmps95
 go_wp2
 go_ret
 exact ⟨rfl,Below.refl _ _⟩
theorem rP (w:World):oK w 62 #[] isIdQ :=
 ⟨fun args W=>by kernel_rfl,fun s W _ A=>lB (bs s) W (by rw [ax]; omega)⟩
theorem vJ (w:World):oK w 63 #[] A7 :=
 ⟨fun args W=>by kernel_rfl,fun s W _ A=>uL (bs s) W (by rw [ax]; omega)⟩
theorem rN (w:World):oK w 176 #[] jx:=by
 refine ⟨fun args W=>by kernel_rfl,fun s W _ _=>?_⟩
 have h1:=fJ s jG;have h2:=fJ s gR;rw [show ((bs jG:S)).toList=[116,114,117,101] from by decide +kernel] at h1;rw [show ((bs gR:S)).toList=[102,97,108,115,101] from by decide +kernel] at h2;unfold jx;generalize decide (s=jG)=p at *;generalize decide (s=gR)=q at *;show Calls Tryz.prog 176 #[.string (bs s)] W _
 generalize (bs s:S)=Z at *;go_enter Tryz.func176,Tryz.ntmps176
 cases p <;> cases q <;> go_wp2 <;> go_ret <;> exact ⟨rfl,Below.refl _ _⟩
theorem ny (w:World):oK w 177 #[] fH:=by
 refine ⟨fun args W=>by kernel_rfl,fun s W _ J=>?_⟩
 have D:=zH (fun W=>nW ⟨bs s,bs s⟩ W (by rw [ax]; omega) (by rw [ax]; omega));simp only [wI,Bool.and_self] at D;show Calls Tryz.prog 177 #[.string (bs s)] W _
 generalize (bs s:S)=Z at *;go_enter Tryz.func177,Tryz.ntmps177
 go_wp2_with fail
 refine (D.out _).mono ?_
 rintro e w1 ⟨rfl,A⟩;have I:=zH A;clear A;go_wp2
 go_ret
 exact ⟨rfl,I.out⟩
theorem rO (w:World) (b:Nat) (m:Bool) (A:b<w.heap.size) (I:w.cell? ⟨b,0,none⟩=some (.bool m)):oK w 205 #[.pointer (some ⟨b,0,none⟩)] (jy m):=by
 refine ⟨fun args W=>by kernel_rfl,fun s W D _=>?_⟩
 have c0:=(D.cell (p:=⟨b,0,none⟩) (by exact A)).trans I;have hlt:b<W.heap.size:=Nat.lt_of_lt_of_le A D.size;have J:=zH (fun W=>pB s W);show Calls Tryz.prog 205 #[.string (bs s),.pointer (some ⟨b,0,none⟩)] W _
 unfold jy;generalize bZ s=n at *;generalize (bs s:S)=Z at *;obtain ⟨x,hx⟩ : ∃ x,x=decide (n≠0):=⟨_,rfl⟩;obtain ⟨y,hy⟩ : ∃ y,y=decide (n≠6):=⟨_,rfl⟩;rw [← hx] at J ⊢;rw [← hy];have O:(n != 6)=y:=by rw [hy]; by_cases h:n=6 <;> simp [h]
 clear hx hy I D A;go_enter Tryz.func205,Tryz.ntmps205
 go_wp2_with fail
 refine (J.out _).mono ?_
 rintro e w1 ⟨rfl,rfl⟩;cases x <;> cases m <;> cases y <;> go_wp2 <;> go_ret <;> exact ⟨rfl,Below.refl _ _⟩
def AH (n:Nat):UInt8:=UInt8.ofNat (48+n)
def wA (k:Nat) (P:Bs):Bs:=if k=0 then P else nQ k ++ P
theorem ww {k:Nat} (P:Bs) (h:0<k):wA k P=wA (k / 10) (AH (k % 10)::P):=by
 unfold wA;rw [if_neg (by omega)];by_cases A:k<10
 · rw [nQ,if_pos A,if_pos (by omega),Nat.mod_eq_of_lt A]; rfl
 · rw [nQ,if_neg A,if_neg (by omega)]
   simp [AH]
def q9:S:=⟨#[48,49,50,51,52,53,54,55,56,57]⟩
theorem qk (d:Nat) (h:d<10):q9.extract d (d+1)=bs [AH d]:=by
 rcases (by omega:d=0∨d=1∨d=2∨d=3∨d=4∨d=5∨d=6∨d=7∨d=8∨d=9) with rfl | rfl | rfl | rfl | rfl | rfl | rfl | rfl | rfl | rfl <;> decide +kernel
theorem nP (n:Nat):(nQ n).length≤n+1:=by
 induction n using Nat.strongRecOn with
 | ind n A =>
  rw [nQ];split
  · simp
  · rename_i h
    have:=A (n / 10) (by omega)
    simp only [List.length_append,List.length_cons,List.length_nil];omega
theorem sq (n:Nat) (w:World) (h0:0<n) (hn:n≤1000000):Calls Tryz.prog 173 #[.int .i64 n] w fun e w'=>e = .returned (.string (bs (nQ n)))∧w=w':=by
 go_enter Tryz.func173,Tryz.ntmps173
 go_wp2
 go_loopw [3,0] (fun s i wr=>∃ (k:Nat) (P:Bs) (Z:S),s = .string Z∧i = .int .i64 k∧wr=w∧k≤n∧Hid (Z=bs P∧wA k P=nQ n∧P.length+k≤n)) (fun _ i _=>(intOf i).toNat)
 case atStart=>exact ⟨n,[],⟨#[]⟩,rfl,rfl,rfl,Nat.le_refl _,rfl,by unfold wA; rw [if_neg (by omega)]; simp,by simp⟩
 case round =>
  obtain ⟨k,P,Z,rfl,rfl,O,hk,A⟩:=hrel;subst O;by_cases J:0<k
  · have aa:(0:Int)<(k:Int):=by omega
    have hm:(k:Int).tmod 10=((k % 10:Nat):Int):=by rw [Int.tmod_eq_emod_of_nonneg (by omega)]; rfl
    have hd:(k:Int).tdiv 10=((k / 10:Nat):Int):=by rw [Int.tdiv_eq_ediv_of_nonneg (by omega)]; rfl
    have hlt:k % 10<10:=Nat.mod_lt _ (by decide);have I:=A.out.2.2;have D:Z.size=P.length:=by rw [A.out.1,ax]
    have U:(ByteArray.extract ⟨#[48,49,50,51,52,53,54,55,56,57]⟩ (k % 10) (k % 10+1)).size=1:=by
     have:=qk _ hlt
     unfold q9 at this;rw [this,ax]; rfl
    have hz : ¬ 9223372036854775807<1+Z.size:=by omega
    clear I D;go_wp2
    refine ⟨⟨k / 10,AH (k % 10)::P,_,rfl,by congr 1,trivial,by omega,?_,?_,?_⟩,?_⟩
    · have:=qk _ hlt
      unfold q9 at this;rw [this,A.out.1,cU]; rfl
    · rw [← ww P J]; exact A.out.2.1
    · have:=A.out.2.2
      simp only [List.length_cons]; omega
    · simp [intOf]; omega
  · obtain rfl:k=0:=by omega
    go_wp2
    go_ret
    have h1:P=nQ n:=by have:=A.out.2.1; unfold wA at this; simpa using this
    exact ⟨by rw [← h1,← A.out.1]; rfl,rfl⟩
theorem mN {α:Type} {P:Program} (w:World) {o:Oper} {a:Act} {K:Act→World→Prop} {Q:Exit→Act→World→Prop} (s x:Operand) (t:TypeId)
    (ho:o.op = .call { callee:=.builtin .append,args:=#[s,x],argTypes:=#[t,t] })
    (base:Nat) (e:TypeId) {z:Value} {size bytes:Nat} (ht:P.underlying t=some (.slice e)) (aa:(P.info? e).map (fun i=>(i.zero,i.size,i.bytes))=some (some z,size,bytes)) (a5:z.cells.size=size) (ah:0<size) {C:α→List Value} (hC : ∀ y,(C y).length=size)
    (v:Value) (l:List α) (hs:a.eval s=v) (D:aj base e size C w v l) (v2:Value) (A:List α) (hx:a.eval x=v2) (a9:af size C w v2 A) (h1 : ∀ y ∈ A,∀ u ∈ C y,u.oneCell'=true)
    (O:(l.length+A.length)*bytes≤140737488355328) (bg:0<bytes) (ag:base≤w.heap.size)
    (h : ∀ I w',aj base e size C w' I (l ++ A)→w.grownBy w' v.ownBlock→(I.ownBlock=v.ownBlock∨I.ownBlock=some w.heap.size)→K (a.put o.dst I) w'):o.wp P a w K Q:=by
 have J:l.length+A.length≤maxLen:=by
  have:l.length+A.length≤(l.length+A.length)*bytes:=Nat.le_mul_of_pos_right _ bg
  unfold maxLen; omega
 obtain ⟨i,hi,hz,U,bc⟩:=info_parts aa;obtain ⟨ao,cap,rfl,hcap,hm,hn,hc⟩:=a9;cases ao with
 | none =>
  have h0:cap=0:=hn rfl;subst h0;obtain rfl:=List.eq_nil_of_length_eq_zero (Nat.le_zero.1 hcap);have a0:=run_append_owned_none (P:=P) (w:=w) base t o.type e i size ht hi v l.length (l.flatMap C) D;unfold Oper.wp;simp [execOp,ho,resolve,invoke,builtin,hs,hx,a0,Result.andThen]
  exact h v w (by simpa using D) (World.grownBy.refl _ _) (.inl rfl)
 | some ad =>
  have Z : ∀ j u,(A.flatMap C)[j]? = some u→w.cell? (ad.add j)=some u:=by
   intro j u hu;obtain ⟨y,hy,a6⟩:=kD hC ah hu;obtain ⟨b,o',ha,_,ac⟩:=hc _ _ hy;cases ha
   rw [Addr.add_lit];have:=ac _ _ a6
   rwa [Nat.add_assoc,Nat.div_add_mod' j size] at this
  obtain ⟨I,w',hr,h2,h3,h4,a4⟩:=run_append_own_at (P:=P) w base t o.type e i z size bytes ht hi hz U bc a5 ah v l.length (l.flatMap C) D ad A.length cap (A.flatMap C) (by rw [bG hC]) Z
   (by intro u hu; obtain ⟨y,hy,a7⟩:=List.mem_flatMap.1 hu; exact h1 y hy u a7) J O ag
  unfold Oper.wp execOp;simp only [ho,resolve,invoke,builtin,Sem.run_bind,Sem.run_pure,Result.andThen_ok,List.map_toArray,List.map_cons,List.map_nil,hs,hx,hr];exact h I w' (by unfold aj; rw [List.length_append,List.flatMap_append]; exact h2) h3 a4
theorem cc {α:Type} {P:Program} {ops:Array Oper} {E:Prop} (w:World) {o:Oper} {a:Act} {K:Act→World→Prop} {Q:Exit→Act→World→Prop} (ac:o.guard=none) (s x:Operand) (t:TypeId)
    (ho:o.op = .call { callee:=.builtin .append,args:=#[s,x],argTypes:=#[t,t] })
    (base:Nat) (e:TypeId) {z:Value} {size bytes:Nat} (ht:P.underlying t=some (.slice e)) (I:(P.info? e).map (fun i=>(i.zero,i.size,i.bytes))=some (some z,size,bytes)) (U:z.cells.size=size) (Z:0<size) {C:α→List Value} (hC : ∀ y,(C y).length=size)
    (v:Value) (l:List α) (hs:a.eval s=v) (O:aj base e size C w v l) (v2:Value) (A:List α) (hx:a.eval x=v2) (aa:af size C w v2 A) (h1 : ∀ y ∈ A,∀ u ∈ C y,u.oneCell'=true)
    (D:(l.length+A.length)*bytes≤140737488355328) (ad:0<bytes) (J:base≤w.heap.size)
    (h : ∀ ao n cap w',aj base e size C w' (.slice ao n cap) (l ++ A)→w.grownBy w' v.ownBlock→K (a.put o.dst (.slice ao n cap)) w') :
    if Region.wanted o (yielded ops a.tmps)=true then Oper.wp P o a w K Q else E:=by
 have hw:Region.wanted o (yielded ops a.tmps)=true:=by simp [Region.wanted,ac]
 rw [if_pos hw];refine mN w s x t ho base e ht I U Z hC v l hs O v2 A hx aa h1 D ad J fun v' w' h2 h3 _=>?_
 obtain ⟨ao,cap,rfl⟩:=h2.shape;exact h ao _ cap w' h2 h3
end Go.Proofs.YtominiaohfjobaaGreatDoor
