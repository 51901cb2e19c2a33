/- A store into one cell of an element of an owned slice; no program in sight. -/
import Derived.Test.YtominiaohfjobaaGreatDoorPK01
import Derived.Deep.MidRow
import Derived.Test.YtominiaohfjobaaGreatDoorProg
import Derived.Shelf.Strings.BuilderX
import Derived.Lib.Walk
import Derived.Lib.Builder
import Derived.Lib.AppendStr
import Derived.Lib.UnsafeStr
import Derived.WalkKit
import Derived.WalkSpells
import Derived.Laws.Externs
import Derived.Lib.Hide
set_option maxRecDepth 100000
set_option maxHeartbeats 64000000
namespace Go.Proofs.YtominiaohfjobaaGreatDoor
open Go Go.RowKit
theorem yL {α:Type} {C:α→List Value} {n:Nat} (I : ∀ x,(C x).length=n) {l:List α} {k j:Nat} {x A:α} {u:Value} (hk:l[k]? = some x) (hj:j<n) (hx:C A=(C x).set j u) :
    (l.set k A).flatMap C=(l.flatMap C).set (k*n+j) u:=by
 have hlt:k<l.length:=(List.getElem?_eq_some_iff.1 hk).1;have hn:0<n:=by omega
 have Z:k*n+j<l.length*n:=by
  have:(k+1)*n≤l.length*n:=Nat.mul_le_mul_right _ hlt
  rw [Nat.add_mul] at this; omega
 apply List.ext_getElem?
 intro i;by_cases hi:i<l.length*n
 · have U:i / n<l.length:=Nat.div_lt_of_lt_mul (by rw [Nat.mul_comm]; exact hi)
   have hm:i % n<n:=Nat.mod_lt _ hn;have O:i=i / n*n+i % n:=(Nat.div_add_mod' i n).symm;rw [List.getElem?_set];by_cases D:i / n=k
   · have h1:(l.set k A)[i / n]? = some A:=by rw [D]; simp [hlt]
     have h2:l[i / n]? = some x:=by rw [D,hk]
     have e1:=dC I (l.set k A) (i / n) (i % n) A h1 hm;have e2:=dC I l (i / n) (i % n) x h2 hm;rw [← O] at e1 e2;rw [e1,e2,hx,List.getElem?_set,bG I,I]
     have:(k*n+j=i)↔(j=i % n):=by
      constructor
      · intro h; rw [O,D] at h; omega
      · intro h; rw [O,D]; omega
     by_cases J:j=i % n
     · rw [if_pos J,if_pos (this.2 J),if_pos hj,if_pos Z]
     · rw [if_neg J,if_neg (fun h=>J (this.1 h))]
   · have h1:(l.set k A)[i / n]? = some l[i / n]:=by rw [List.getElem?_set_ne (by omega)]; simp [U]
     have h2:l[i / n]? = some l[i / n]:=by simp [U]
     have e1:=dC I (l.set k A) (i / n) (i % n) _ h1 hm;have e2:=dC I l (i / n) (i % n) _ h2 hm;rw [← O] at e1 e2;rw [e1,e2]
     have : ¬ k*n+j=i:=by
      intro h;apply D
      rw [← h,Nat.mul_comm,Nat.mul_add_div hn,Nat.div_eq_of_lt hj]; rfl
     rw [if_neg this]
 · rw [List.getElem?_eq_none (by rw [bG I,List.length_set]; omega),List.getElem?_eq_none (by rw [List.length_set,bG I]; omega)]
theorem bO {α:Type} {base:Nat} {E:TypeId} {n:Nat} {C:α→List Value} (I : ∀ x,(C x).length=n) {w:World} {ao:Option Addr} {len cap:Nat} {l:List α} {k j:Nat} {x:α}
    (h:aj base E n C w (.slice ao len cap) l) (hk:l[k]? = some x) (U:j<n) :
    ∃ g,ao=some ⟨g,0,none⟩∧base≤g∧g<w.heap.size∧w.cell? ⟨g,k*n+j,none⟩=(C x)[j]?∧w.frozen? ⟨g,k*n+j,none⟩=false ∧
     (∀ i u,(C x)[i]? = some u→w.cell? ⟨g,k*n+i,none⟩=some u) ∧
     ∀ u D,C D=(C x).set j u→aj base E n C (w.setCell ⟨g,k*n+j,none⟩ u) (.slice ao len cap) (l.set k D):=by
 have hlt:k<l.length:=(List.getElem?_eq_some_iff.1 hk).1
 have O : ∀ i,i<n→k*n+i<l.length*n:=fun i A=>by
  have:(k+1)*n≤l.length*n:=Nat.mul_le_mul_right _ hlt
  rw [Nat.add_mul] at this; omega
 rcases h.2 with ⟨he,h0⟩ | ⟨g,ad,ah,he,hb,hg,ag,hm,hcs,ht⟩
 · omega
 · cases he
   have Z : ∀ i,i<n→w.cell? ⟨g,k*n+i,none⟩=(C x)[i]?:=fun i A=>by
    rw [World.ownsRow.cellAt h (k*n+i) (O i A),dC I l k i x hk A]
   refine ⟨g,rfl,hb,(Array.getElem?_eq_some_iff.1 hg).1,Z j U,World.ownsRow.frozenAt h _,fun i u J=>?_,fun u D hx=>?_⟩
   · have A:i<n:=by rw [← I x]; exact (List.getElem?_eq_some_iff.1 J).1
     rw [Z i A,J]
   · unfold aj
     rw [List.length_set,yL I hk U hx];exact (World.ownsRow.stored h (k*n+j) u).1
theorem ab (w:World) (g j:Nat) (u:Value):w.grownBy (w.setCell ⟨g,j,none⟩ u) (some g) :=
 ⟨rfl,rfl,rfl,by simp [World.setCell],fun k _ hk=>Below.heap_setCell w ⟨g,j,none⟩ u k (fun e=>hk (by simp [e]))⟩
theorem aj.keptR {α:Type} {base:Nat} {E:TypeId} {n:Nat} {C:α→List Value} {w w':World} {v:Value} {l:List α} {r:Nat} (h:aj base E n C w v l) (D:w.grownBy w' (some r)) (I:r<base):aj base E n C w' v l:=by
 refine h.kept D ?_
 cases A:v.ownBlock with
 | none=>exact .inl rfl
 | some k=>right; have:=(h.lt k A).1; simp; omega
theorem ak.setCells {w:World} {b:Nat} {old cs:List Value} (h:ak w b old) (U:old.length=cs.length):ak (w.setCells b 0 cs) b cs:=by
 have D:w.there b 0 cs.length:=fun j Z=>by
  refine ⟨?_,by simpa using h.free (0+j)⟩
  rw [Nat.zero_add,h.cell j old[j] (by simp [U,Z])]; rfl
 have O:=World.rangeAt_setCells_same w b 0 cs D
 have hg : ∀ (A:List Value) (o:Nat) (w:World),(w.setCells b o A).heap.size=w.heap.size:=by
  intro A;induction A with
  | nil=>intro o w; rfl
  | cons v A I=>intro o w; simp only [World.setCells]; rw [I]; simp [World.setCell]
 refine ⟨by rw [hg]; exact h.lt,fun j u J=>by simpa using O j u J,fun j=>?_⟩
 rw [World.frozen?_setCells]; exact h.free j
theorem dh (b:Nat) : ∀ (A:List Value) (o:Nat) (w:World),w.grownBy (w.setCells b o A) (some b)
 | [],_,w=>World.grownBy.refl _ _
 | v::A,o,w=>((⟨rfl,rfl,rfl,by simp [World.setCell],fun k _ hk=>Below.heap_setCell w ⟨b,o,none⟩ v k (fun e=>hk (by simp [e]))⟩:w.grownBy (w.setCell ⟨b,o,none⟩ v) (some b))).trans (dh b A (o+1) _)
theorem bn {P:Program} {ops:Array Oper} {rest:List Oper} {op:Oper} {a:Act} {w:World} {Q:Exit→Act→World→Prop} (U:op.guard=none) (A:TypeId) (x y:Operand) (ho:op.op = .store A x y)
    (b:Nat) (old cs:List Value) (hx:a.eval x = .pointer (some ⟨b,0,none⟩)) (hy:a.eval y = .agg cs.toArray) (D:ak w b old) (J:old.length=cs.length)
    (hi:(P.info? A).map (·.size)=some cs.length) (h1 : ∀ v ∈ cs,v.oneCell'=true)
    (h : ∀ W',ak W' b cs→w.grownBy W' (some b)→wpList P ops Q rest (a.put op.dst undef) W'):wpList P ops Q (op::rest) a w:=by
 have I:w.there b 0 cs.toArray.size:=fun j Z=>by
  have O:j<old.length:=by rw [J]; simpa using Z
  refine ⟨?_,by simpa using D.free (0+j)⟩
  rw [Nat.zero_add,D.cell j old[j] (by simp [O])]; rfl
 exact wpList_store_mid U A x y ho b 0 cs.toArray hx hy I (by simpa using hi) (all_oneCell_toArray h1) (h _ (D.setCells J) (dh b _ 0 w))
structure ft (v:Value) (b:Nat) (s:S) (r:Bs) (ov:Value) (w:World) (e:Ending) (w':World):Prop where
 ret:e = .returned v
 rd:Rd w' b s r ov
 grown:w.grownBy w' (some b)
structure mU (x:Int) (s:S) (r:Bs) (b:Nat) (w:World) (e:Ending) (w':World):Prop where
 pan:e = .panicked [{ v:=kF x (aB s r),recovered:=false }]
 grown:w.grownBy w' (some b)
def fE (w:World) (b:Nat):Int:=match w.cell? ⟨b,1,none⟩ with
 | some (.int _ n)=>n
 | _=>0
theorem Rd.place {w:World} {b:Nat} {s:S} {l:Bs} {ov:Value} (h:Rd w b s l ov):fE w b=aB s l:=by unfold fE; rw [h.c1]
theorem gj (b:Nat) (s:S) (l:Bs) (ov:Value) (w:World) (h:Rd w b s l ov) (hs:s.size≤1000000) :
    Calls Tryz.prog 153 #[.pointer (some ⟨b,0,none⟩)] w (ft (.int .i64 (l.length - (aC l).length:Nat)) b s (aC l) ov w):=by
 have c1:=h.c1;have hq:aB s l≤s.size:=by have:=aT h.suf; omega
 have HP:Hid (aB s l+l.length=s.size):=aT h.suf;have HH:=zH h;clear h;go_enter Tryz.func153,Tryz.ntmps153
 go_wp2
 clear c1;go_loopw [] (fun wr=>∃ l',Rd wr b s l' ov∧w.grownBy wr (some b)∧Hid (aC l=aC l')) (fun wr=>s.size - (fE wr b).toNat)
 case atStart=>exact ⟨l,HH.out,World.grownBy.refl _ _,rfl⟩
 case round =>
  obtain ⟨l',A,hg,HB⟩:=hrel;have O:=zH A;have c0:=A.c0;have c1:=A.c1;have f1:=A.f1;have hlt:=A.box.lt;have U:=A.place;have a5:=zH U;have hp:=aT A.suf;clear U;cases l' with
  | nil =>
   have HN:Hid (∀ n,Calls Tryz.prog 120 #[.pointer (some ⟨b,0,none⟩)] (wr.drewN n) fun e D=>e = .returned (.bool true) ∧ ∃ m,D=wr.drewN m):=fun n=>Qt.quiet (ch b s [] ov (wr.drewN n) (O.out.drewN n));have bg:aB s []≤s.size:=by omega
   clear A hp;generalize I:aB s []=p at *;have ac:=zH I;clear I;go_wp2
   go_quiet ((go_at_call 120; exact HN.out _))
   go_wp2
   go_ret
   have J:aC l=[]:=HB.out;refine ⟨dK ?_,?_,hg.trans (aX wr nq _)⟩
   · have h1:=ac.out
     have h2:=HP.out;rw [m7] at h1;rw [J]; simp; omega
   · rw [J]; exact O.out.drewN nq
  | cons c r =>
   have HN:Hid (∀ n,Calls Tryz.prog 120 #[.pointer (some ⟨b,0,none⟩)] (wr.drewN n) fun e D=>e = .returned (.bool false) ∧ ∃ m,D=wr.drewN m):=fun n=>Qt.quiet (ch b s (c::r) ov (wr.drewN n) (O.out.drewN n));have U:=ky A.suf;have HG:=zH (qJ A.suf U);have HC:=zH (fU A.suf);have Z:=dP A.suf;have HS:=zH Z;clear A hp Z;generalize I:aB s (c::r)=p at *;have ac:=zH I;clear I;have bb:(p:Int)<(s.size:Int):=by omega
   have bc:(p:Int)+1≤9223372036854775807:=by omega
   cases aa:cBlank c
   all_goals
    have HI:Hid (∀ n,Calls Tryz.prog 188 #[.int .u8 s[p].toNat] (wr.drewN n) fun e D=>e = .returned (.bool _) ∧ ∃ m,D=wr.drewN m):=fun n=>tM (by have:=fj s[p] (wr.drewN n); rw [HG.out,aa] at this; rw [HG.out]; exact this);have ad:=zH aa;clear aa;go_wp2
    go_quiet ((first | (go_at_call 120; exact HN.out _) | (go_at_call 188; exact HI.out _)))
    go_wp2
   · go_ret
     have J:aC l=c::r:=by rw [HB.out]; simp [aC,ad.out]
     refine ⟨dK ?_,?_,hg.trans (aX wr nq _)⟩
     · have h1:=ac.out
       have h2:=HP.out;have h3:=aT O.out.suf;have h4:=dm l;rw [J] at h4 ⊢;omega
     · rw [J]; exact O.out.drewN nq
   · go_roundw
     case rel =>
      refine ⟨r,(O.out.drewN nq).move HS.out (by rw [HC.out]; rfl),?_,?_⟩
      · exact (hg.trans (aX wr nq _)).trans (ab _ b 1 _)
      · show _=_; rw [HB.out]; simp [aC,ad.out]
     case measure =>
      have h3:fE ((wr.drewN nq).setCell ⟨b,1,none⟩ (.int .i64 ((p:Int)+1))) b=(p:Int)+1:=by
       have:=((O.out.drewN nq).move HS.out (v:=.int .i64 ((p:Int)+1)) (by rw [HC.out]; rfl)).place
       rw [this,HC.out]; omega
      rw [h3,a5.out]; omega
theorem iK (c:UInt8):(⟨#[c]⟩:S).data.toList=[c]:=rfl
theorem zS (b:Nat) (s:S) (c:UInt8) (r:Bs) (ov:Value) (w:World) (h:Rd w b s (c::r) ov) (Z:s.size≤1000000) :
    Calls Tryz.prog 154 #[.pointer (some ⟨b,0,none⟩),.string ⟨#[c]⟩] w (ft (.tuple #[]) b s r ov w):=by
 have c1:=h.c1;have f1:=h.f1;have hlt:=h.box.lt;have U:=ky h.suf;have I:Hid (Calls Tryz.prog 120 #[.pointer (some ⟨b,0,none⟩)] w (Qt (.bool false) w)):=ch b s (c::r) ov w h
 have O:Hid (∀ n,Calls Tryz.prog 149 #[.pointer (some ⟨b,0,none⟩),.string ⟨#[c]⟩] (w.drewN n) (Qt (.bool true) (w.drewN n))):=fun n=>by
  have:=bQ b s (c::r) ov ⟨#[c]⟩ (w.drewN n) (h.drewN n)
  rw [iK] at this;simpa [List.isPrefixOf] using this
 have J:=zH (fU h.suf);have A:=zH (dP h.suf);have D:=zH h;clear h;generalize aB s (c::r)=p at *;go_enter Tryz.func154,Tryz.ntmps154
 go_wp2_with fail
 refine I.out.mono ?_
 rintro e w' ⟨rfl,n,rfl⟩;go_wp2_with fail
 refine (O.out _).mono ?_
 rintro e w' ⟨rfl,n2,rfl⟩;go_wp2
 go_end0
 refine ⟨rfl,?_,?_⟩
 · exact (D.out.drewN _).move A.out (v:=.int .i64 ((p:Int)+1)) (by rw [J.out]; rfl)
 · exact (aX w _ _).trans (ab _ b 1 _)
theorem zT (b:Nat) (s:S) (c x:UInt8) (r:Bs) (ov:Value) (w:World) (h:Rd w b s (x::r) ov) (A:x≠c) :
    Calls Tryz.prog 154 #[.pointer (some ⟨b,0,none⟩),.string ⟨#[c]⟩] w (mU 10 s (x::r) b w):=by
 have c1:=h.c1;have hlt:=h.box.lt;have I:Hid (Calls Tryz.prog 120 #[.pointer (some ⟨b,0,none⟩)] w (Qt (.bool false) w)):=ch b s (x::r) ov w h
 have J:Hid (∀ n,Calls Tryz.prog 149 #[.pointer (some ⟨b,0,none⟩),.string ⟨#[c]⟩] (w.drewN n) (Qt (.bool false) (w.drewN n))):=fun n=>by
  have:=bQ b s (x::r) ov ⟨#[c]⟩ (w.drewN n) (h.drewN n)
  rw [iK] at this;have D:(c == x)=false:=by simpa using Ne.symm A
  simpa [List.isPrefixOf,D] using this
 clear h A;go_enter Tryz.func154,Tryz.ntmps154
 go_wp2_with fail
 refine I.out.mono ?_
 rintro e w' ⟨rfl,n,rfl⟩;go_wp2_with fail
 refine (J.out _).mono ?_
 rintro e w' ⟨rfl,n2,rfl⟩;go_wp2_with fail
 refine (cY _ _ _).mono ?_
 rintro e w' ⟨rfl,rfl⟩;go_wp2
 exact ⟨rfl,rfl,aX w _ _⟩
theorem xG (b:Nat) (s:S) (t:S) (ov:Value) (w:World) (h:Rd w b s [] ov) :
    Calls Tryz.prog 154 #[.pointer (some ⟨b,0,none⟩),.string t] w (mU 13 s [] b w):=by
 have c1:=h.c1;have hlt:=h.box.lt;have A:Hid (Calls Tryz.prog 120 #[.pointer (some ⟨b,0,none⟩)] w (Qt (.bool true) w)):=ch b s [] ov w h;clear h;go_enter Tryz.func154,Tryz.ntmps154
 go_wp2_with fail
 refine A.out.mono ?_
 rintro e w' ⟨rfl,n,rfl⟩;go_wp2_with fail
 refine (cY _ _ _).mono ?_
 rintro e w' ⟨rfl,rfl⟩;go_wp2
 exact ⟨rfl,rfl,aX w n _⟩
def zL {α:Type} (f:α→Value) (b:Nat) (s:S) (ov:Value) (w:World):cO α→Ending→World→Prop
 | .ok a r=>ft (f a) b s r ov w
 | .bad e r=>mU e s r b w
theorem fP (b:Nat) (s:S) (c:UInt8) (l:Bs) (ov:Value) (w:World) (h:Rd w b s l ov) (A:s.size≤1000000) :
    Calls Tryz.prog 154 #[.pointer (some ⟨b,0,none⟩),.string ⟨#[c]⟩] w (zL (fun _=>.tuple #[]) b s ov w (dd c l)):=by
 cases l with
 | nil=>exact xG b s _ ov w h
 | cons x r =>
  by_cases hx:x=c
  · subst hx
    simp only [dd,if_true];exact zS b s x r ov w h A
  · simp only [dd,hx,if_false]
    exact zT b s c x r ov w h hx
theorem hD (b:Nat) (s:S) (x:Int) (l:Bs) (ov:Value) (w:World) (h:Rd w b s l ov) (hs:s.size≤1000000) :
    Calls Tryz.prog 152 #[.pointer (some ⟨b,0,none⟩),.int .i64 x] w (zL (fun n=>.string (bs n)) b s ov w (dB x l)):=by
 have c1:=h.c1;have hlt:=h.box.lt;have HR:=zH h;cases l with
 | nil =>
  have I:Hid (Calls Tryz.prog 120 #[.pointer (some ⟨b,0,none⟩)] w (Qt (.bool true) w)):=ch b s [] ov w h;clear h;go_enter Tryz.func152,Tryz.ntmps152
  go_wp2_with fail
  refine I.out.mono ?_
  rintro e w' ⟨rfl,n,rfl⟩;go_wp2_with fail
  refine (cY _ _ _).mono ?_
  rintro e w' ⟨rfl,rfl⟩;go_wp2
  exact ⟨rfl,rfl,aX w n _⟩
 | cons c l =>
  have I:Hid (Calls Tryz.prog 120 #[.pointer (some ⟨b,0,none⟩)] w (Qt (.bool false) w)):=ch b s (c::l) ov w h;have HT:Hid (∀ n,Calls Tryz.prog 185 #[.pointer (some ⟨b,0,none⟩)] (w.drewN n) (Qt (.string (bs (c::l))) (w.drewN n))):=fun n=>ff b s (c::l) ov (w.drewN n) (h.drewN n);have U:=aT h.suf
  have HM:Hid (∀ w,Calls Tryz.prog 189 #[.string (bs (c::l))] w fun e w'=>e = .returned (.int .i64 (cq (c::l)))∧w=w'):=fun w=>by
   have:=yu (bs (c::l)) w (by rw [ax]; omega)
   rw [cH] at this; exact this
  by_cases h0:cq (c::l)=0
  · have e0:((cq (c::l):Int) == 0)=true:=beq_iff_eq.2 (by omega)
    have HO:Hid (dB x (c::l) = .bad x (c::l)):=by show _=_; simp only [dB,h0,if_true]
    clear h h0 U;generalize cq (c::l)=k at *;generalize bs (c::l)=u at *;go_enter Tryz.func152,Tryz.ntmps152
    go_wp2_with fail
    refine I.out.mono ?_
    rintro e w' ⟨rfl,n,rfl⟩;go_wp2_with fail
    refine (HT.out _).mono ?_
    rintro e w' ⟨rfl,n2,rfl⟩;go_wp2_with fail
    refine (HM.out _).mono ?_
    rintro e w' ⟨rfl,rfl⟩;go_wp2_with fail
    refine (cY _ _ _).mono ?_
    rintro e w' ⟨rfl,rfl⟩;go_wp2
    rw [HO.out];exact ⟨rfl,rfl,aX w _ _⟩
  · have e0:((cq (c::l):Int) == 0)=false:=beq_eq_false_iff_ne.2 (by omega)
    have HO:Hid (dB x (c::l) = .ok ((c::l).take (cq (c::l))) ((c::l).drop (cq (c::l)))):=by show _=_; simp only [dB,h0,if_false]
    have ad:=nU (c::l);have A:=(List.drop_suffix (cq (c::l)) (c::l)).trans h.suf
    have O:aB s ((c::l).drop (cq (c::l)))=aB s (c::l)+cq (c::l):=by
     have:=aT A; rw [List.length_drop] at this; omega
    have HX:Hid (s.extract (aB s (c::l)) (aB s (c::l)+cq (c::l))=bs ((c::l).take (cq (c::l)))):=by
     show _=_
     rw [Lib.extract_eq,nE h.suf,Nat.add_sub_cancel_left]; rfl
    have Z:=zH O;have HS:=zH A;have a5:aB s (c::l)+cq (c::l)≤s.size:=by omega
    clear h h0 U O A ad;generalize cq (c::l)=k at *;generalize bs (c::l)=u at *;generalize J:aB s (c::l)=p at *;have a9:=zH J;clear J;go_enter Tryz.func152,Tryz.ntmps152
    go_wp2_with fail
    refine I.out.mono ?_
    rintro e w' ⟨rfl,n,rfl⟩;go_wp2_with fail
    refine (HT.out _).mono ?_
    rintro e w' ⟨rfl,n2,rfl⟩;have f1:=HR.out.f1;go_wp2_with fail
    refine (HM.out _).mono ?_
    rintro e w' ⟨rfl,rfl⟩;go_wp2
    refine ai fun W hW=>?_
    have D:Rd W b s ((c::l).drop k) ov:=by rw [hW]; exact (HR.out.drewN _).move HS.out (v:=.int .i64 ((p:Int)+k)) (by rw [Z.out]; rfl)
    have hG:Hid (w.grownBy W (some b)):=by rw [hW]; exact (aX w _ _).trans (ab _ b 1 _)
    clear hW c1 f1;have c0:=D.c0;have c1:=D.c1;rw [Z.out] at c1;have a4:=D.box.lt;have ah:=zH D;clear D;have w1:IntKind.i64.wrap (((p+k:Nat):Int) - (k:Int))=(p:Int):=by rw [show ((p+k:Nat):Int) - (k:Int)=(p:Int) by omega]; exact IntWalk.i64_in _ (by omega)
    have w2:(p:Int)≤((p+k:Nat):Int):=by omega
    have w3:((p+k:Nat):Int)≤(s.size:Int):=by omega
    go_quiet (fail)
    go_wp2
    go_ret
    rw [HO.out];exact ⟨by rw [HX.out]; rfl,ah.out.drewN nq,hG.out.trans (aX W nq _)⟩
theorem ue {l til:Bs} (h:0≤Lib.index l til):(Lib.index l til).toNat+til.length≤l.length:=by
 induction l with
 | nil =>
  unfold Lib.index at h ⊢;split
  · rename_i h2; simp at h2; simp [h2]
  · rename_i h2; rw [if_neg h2] at h; omega
 | cons c l A =>
  have I:=Lib.index_ge l til;unfold Lib.index at h ⊢;split
  · rename_i h2
    have:=(List.isPrefixOf_iff_prefix.1 h2).length_le
    simpa using this
  · rename_i h2
    rw [if_neg h2] at h;split
    · rename_i h3; rw [if_pos h3] at h; omega
    · rename_i h3
      have D:0≤Lib.index l til:=by simp at h3; omega
      have:=A D
      simp only [List.length_cons]; omega
theorem lN (b:Nat) (s fr til:S) (l0 l:Bs) (ov:Value) (m:Int) (w:World) (h:Rd w b s l0 ov) (hl:l=l0.drop fr.size) (d8:fr.size≤l0.length) (hs:s.size≤1000000) (hm:w.cell? ⟨0,0,none⟩=some (.int .i64 m))
    (ht:til.data.toList≠[]) (d2:til.size≤100) :
    Calls Tryz.prog 150 #[.pointer (some ⟨b,0,none⟩),.string fr,.string til] w (zL (fun t=>.string (bs t)) b s ov w (plain til.data.toList l)):=by
 have U:l <:+ s.data.toList:=by rw [hl]; exact (List.drop_suffix _ _).trans h.suf
 have bo:aB s l=aB s l0+fr.size:=by
  have h1:=aT h.suf;have h2:=aT U;have h3:l.length=l0.length - fr.size:=by rw [hl,List.length_drop]
  omega
 have a0:=aT U;have HO:Hid (plain til.data.toList l=kt til.data.toList l):=si ht l;have b3:=Lib.index_ge l til.data.toList;have D:=fun h0=>ue (l:=l) (til:=til.data.toList) h0;rw [au] at D
 have HI:Hid (∀ w,w.cell? ⟨0,0,none⟩=some (.int .i64 m)→Calls Tryz.prog 140 #[.string (bs l),.string til] w fun e w'=>e = .returned (.int .i64 (Lib.index l til.data.toList))∧w=w'):=fun w hw=>by
  have:=wQ (bs l) til m w (by rw [ax]; omega) hw
  rw [cH] at this; exact this
 have HU:Hid (kt til.data.toList l=if 0≤Lib.index l til.data.toList then
  if aI cE (l.take (Lib.index l til.data.toList).toNat)<(Lib.index l til.data.toList).toNat then .bad 10 (l.drop (aI cE (l.take (Lib.index l til.data.toList).toNat)))
  else .ok (l.take (Lib.index l til.data.toList).toNat) (l.drop ((Lib.index l til.data.toList).toNat+til.size))
 else if aI cE l<l.length then .bad 10 (l.drop (aI cE l)) else .bad 13 []):=by show _=_; rw [← au til]; rfl
 have c1:=h.c1;have f1:=h.f1;have hlt:=h.box.lt;have HR:=zH h;have HM:=zH hm;have HS:=zH U;have b4:=zH bo;have d3:aB s l0+fr.size≤s.size:=by omega
 clear h hm hl U;generalize hI:Lib.index l til.data.toList=n at *;clear hI;generalize aB s l0=p0 at *;have d4:aB s l≤s.size:=by omega
 have A:=zH a0;clear a0 bo;generalize bv:aB s l=p at *;have al:=zH bv;clear bv;by_cases hn:0≤n
 · obtain ⟨k,rfl⟩:=Int.eq_ofNat_of_zero_le hn
   have hk:=D hn;rw [Int.toNat_natCast] at hk;have b0:k≤l.length:=by omega
   have d7:(0:Int)≤(k:Int):=by omega
   have d6:k≤(bs l).size:=by rw [ax]; exact b0
   have HV:Hid ((bs l).extract 0 k=bs (l.take k)):=by show _=_; rw [uu]; simp
   have a5:Hid ((bs (l.take k)).size=k):=by show _=_; rw [ax,List.length_take]; omega
   have dn : ¬ (k:Int)<0:=by omega
   have d5:p+(k+til.size)≤s.size:=by have:=A.out; omega
   have ah:Hid (∀ j,aI cE (bs (l.take k)).data.toList=j→j<(bs (l.take k)).size→plain til.data.toList l = .bad 10 (l.drop j)∧aB s (l.drop j)=p+j):=fun j h1 h2=>by
    rw [a5.out] at h2;rw [cH] at h1;refine ⟨by rw [HO.out,HU.out,if_pos hn,Int.toNat_natCast,h1,if_pos h2],?_⟩
    have h3:=aT ((List.drop_suffix j l).trans HS.out);have h4:=A.out;rw [List.length_drop] at h3; omega
   have c8:Hid (aI cE (bs (l.take k)).data.toList=k→plain til.data.toList l = .ok (l.take k) (l.drop (k+til.size))∧aB s (l.drop (k+til.size))=p+(k+til.size)∧l.drop (k+til.size) <:+ s.data.toList):=fun h1=>by
    rw [cH] at h1;have h0:=(List.drop_suffix (k+til.size) l).trans HS.out;refine ⟨by rw [HO.out,HU.out,if_pos hn,Int.toNat_natCast,h1,if_neg (by omega)],?_,h0⟩
    have h3:=aT h0;have h4:=A.out;rw [List.length_drop] at h3; omega
   clear D b3;go_enter Tryz.func150,Tryz.ntmps150
   go_wp2_with fail
   refine Calls.world ?_
   intro W Z;have J:Rd W b s l ov:=by rw [Z]; exact HR.out.move HS.out (v:=.int .i64 ((p0:Int)+fr.size)) (by rw [al.out,b4.out]; rfl)
   have hm:W.cell? ⟨0,0,none⟩=some (.int .i64 m):=by rw [Z,World.cell?_setCell_other _ _ _ _ (by simp)]; exact HM.out
   have hG:Hid (w.grownBy W (some b)):=by rw [Z]; exact ab _ b 1 _
   clear Z c1 f1;have c1:=J.c1;rw [al.out] at c1;have f1:=J.f1;have b5:=J.box.lt;have O:=zH J;clear J;have a9:=zH (fun n=>ff b s l ov (W.drewN n) (O.out.drewN n));have ag:=zH (ff b s l ov W O.out);generalize bs l=u at *;refine ag.out.mono ?_
   rintro e w' ⟨rfl,n1,rfl⟩;go_wp2_with fail
   refine (HI.out _ (show (W.drewN n1).cell? _=_ from hm)).mono ?_
   rintro e w' ⟨rfl,rfl⟩;go_wp2_with fail
   refine (a9.out _).mono ?_
   rintro e w' ⟨rfl,n2,rfl⟩;go_wp2
   rw [HV.out];have a6:=zH (show k≤l.length from b0);clear HV;generalize bl:bs (l.take k)=v at *;have cm:=zH bl;clear bl;go_loop [9,38] (fun _ i=>∃ j:Nat,j≤k∧i = .int .i64 j∧Hid (aI cE v.data.toList=j+aI cE (v.data.toList.drop j))) (fun _ i=>k - (intOf i).toNat)
   case atStart=>exact ⟨0,Nat.zero_le _,rfl,by show _=_; simp⟩
   case round =>
    obtain ⟨j,hj,rfl,H⟩:=hrel;by_cases b2:j<k
    · have ac:j<v.size:=by have:=a5.out; omega
      have HD:=zH (bW v j ac);have b9:(p:Int)+(j:Int)≤1000000:=by have:=A.out; have:=a6.out; omega
      cases hp:cE v[j]
      all_goals
       have HP:=zH hp;clear hp
      · have HJ:=zH (ah.out j (by rw [H.out,HD.out]; simp [aI,HP.out]) ac)
        go_wp2_with (go_at_call 186; refine (fa _ _).mono ?_; rintro e w' ⟨rfl,rfl⟩; rw [HP.out])
        refine (cY 10 (p+j) _).mono ?_
        rintro e w' ⟨rfl,rfl⟩;go_wp2
        rw [HJ.out.1];exact ⟨rfl,by rw [HJ.out.2],hG.out.trans (aX W _ _)⟩
      · go_wp2_with (go_at_call 186; refine (fa _ _).mono ?_; rintro e w' ⟨rfl,rfl⟩; rw [HP.out])
        go_round
        case rel=>exact ⟨j+1,by omega,by go_num,by show _=_; rw [H.out,HD.out]; simp only [aI,HP.out,if_true]; omega⟩
        case measure=>simp [intOf]; omega
    · have I:aI cE v.data.toList=k:=by
       have:=a5.out
       rw [H.out,List.drop_of_length_le (by rw [au]; omega)]; simp [aI]; omega
      have HK:=zH (c8.out I);clear I H;go_wp2
      go_ret
      rw [HK.out.1];refine ⟨by show _=Ending.returned (.string (bs (l.take k))); rw [cm.out]; rfl,?_,(hG.out.trans (aX W _ _)).trans (ab _ b 1 _)⟩
      exact (O.out.drewN _).move HK.out.2.2 (v:=.int .i64 ((p:Int)+((k:Int)+(til.size:Int)))) (by rw [HK.out.2.1]; rfl)
 · have b8:n = -1:=by omega
   have ah:Hid (∀ j,aI cE (bs l).data.toList=j→j<(bs l).size→plain til.data.toList l = .bad 10 (l.drop j)∧aB s (l.drop j)=p+j):=fun j h1 h2=>by
    rw [ax] at h2;rw [cH] at h1;refine ⟨by rw [HO.out,HU.out,if_neg hn,h1,if_pos h2],?_⟩
    have h3:=aT ((List.drop_suffix j l).trans HS.out);have h4:=A.out;rw [List.length_drop] at h3; omega
   have b7:Hid (aI cE (bs l).data.toList=(bs l).size→plain til.data.toList l = .bad 13 []):=fun h1=>by
    rw [cH,ax] at h1;rw [HO.out,HU.out,if_neg hn,h1,if_neg (by omega)]
   have a6:Hid ((bs l).size≤l.length):=by show _≤_; rw [ax]; exact Nat.le_refl _
   subst b8;clear D b3 hn HU;go_enter Tryz.func150,Tryz.ntmps150
   go_wp2_with fail
   refine Calls.world ?_
   intro W Z;have J:Rd W b s l ov:=by rw [Z]; exact HR.out.move HS.out (v:=.int .i64 ((p0:Int)+fr.size)) (by rw [al.out,b4.out]; rfl)
   have hm:W.cell? ⟨0,0,none⟩=some (.int .i64 m):=by rw [Z,World.cell?_setCell_other _ _ _ _ (by simp)]; exact HM.out
   have hG:Hid (w.grownBy W (some b)):=by rw [Z]; exact ab _ b 1 _
   clear Z c1 f1;have c0:=J.c0;have c1:=J.c1;rw [al.out] at c1;have b5:=J.box.lt;have O:=zH J;clear J;have a9:=zH (fun n=>ff b s l ov (W.drewN n) (O.out.drewN n));have ag:=zH (ff b s l ov W O.out);generalize bs l=v at *;refine ag.out.mono ?_
   rintro e w' ⟨rfl,n1,rfl⟩;go_wp2_with fail
   refine (HI.out _ (show (W.drewN n1).cell? _=_ from hm)).mono ?_
   rintro e w' ⟨rfl,rfl⟩;go_wp2_with fail
   refine (a9.out _).mono ?_
   rintro e w' ⟨rfl,n2,rfl⟩;go_wp2
   go_loop [9,38] (fun _ i=>∃ j:Nat,j≤v.size∧i = .int .i64 j∧Hid (aI cE v.data.toList=j+aI cE (v.data.toList.drop j))) (fun _ i=>v.size - (intOf i).toNat)
   case atStart=>exact ⟨0,Nat.zero_le _,rfl,by show _=_; simp⟩
   case round =>
    obtain ⟨j,hj,rfl,H⟩:=hrel;by_cases b2:j<v.size
    · have ac:j<v.size:=b2
      have HD:=zH (bW v j ac);have b9:(p:Int)+(j:Int)≤1000000:=by have:=A.out; have:=a6.out; omega
      cases hp:cE v[j]
      all_goals
       have HP:=zH hp;clear hp
      · have HJ:=zH (ah.out j (by rw [H.out,HD.out]; simp [aI,HP.out]) ac)
        go_wp2_with (go_at_call 186; refine (fa _ _).mono ?_; rintro e w' ⟨rfl,rfl⟩; rw [HP.out])
        refine (cY 10 (p+j) _).mono ?_
        rintro e w' ⟨rfl,rfl⟩;go_wp2
        rw [HJ.out.1];exact ⟨rfl,by rw [HJ.out.2],hG.out.trans (aX W _ _)⟩
      · go_wp2_with (go_at_call 186; refine (fa _ _).mono ?_; rintro e w' ⟨rfl,rfl⟩; rw [HP.out])
        go_round
        case rel=>exact ⟨j+1,by omega,by go_num,by show _=_; rw [H.out,HD.out]; simp only [aI,HP.out,if_true]; omega⟩
        case measure=>simp [intOf]; omega
    · have I:aI cE v.data.toList=v.size:=by
       rw [H.out,List.drop_of_length_le (by rw [au]; omega)]; simp [aI]; omega
      have HK:=zH (b7.out I);clear I H;go_wp2_with fail
      refine (cY 13 s.size _).mono ?_
      rintro e w' ⟨rfl,rfl⟩;go_wp2
      rw [HK.out];exact ⟨rfl,by rw [m7],hG.out.trans (aX W _ _)⟩
theorem pX:(Tryz.prog.info? 5).map (fun i=>(i.zero,i.size,i.bytes))=some (some (.int .u8 0),1,1):=by kernel_rfl
theorem kX:(Tryz.prog.info? 260).map (·.size)=some 2:=by kernel_rfl
theorem oC (b:Nat) (w:World) (h0:w.cell? ⟨b,0,none⟩=some (.pointer (some ⟨b,0,none⟩))) :
    Calls Tryz.prog 217 #[.pointer (some ⟨b,0,none⟩)] w fun e w'=>e = .returned (.tuple #[])∧w'=w:=by
 obtain ⟨j,A,_⟩:=Option.map_eq_some_iff.1 kX;go_enter Tryz.func217,Tryz.ntmps217
 go_wp2
 rw [Lib.run_neq_ptr_same w _ Tryz.underlying258 A];go_wp2
 go_end0
 exact ⟨rfl,rfl⟩
theorem mR (b:Nat) (w:World) (h0:w.cell? ⟨b,0,none⟩=some (.pointer none)) (A:w.shape? b=some (260,2)) (J:w.frozen? ⟨b,0,none⟩=false) :
    Calls Tryz.prog 217 #[.pointer (some ⟨b,0,none⟩)] w fun e w'=>e = .returned (.tuple #[])∧w'=w.setCell ⟨b,0,none⟩ (.pointer (some ⟨b,0,none⟩)):=by
 obtain ⟨j,I,D⟩:=Option.map_eq_some_iff.1 kX;go_enter Tryz.func217,Tryz.ntmps217
 go_wp2
 rw [Lib.run_to_unsafe w ⟨b,0,none⟩ Tryz.underlying258 Tryz.underlying245 I (by rw [D]; decide) A (Nat.zero_lt_succ 1)];simp only [Result.andThen];rw [Oper.upon_value];go_wp2
 rw [run_callFunc_extern Tryz.func226 (by kernel_rfl) (by kernel_rfl) (by kernel_rfl) (e:=Extern.AbiNoEscape.same) (by kernel_rfl)];rw [Lib.run_noEscape];simp only [Result.andThen];rw [Oper.upon_value];go_wp2
 rw [Lib.run_from_unsafe w ⟨b,0,none⟩ Tryz.underlying245 Tryz.underlying258 I A (by kernel_rfl)];simp only [Result.andThen];rw [Oper.upon_value];go_wp2
 go_end0
 exact ⟨rfl,rfl⟩
theorem kj (B b:Nat) (bs:List Value) (w:World) (h:Lib.IsBuilder 260 5 B b bs w) :
    Calls Tryz.prog 217 #[.pointer (some ⟨b,0,none⟩)] w fun e w'=>e = .returned (.tuple #[])∧(Lib.BuilderAt 260 5 B b (.pointer (some ⟨b,0,none⟩)) bs w'∧Below B w w'):=by
 rcases h with h | h
 · refine (mR b w h.cell0 h.shape h.frozen0).mono ?_
   rintro e w' ⟨rfl,rfl⟩;exact ⟨rfl,h.used _,(Below.refl B w).setCell (p:=⟨b,0,none⟩) h.1 _⟩
 · refine (oC b w h.cell0).mono ?_
   rintro e w' ⟨rfl,rfl⟩;exact ⟨rfl,h,Below.refl B _⟩
theorem oQ (B b:Nat) (bs:List Value) (c:Int) (w:World) (h:Lib.IsBuilder 260 5 B b bs w) (a4:bs.length+1≤140737488355328) (a6:B≤w.heap.size) :
    Calls Tryz.prog 193 #[.pointer (some ⟨b,0,none⟩),.int .u8 c] w fun e w'=>e = .returned .nilIface∧(Lib.BuilderAt 260 5 B b (.pointer (some ⟨b,0,none⟩)) (bs ++ [.int .u8 c]) w'∧Below B w w'):=by
 obtain ⟨i0,hi,ad,ac,aa⟩:=info_parts pX;go_enter Tryz.func193,Tryz.ntmps193
 go_wp2_with (go_at_call 217; refine (kj B b bs _ h).mono ?_)
 rintro e w1 ⟨rfl,h1,O⟩;obtain ⟨hB,v,I,U,ah⟩:=h1;have c0:w1.cell? ⟨b,0,none⟩=some (.pointer (some ⟨b,0,none⟩)):=by rw [Lib.cell_of_heap I]; rfl
 have c1:w1.cell? ⟨b,1,none⟩=some v:=by rw [Lib.cell_of_heap I]; rfl
 go_wp2_with (at_builtin; refine wpList_append_own _ rfl _ _ 120 rfl B 5 i0 (.int .u8 0) 1 1 Tryz.underlying120 hi ad ac aa rfl (by decide) _ _ _ rfl (U.alloc _) ⟨w1.heap.size,0,none⟩ 1 1 [.int .u8 c] rfl rfl ?c1 ?c2 ?c3 ?c4 ?c5 ?_)
 case c1 =>
  intro j u Z;match j,Z with
  | 0,Z=>simp at Z; subst Z; simp [Addr.add]
 case c2=>intro u hu; simp at hu; subst hu; rfl
 case c3=>unfold maxLen; omega
 case c4=>omega
 case c5=>have:=O.size; simp; omega
 intro v' w2 A D _
 have hlt:b<w1.heap.size:=by
  rcases Nat.lt_or_ge b w1.heap.size with h' | h'
  · exact h'
  · simp [Array.getElem?_eq_none h'] at I
 have J:w2.heap[b]? = some (.cells #[.pointer (some ⟨b,0,none⟩),v] 260 (0,0)):=by
  rw [D.block b (by simp; omega) (fun e=>ah e.symm),Lib.alloc_old w1 _ b hlt];exact I
 have d0:w2.cell? ⟨b,0,none⟩=some (.pointer (some ⟨b,0,none⟩)):=by rw [Lib.cell_of_heap J]; rfl
 have d1:w2.cell? ⟨b,1,none⟩=some v:=by rw [Lib.cell_of_heap J]; rfl
 have f1:w2.frozen? ⟨b,1,none⟩=false:=Lib.frozen_of_heap J 1
 obtain ⟨g,cap,rfl⟩ : ∃ g cap,v' = .slice (some ⟨g,0,none⟩) (bs.length+1) cap:=by
  rcases A.2 with ⟨_,h0⟩ | ⟨g,cap,a7,hv,_⟩
  · omega
  · exact ⟨g,cap,hv⟩
 go_wp2
 go_ret
 refine ⟨rfl,?_,?_⟩
 · exact Lib.BuilderAt.put (T:=260) (e:=5) hB J (bs':=bs ++ [.int .u8 c]) (by simpa using A) (by decide)
 · exact ((O.alloc (by have:=O.size; omega) _).grown D (by have:=O.size; simp; omega) (fun k hk=>(U.lt k hk).1)).setCell (p:=⟨b,1,none⟩) hB _
theorem mM (B b:Nat) (bs:List Value) (s:ByteArray) (w:World) (h:Lib.IsBuilder 260 5 B b bs w) (a0:bs.length+s.size≤140737488355328) (a5:B≤w.heap.size) :
    Calls Tryz.prog 192 #[.pointer (some ⟨b,0,none⟩),.string s] w fun e w'=>e = .returned (.tuple #[.int .i64 s.size,.nilIface])∧(Lib.BuilderAt 260 5 B b (.pointer (some ⟨b,0,none⟩)) (bs ++ Lib.strCells s) w'∧Below B w w'):=by
 obtain ⟨i0,hi,ag,ad,ac⟩:=info_parts pX;go_enter Tryz.func192,Tryz.ntmps192
 go_wp2_with (go_at_call 217; refine (kj B b bs _ h).mono ?_)
 rintro e w1 ⟨rfl,h1,U⟩;obtain ⟨hB,v,I,O,ah⟩:=h1;have c0:w1.cell? ⟨b,0,none⟩=some (.pointer (some ⟨b,0,none⟩)):=by rw [Lib.cell_of_heap I]; rfl
 have c1:w1.cell? ⟨b,1,none⟩=some v:=by rw [Lib.cell_of_heap I]; rfl
 go_wp2_with (at_builtin; refine Lib.wpList_append_own_string _ rfl _ _ 120 9 rfl B 5 i0 Tryz.underlying120 Tryz.underlying9 hi ag ad ac _ _ _ rfl O s rfl ?c3 ?c4 ?c5 ?_)
 case c3=>unfold maxLen; omega
 case c4=>omega
 case c5=>have:=U.size; omega
 intro v' w2 A D _
 have hlt:b<w1.heap.size:=by
  rcases Nat.lt_or_ge b w1.heap.size with h' | h'
  · exact h'
  · simp [Array.getElem?_eq_none h'] at I
 have J:w2.heap[b]? = some (.cells #[.pointer (some ⟨b,0,none⟩),v] 260 (0,0)):=by
  rw [D.block b hlt (fun e=>ah e.symm)];exact I
 have d0:w2.cell? ⟨b,0,none⟩=some (.pointer (some ⟨b,0,none⟩)):=by rw [Lib.cell_of_heap J]; rfl
 have d1:w2.cell? ⟨b,1,none⟩=some v:=by rw [Lib.cell_of_heap J]; rfl
 have f1:w2.frozen? ⟨b,1,none⟩=false:=Lib.frozen_of_heap J 1
 obtain ⟨ao,n',cap,rfl⟩ : ∃ ao n' cap,v' = .slice ao n' cap:=by
  rcases A.2 with ⟨Z,_⟩ | ⟨g,cap,a6,Z,_⟩
  · exact ⟨_,_,_,Z⟩
  · exact ⟨_,_,_,Z⟩
 go_wp2
 go_ret2
 refine ⟨rfl,?_,?_⟩
 · exact Lib.BuilderAt.put (T:=260) (e:=5) hB J (bs':=bs ++ Lib.strCells s) (by simpa [Lib.strCells_length] using A) (by decide)
 · exact (U.grown D (by have:=U.size; omega) (fun k hk=>(O.lt k hk).1)).setCell (p:=⟨b,1,none⟩) hB _
theorem sC (n:Nat):(m9 n).length≤4:=by
 unfold m9; split
 · simp
 · split
   · simp
   · split <;> simp
theorem mu {s t:Bs} {n:Nat} (h:bP s = .ok t n):t.length≤4:=by
 have hn : ∀ A a d,cg A a d = .ok t n→t.length≤4:=by
  intro A a d h;unfold cg at h;by_cases h1:8<aI (bE A) d
  · rw [if_pos h1] at h; cases h
  · rw [if_neg h1] at h
    by_cases h2:aI (bE A) d=d.length
    · rw [if_pos h2] at h; cases h
    · rw [if_neg h2] at h
      by_cases h3:aI (bE A) d=0∨d[aI (bE A) d]?≠some 59
      · rw [if_pos h3] at h; cases h
      · rw [if_neg h3] at h
        split at h
        · cases h; exact sC _
        · cases h
 cases s with
 | nil=>cases h
 | cons c r =>
  simp only [bP] at h;by_cases I:c=38
  · rw [if_neg (by simp [I])] at h
    split at h
    · split at h
      · exact hn _ _ _ h
      · exact hn _ _ _ h
    · by_cases D:aI ca r=r.length
      · rw [if_pos D] at h
        split at h <;> cases h
      · rw [if_neg D] at h
        split at h
        · split at h
          · cases h; simp
          · cases h
        · cases h
  · rw [if_pos I] at h; cases h
theorem sH {T e:TypeId} {B k b:Nat} {bs:List Value} {w w':World} (h:Lib.IsBuilder T e B k bs w) (A:w.grownBy w' (some b)) (J:b<B):Lib.IsBuilder T e B k bs w':=by
 have key : ∀ p,Lib.BuilderAt T e B k p bs w→Lib.BuilderAt T e B k p bs w':=fun p h=>by
  have hlt:=h.lt;obtain ⟨h1,v,h2,h3,I⟩:=h;refine ⟨h1,v,(A.block k hlt (by simp; omega)).trans h2,World.ownsRow.kept h3 A ?_,I⟩
  cases D:v.ownBlock with
  | none=>exact .inl rfl
  | some x=>right; have:=(World.ownsRow.lt h3 x D).1; simp; omega
 rcases h with h | h
 · exact .inl (key _ h)
 · exact .inr (key _ h)
theorem oJ (l:Bs) (c:UInt8):Lib.byteCells (l ++ [c])=Lib.byteCells l ++ [.int .u8 c.toNat]:=by simp [Lib.byteCells]
theorem pm (l:Bs) (t:Bs):Lib.byteCells (l ++ t)=Lib.byteCells l ++ Lib.strCells (bs t):=by
 simp [Lib.byteCells,Lib.strCells,bs]
theorem Rd.belowB {w w':World} {b B:Nat} {s:S} {l:Bs} {ov:Value} (h:Rd w b s l ov) (A:Below B w w') (hlt:b<B):Rd w' b s l ov:=⟨h.box.below A hlt,h.suf⟩
theorem dT {w x w':World} {B:Nat} {row:Option Nat} (h:w.grownBy x row) (A:Below B x w') (hB:w.heap.size≤B):w.grownBy w' row :=
 ⟨A.os.trans h.os,A.tape.trans h.tape,A.output.trans h.output,Nat.le_trans h.size A.size,fun k hk D=>(A.block k (by omega)).trans (h.block k hk D)⟩
theorem sa {s:Bs} {e:Int} (h:bP s = .bad e):e=12∨e=13:=by
 have hn : ∀ A a d,cg A a d = .bad e→e=12∨e=13:=by
  intro A a d h;unfold cg at h;by_cases h1:8<aI (bE A) d
  · rw [if_pos h1] at h; cases h; exact .inl rfl
  · rw [if_neg h1] at h
    by_cases h2:aI (bE A) d=d.length
    · rw [if_pos h2] at h; cases h; exact .inr rfl
    · rw [if_neg h2] at h
      by_cases h3:aI (bE A) d=0∨d[aI (bE A) d]?≠some 59
      · rw [if_pos h3] at h; cases h; exact .inl rfl
      · rw [if_neg h3] at h
        split at h
        · cases h
        · cases h; exact .inl rfl
 cases s with
 | nil=>cases h; exact .inr rfl
 | cons c r =>
  simp only [bP] at h;by_cases I:c=38
  · rw [if_neg (by simp [I])] at h
    split at h
    · split at h
      · exact hn _ _ _ h
      · exact hn _ _ _ h
    · by_cases D:aI ca r=r.length
      · rw [if_pos D] at h
        split at h
        · cases h; exact .inr rfl
        · cases h; exact .inl rfl
      · rw [if_neg D] at h
        split at h
        · split at h
          · cases h
          · cases h; exact .inl rfl
        · cases h; exact .inl rfl
  · rw [if_pos I] at h; cases h; exact .inl rfl
structure ml (w wr:World) (b:Nat) (s:S) (ov:Value) (stop:UInt8) (l l' acc:Bs):Prop where
 rd:Rd wr b s l' ov
 grown:w.grownBy wr (some b)
 own:Lib.IsBuilder 260 5 w.heap.size w.heap.size (Lib.byteCells acc) wr
 spec:bA stop l=(bA stop l').map (acc ++ ·)
 len:acc.length+4*l'.length≤4*l.length
theorem ml.drewN {w wr:World} {b:Nat} {s:S} {ov:Value} {stop:UInt8} {l l' acc:Bs} (h:ml w wr b s ov stop l l' acc) (n:Nat):ml w (wr.drewN n) b s ov stop l l' acc :=
 ⟨h.rd.drewN n,h.grown.trans (aX _ _ _),h.own,h.spec,h.len⟩
theorem map_map {α β γ:Type} (x:cO α) (f:α→β) (g:β→γ):(x.map f).map g=x.map (fun a=>g (f a)):=by cases x <;> rfl
theorem ml.step {w wr O:World} {b:Nat} {s:S} {ov:Value} {stop:UInt8} {l U D acc A t:Bs} {v:Value} (h:ml w wr b s ov stop l U acc) (hb:Below w.heap.size wr O) (hlt:b<w.heap.size)
    (aa:Lib.IsBuilder 260 5 w.heap.size w.heap.size (Lib.byteCells A) O) (Z:D <:+ s.data.toList) (hv:v = .int .i64 (aB s D:Nat)) (J:bA stop U=(bA stop D).map (t ++ ·)) (I:A=acc ++ t) (ag:t.length+4*D.length≤4*U.length) :
    ml w (O.setCell ⟨b,1,none⟩ v) b s ov stop l D A:=by
 refine ⟨(h.rd.belowB hb hlt).move Z hv,(dT h.grown hb (Nat.le_refl _)).trans (ab _ b 1 _),sH aa (ab _ b 1 _) hlt,?_,?_⟩
 · rw [h.spec,J,map_map]
   subst I;cases bA stop D <;> simp [cO.map]
 · have:=h.len
   subst I;rw [List.length_append]; omega
theorem ml.less {w wr w':World} {b:Nat} {s:S} {ov:Value} {stop:UInt8} {l I D acc A:Bs} (h:ml w wr b s ov stop l I acc) (h':ml w w' b s ov stop l D A) (hlt:D.length<I.length):s.size - (fE w' b).toNat<s.size - (fE wr b).toNat:=by
 rw [h.rd.place,h'.rd.place];have:=aT h.rd.suf
 have:=aT h'.rd.suf
 omega
theorem mB (b:Nat) (s:S) (stop:UInt8) (l:Bs) (ov:Value) (w:World) (h:Rd w b s l ov) (hs:s.size≤1000000) :
    Calls Tryz.prog 156 #[.pointer (some ⟨b,0,none⟩),.int .u8 stop.toNat] w (zL (fun t=>.string (bs t)) b s ov w (bA stop l)):=by
 have I:=h.box.lt;have ef:l.length≤1000000:=by have:=aT h.suf; omega
 have hI:ml w (w.alloc (.cells #[.pointer none,.slice none 0 0] 260)) b s ov stop l l []:=by
  refine ⟨h.below ((Below.refl _ _).alloc (Nat.le_refl _) _),World.grownBy_alloc _ _ _,Lib.fresh_isBuilder _ _ _,?_,by simp⟩
  cases bA stop l <;> simp [cO.map]
 have HI:=zH hI;clear hI h;go_enter Tryz.func156,Tryz.ntmps156
 go_wp2
 go_loopw [] (fun wr=>∃ l' acc,ml w wr b s ov stop l l' acc) (fun wr=>s.size - (fE wr b).toNat)
 case atStart=>exact ⟨l,[],HI.out⟩
 case round =>
  clear HI;obtain ⟨l',acc,D⟩:=hrel;have A:=zH D;have c0:=D.rd.c0;have c1:=D.rd.c1;have f1:=D.rd.f1;have hlt:=D.rd.box.lt;have ei:=zH D.rd.place;have hp:=aT D.rd.suf;have a8:=D.grown.size;have eg:acc.length+4*l'.length≤4000000:=by have:=D.len; omega
  cases l' with
  | nil =>
   have HN:Hid (∀ n,Calls Tryz.prog 120 #[.pointer (some ⟨b,0,none⟩)] (wr.drewN n) fun e bl=>e = .returned (.bool true) ∧ ∃ m,bl=wr.drewN m):=fun n=>Qt.quiet (ch b s [] ov (wr.drewN n) (A.out.rd.drewN n));have d9:aB s []≤s.size:=by omega
   clear hp D;generalize bc:aB s []=p at *;clear bc;go_wp2
   go_quiet ((go_at_call 120; exact HN.out _))
   go_wp2_with fail
   refine (Tryz.Builder_String_any w.heap.size w.heap.size acc _ (A.out.drewN _).own a8).mono ?_
   rintro e w' ⟨rfl,hb⟩;go_wp2
   go_ret
   rw [A.out.spec];refine ⟨by simp; rfl,?_,?_⟩
   · exact (A.out.drewN _).rd.belowB hb I
   · exact dT (A.out.drewN nq).grown hb (Nat.le_refl _)
  | cons c r =>
   have HN:Hid (∀ n,Calls Tryz.prog 120 #[.pointer (some ⟨b,0,none⟩)] (wr.drewN n) fun e bl=>e = .returned (.bool false) ∧ ∃ m,bl=wr.drewN m):=fun n=>Qt.quiet (ch b s (c::r) ov (wr.drewN n) (A.out.rd.drewN n));have b7:=zH (fun n=>ff b s (c::r) ov (wr.drewN n) (A.out.rd.drewN n))
   have a5:Hid (∀ w,Calls Tryz.prog 191 #[.string (bs (c::r))] w fun e w'=>e = .returned (eJ (bP (c::r)))∧Below w.heap.size w w'):=fun w=>by
    have:=Ah (bs (c::r)) w (by rw [ax]; omega)
    rw [cH] at this; exact this
   have dg:=ky D.rd.suf;have hg:=qJ D.rd.suf dg;have HC:=zH (fU D.rd.suf);have HS:=zH (dP D.rd.suf);have HF:=zH D.rd.suf;have b9:=zH hp;clear hp D;generalize bc:aB s (c::r)=p at *;have a6:=zH bc;clear bc;have d7:(p:Int)<(s.size:Int):=by omega
   have d8:(p:Int)+1≤1000000:=by omega
   have HG:=zH hg;by_cases al:c=stop
   · have e1:(((s[p].toNat:Nat):Int) != ((stop.toNat:Nat):Int))=false:=by rw [hg,al]; simp
     have ag:=zH al;clear al hg;go_wp2
     go_quiet ((go_at_call 120; exact HN.out _))
     go_wp2_with fail
     refine (Tryz.Builder_String_any w.heap.size w.heap.size acc _ (A.out.drewN _).own a8).mono ?_
     rintro e w' ⟨rfl,hb⟩;go_wp2
     go_ret
     rw [A.out.spec];have hO:bA stop (c::r) = .ok [] (c::r):=by rw [ag.out]; simp [bA,bu]
     rw [hO];refine ⟨by simp; rfl,?_,?_⟩
     · exact (A.out.drewN _).rd.belowB hb I
     · exact dT (A.out.drewN nq).grown hb (Nat.le_refl _)
   · have e1:(((s[p].toNat:Nat):Int) != ((stop.toNat:Nat):Int))=true:=by
      rw [hg,bne_iff_ne]; intro e; exact al (UInt8.toNat_inj.1 (by omega))
     have ag:=zH al;clear al;by_cases a4:c=38
     · have e2:(((s[p].toNat:Nat):Int) == 38)=true:=by rw [hg,a4]; decide
       have a7:=zH a4;clear a4 hg;cases O:bP (c::r) with
       | bad x =>
        have hx:=sa O;have e3:(x != 0)=true:=by rw [bne_iff_ne]; omega
        have HX:=zH O;rw [O] at a5;clear O hx;simp only [eJ] at a5;go_wp2
        go_quiet ((go_at_call 120; exact HN.out _))
        go_wp2
        go_quiet (fail)
        go_wp2_with fail
        refine (b7.out _).mono ?_
        rintro e w' ⟨rfl,n2,rfl⟩;go_wp2_with fail
        refine (a5.out _).mono ?_
        rintro e w3 ⟨rfl,ad⟩;have b0:=(A.out.rd.drewN _).below ad;have c1:=b0.c1;rw [a6.out] at c1;have d0:=b0.box.lt;clear b0;go_wp2_with fail
        refine (cY x p _).mono ?_
        rintro e w' ⟨rfl,rfl⟩;go_wp2
        rw [A.out.spec];have hO:bA stop (c::r) = .bad x (c::r):=by simp only [bA,bu]; rw [if_neg ag.out,if_pos a7.out,HX.out]
        rw [hO];exact ⟨rfl,by rw [a6.out],dT (A.out.drewN _).grown ad A.out.grown.size⟩
       | ok t n =>
        have HX:=zH O;rw [O] at a5;obtain ⟨ed,dl⟩:=lj O;have d5:=mu O;have b8:=zH dl;have d6:(p:Int)+(n:Int)≤1000000:=by have:=b9.out; omega
        clear O;simp only [eJ] at a5;go_wp2
        go_quiet ((go_at_call 120; exact HN.out _))
        go_wp2
        go_quiet (fail)
        go_wp2_with fail
        refine (b7.out _).mono ?_
        rintro e w' ⟨rfl,n2,rfl⟩;go_wp2_with fail
        refine (a5.out _).mono ?_
        rintro e w3 ⟨rfl,ad⟩;have bo:Below w.heap.size wr w3:=(aY (Below.refl w.heap.size wr) _).trans (ad.mono a8);have bg:=sH (A.out.drewN _).own (Aw ad (some b)) I;have cm:w.heap.size≤w3.heap.size:=Nat.le_trans a8 ad.size;clear ad;go_wp2_with fail
        refine (mM w.heap.size w.heap.size (Lib.byteCells acc) (bs t) w3 bg (by rw [ax]; simp [Lib.byteCells]; omega) cm).mono ?_
        rintro e w4 ⟨rfl,U,a9⟩;have J:=bo.trans a9;have Z:=A.out.rd.belowB J I;have c1:=Z.c1;have f1:=Z.f1;rw [a6.out] at c1;have co:=Z.box.lt;have b4:=zH J;have b2:=zH U;clear Z a9 bo bg U J;go_wp2
        have b6:(c::r).drop n <:+ s.data.toList:=(List.drop_suffix _ _).trans HF.out
        have dk:aB s ((c::r).drop n)=p+n:=by
         have h1:=aT b6;have h2:=b9.out;have h3:=b8.out;rw [List.length_drop] at h1;omega
        have aa:ml w (w4.setCell ⟨b,1,none⟩ (.int .i64 ((p:Int)+(n:Int)))) b s ov stop l ((c::r).drop n) (acc ++ t):=by
         refine A.out.step (t:=t) b4.out I (.inr (by rw [pm]; exact b2.out)) b6 (by rw [dk]; rfl) ?_ rfl ?_
         · simp only [bA,bu]; rw [if_neg ag.out,if_pos a7.out,HX.out]
           simp only [];rw [jw];obtain ⟨k,rfl⟩ : ∃ k,n=k+1:=⟨n - 1,by omega⟩;rfl
         · have h3:=b8.out
           rw [List.length_drop]; omega
        go_roundw
        case rel=>exact ⟨_,_,aa⟩
        case measure=>exact A.out.less aa (by rw [List.length_drop]; simp only [List.length_cons]; omega)
     · have e2:(((s[p].toNat:Nat):Int) == 38)=false:=by
        rw [hg,beq_eq_false_iff_ne]; intro e; exact a4 (UInt8.toNat_inj.1 (by simpa using (by omega:c.toNat=38)))
       have a7:=zH a4;clear a4;by_cases a0:c=60
       · have e3:(((s[p].toNat:Nat):Int) == 60)=true:=by rw [hg,a0]; decide
         have b5:=zH a0;clear a0 hg;go_wp2
         go_quiet ((go_at_call 120; exact HN.out _))
         go_wp2
         go_quiet (fail)
         go_wp2_with fail
         refine (cY 10 p _).mono ?_
         rintro e w' ⟨rfl,rfl⟩;go_wp2
         rw [A.out.spec];have hO:bA stop (c::r) = .bad 10 (c::r):=by simp only [bA,bu]; rw [if_neg ag.out,if_neg a7.out,if_pos (.inl b5.out)]
         rw [hO];exact ⟨rfl,by rw [a6.out],(A.out.drewN _).grown⟩
       · have e3:(((s[p].toNat:Nat):Int) == 60)=false:=by
          rw [hg,beq_eq_false_iff_ne]; intro e; exact a0 (UInt8.toNat_inj.1 (by simpa using (by omega:c.toNat=60)))
         have b5:=zH a0;clear a0 hg;cases ah:cE c
         · have HT:Hid (∀ w,Calls Tryz.prog 186 #[.int .u8 s[p].toNat] w fun e w'=>e = .returned (.bool false)∧w=w'):=fun w=>by
            have:=fa s[p] w
            rw [show cE s[p]=false by rw [HG.out,ah]] at this; exact this
           have b3:=zH ah;clear ah;go_wp2
           go_quiet ((go_at_call 120; exact HN.out _))
           go_wp2
           go_quiet (fail)
           go_wp2_with fail
           refine (HT.out _).mono ?_
           rintro e w' ⟨rfl,rfl⟩;go_wp2_with fail
           refine (cY 10 p _).mono ?_
           rintro e w' ⟨rfl,rfl⟩;go_wp2
           rw [A.out.spec];have hO:bA stop (c::r) = .bad 10 (c::r):=by simp only [bA,bu]; rw [if_neg ag.out,if_neg a7.out,if_pos (.inr b3.out)]
           rw [hO];exact ⟨rfl,by rw [a6.out],(A.out.drewN _).grown⟩
         · have HT:Hid (∀ w,Calls Tryz.prog 186 #[.int .u8 s[p].toNat] w fun e w'=>e = .returned (.bool true)∧w=w'):=fun w=>by
            have:=fa s[p] w
            rw [show cE s[p]=true by rw [HG.out,ah]] at this; exact this
           have b3:=zH ah;clear ah;go_wp2
           go_quiet ((go_at_call 120; exact HN.out _))
           go_wp2
           go_quiet (fail)
           go_wp2_with fail
           refine (HT.out _).mono ?_
           rintro e w' ⟨rfl,rfl⟩;go_wp2_with fail
           refine (oQ w.heap.size w.heap.size (Lib.byteCells acc) s[p].toNat _ (A.out.drewN _).own (by simp [Lib.byteCells]; omega) a8).mono ?_
           rintro e w4 ⟨rfl,U,a9⟩;have J:=(aY (Below.refl w.heap.size wr) _).trans a9;have Z:=A.out.rd.belowB J I;have c1:=Z.c1;have f1:=Z.f1;rw [a6.out] at c1;have co:=Z.box.lt;have b4:=zH J;have b2:=zH U;clear Z a9 U J;go_wp2
           have aa:ml w (w4.setCell ⟨b,1,none⟩ (.int .i64 ((p:Int)+1))) b s ov stop l r (acc ++ [c]):=by
            refine A.out.step (t:=[c]) b4.out I (.inr (by have h:=b2.out; rw [HG.out] at h; rw [oJ]; exact h)) HS.out (by rw [HC.out]; rfl) ?_ rfl ?_
            · simp only [bA,bu]; rw [if_neg ag.out,if_neg a7.out,if_neg (by rintro (h | h); exact b5.out h; rw [b3.out] at h; cases h)]; rfl
            · simp only [List.length_cons,List.length_nil]; omega
           go_roundw
           case rel=>exact ⟨_,_,aa⟩
           case measure=>exact A.out.less aa (by simp)
theorem vD (b:Nat) (s:S) (l:Bs) (ov:Value) (w:World) (h:Rd w b s l ov) (hs:s.size≤1000000) :
    Calls Tryz.prog 190 #[.pointer (some ⟨b,0,none⟩)] w (zL (fun t=>.string (bs t)) b s ov w (eu l)):=by
 have c0:=h.c0;have c1:=h.c1;have f1:=h.f1;have hlt:=h.box.lt;have HR:=zH h;cases l with
 | nil =>
  have HN:Hid (Calls Tryz.prog 120 #[.pointer (some ⟨b,0,none⟩)] w (Qt (.bool true) w)):=ch b s [] ov w h;clear h;go_enter Tryz.func190,Tryz.ntmps190
  go_wp2_with fail
  refine HN.out.mono ?_
  rintro e w' ⟨rfl,n,rfl⟩;go_wp2_with fail
  refine (cY _ _ _).mono ?_
  rintro e w' ⟨rfl,rfl⟩;go_wp2
  exact ⟨rfl,rfl,aX w n _⟩
 | cons c r =>
  have HN:Hid (Calls Tryz.prog 120 #[.pointer (some ⟨b,0,none⟩)] w (Qt (.bool false) w)):=ch b s (c::r) ov w h;have a5:=ky h.suf;have D:=qJ h.suf a5;have HC:=zH (fU h.suf);have HS:=zH (dP h.suf);clear h;generalize ag:aB s (c::r)=p at *;have ba:=zH ag;clear ag;have b6:(p:Int)<(s.size:Int):=by omega
  have b7:(p:Int)+1≤1000000:=by omega
  have HG:=zH D;by_cases J:c=34∨c=39
  rotate_left
  · have e1:(((s[p].toNat:Nat):Int) != 34)=true:=by
     rw [D,bne_iff_ne]; intro e; exact J (.inl (UInt8.toNat_inj.1 (by simpa using (by omega:c.toNat=34))))
    have e2:(((s[p].toNat:Nat):Int) != 39)=true:=by
     rw [D,bne_iff_ne]; intro e; exact J (.inr (UInt8.toNat_inj.1 (by simpa using (by omega:c.toNat=39))))
    have Z:Hid (eu (c::r) = .bad 10 (c::r)):=by show _=_; simp only [eu]; rw [if_neg J]
    clear J D;go_enter Tryz.func190,Tryz.ntmps190
    go_wp2_with fail
    refine HN.out.mono ?_
    rintro e w' ⟨rfl,n,rfl⟩;go_wp2
    go_quiet (fail)
    go_wp2_with fail
    refine (cY 10 p _).mono ?_
    rintro e w' ⟨rfl,rfl⟩;go_wp2
    rw [Z.out];exact ⟨rfl,by rw [ba.out],aX w _ _⟩
  · have hv:((((s[p].toNat:Nat):Int) != 34)=false)∨((((s[p].toNat:Nat):Int) != 34)=true∧(((s[p].toNat:Nat):Int) != 39)=false):=by
     rcases J with h | h
     · left; rw [D,h]; decide
     · right; rw [D,h]; decide
    have Z:Hid (eu (c::r)=(bA c r).bind fun s r=>match r with
     | []=>.bad 13 []
     | _::r'=>.ok s r'):=by show _=_; simp only [eu]; rw [if_pos J]; rfl
    have bb:Hid (∀ w,Rd w b s r ov→Calls Tryz.prog 156 #[.pointer (some ⟨b,0,none⟩),.int .u8 s[p].toNat] w (zL (fun t=>.string (bs t)) b s ov w (bA c r))):=fun w h=>by
     have:=mB b s s[p] r ov w h hs
     rw [show bA s[p] r=bA c r by rw [D]] at this; exact this
    clear J D;have U : ∀ n,Rd ((w.drewN n).setCell ⟨b,1,none⟩ (.int .i64 ((p:Int)+1))) b s r ov:=fun n=>(HR.out.drewN n).move HS.out (by rw [HC.out]; rfl);have HM:=zH U;clear U;rcases hv with e1 | ⟨e1,e2⟩
    all_goals
     go_enter Tryz.func190,Tryz.ntmps190
     go_wp2_with fail
     refine HN.out.mono ?_
     rintro e w' ⟨rfl,n,rfl⟩;go_wp2
     go_quiet (fail)
     go_wp2_with fail
     refine Calls.world ?_
     intro W hW;have hR:Rd W b s r ov:=by rw [hW]; exact HM.out _
     have hG:Hid (w.grownBy W (some b)):=by rw [hW]; exact (aX w _ _).trans (ab _ b 1 _)
     clear hW c0 c1 f1 e1;have I:=bb.out W hR;cases O:bA c r with
     | bad x r' =>
      rw [O] at I;have HL:=zH O;clear O;refine I.mono ?_
      intro e w' hO;obtain ⟨rfl,D⟩:mU x s r' b W e w':=hO;go_wp2
      rw [Z.out,HL.out];exact ⟨rfl,rfl,hG.out.trans D⟩
     | ok t r' =>
      rw [O] at I;have HL:=zH O;clear O;refine I.mono ?_
      intro e w2 hO;obtain ⟨rfl,A,D⟩:ft (.string (bs t)) b s r' ov W e w2:=hO;have ah:=zH (hG.out.trans D);have c1:=A.c1;have f1:=A.f1;have b0:=A.box.lt;have a9:=zH A;clear hR D;cases r' with
      | nil =>
       have aa:Hid (Calls Tryz.prog 120 #[.pointer (some ⟨b,0,none⟩)] w2 (Qt (.bool true) w2)):=ch b s [] ov w2 A;clear A;go_wp2_with fail
       refine aa.out.mono ?_
       rintro e w' ⟨rfl,n,rfl⟩;go_wp2_with fail
       refine (cY _ _ _).mono ?_
       rintro e w' ⟨rfl,rfl⟩;go_wp2
       rw [Z.out,HL.out];exact ⟨rfl,rfl,ah.out.trans (aX _ _ _)⟩
      | cons x r2 =>
       have aa:Hid (Calls Tryz.prog 120 #[.pointer (some ⟨b,0,none⟩)] w2 (Qt (.bool false) w2)):=ch b s (x::r2) ov w2 A;have bo:=ky A.suf;have bc:=zH (fU A.suf);have a8:=zH (dP A.suf);clear A;generalize aB s (x::r2)=p2 at *;have bv:(p2:Int)+1≤1000000:=by omega
       go_wp2_with fail
       refine aa.out.mono ?_
       rintro e w' ⟨rfl,n,rfl⟩;go_wp2
       go_ret
       rw [Z.out,HL.out];exact ⟨rfl,(a9.out.drewN _).move a8.out (v:=.int .i64 ((p2:Int)+1)) (by rw [bc.out]; rfl),(ah.out.trans (aX _ _ _)).trans (ab _ b 1 _)⟩
theorem iD (b:Nat) (s:S) (l:Bs) (ov:Value) (w:World) (h:Rd w b s l ov) (hs:s.size≤1000000) :
    Calls Tryz.prog 151 #[.pointer (some ⟨b,0,none⟩)] w (Qt (.bool (da l)) w):=by
 have A:=zH (ff b s l ov w h);have ag:l.length≤1000000:=by have:=aT h.suf; omega
 have hz:=ax l;have J:Hid ((bs l).data.toList=l):=cH l;clear h;generalize bs l=u at *;have ad:u.size≤1000000:=by omega
 have HZ:=zH hz;cases hp:nC.isPrefixOf l
 · have I:Hid ((⟨#[60,63,120,109,108]⟩:S).data.toList.isPrefixOf u.data.toList=false):=by rw [J.out]; exact hp
   have D:Hid (da l=false):=by show _=_; unfold da; rw [hp]; rfl
   clear hp hz;go_enter Tryz.func151,Tryz.ntmps151
   go_wp2_with fail
   refine A.out.mono ?_
   rintro e w' ⟨rfl,n,rfl⟩;go_wp2_with fail
   refine (bL _ _ _).mono ?_
   rintro e w' ⟨rfl,rfl⟩;rw [I.out];go_wp2
   go_ret
   exact ⟨by rw [D.out]; rfl,⟨_,rfl⟩⟩
 · have I:Hid ((⟨#[60,63,120,109,108]⟩:S).data.toList.isPrefixOf u.data.toList=true):=by rw [J.out]; exact hp
   by_cases h5:5<u.size
   · have Z:(5:Int)<(u.size:Int):=by omega
     have O:l[5]? = some u[5]:=by
      have:=congrArg (·[0]?) (bW u 5 h5)
      rw [J.out] at this; simpa using this
     have D:Hid (da l=(cBlank u[5] || u[5] == 63)):=by show _=_; unfold da; rw [hp,O]; rfl
     clear hp hz O;cases U:cBlank u[5]
     all_goals
      have HI:=zH U;clear U;go_enter Tryz.func151,Tryz.ntmps151
      go_wp2_with fail
      refine A.out.mono ?_
      rintro e w' ⟨rfl,n,rfl⟩;go_wp2_with fail
      refine (bL _ _ _).mono ?_
      rintro e w' ⟨rfl,rfl⟩;rw [I.out];go_wp2_with (go_at_call 188; refine (fj _ _).mono ?_; rintro e w' ⟨rfl,rfl⟩; rw [HI.out])
      go_ret
      refine ⟨aD ?_,⟨_,rfl⟩⟩
      rw [D.out,HI.out]
     · simp only [Bool.false_or]
       rw [Bool.eq_iff_iff]; simp [← UInt8.toNat_inj]; omega
     · rfl
   · have Z : ¬ (5:Int)<(u.size:Int):=by omega
     have D:Hid (da l=false):=by show _=_; unfold da; rw [hp,List.getElem?_eq_none (by omega)]; rfl
     clear hp hz;go_enter Tryz.func151,Tryz.ntmps151
     go_wp2_with fail
     refine A.out.mono ?_
     rintro e w' ⟨rfl,n,rfl⟩;go_wp2_with fail
     refine (bL _ _ _).mono ?_
     rintro e w' ⟨rfl,rfl⟩;rw [I.out];go_wp2
     go_ret
     exact ⟨by rw [D.out]; rfl,⟨_,rfl⟩⟩
def gJ (a:eE):List Value:=[.string (bs a.1),.string (bs a.2)]
theorem nj (a:eE):(gJ a).length=2:=rfl
theorem AU {a:eE} : ∀ u ∈ gJ a,u.oneCell'=true:=by intro u A; simp [gJ] at A; rcases A with rfl | rfl <;> rfl
theorem wP:(Tryz.prog.info? 166).map (fun i=>(i.zero,i.size,i.bytes))=some (some (.agg #[.string ⟨#[]⟩,.string ⟨#[]⟩]),2,32):=by kernel_rfl
theorem mp (l:Bs):kT l=true↔((aC l).length=l.length∨aC l=[]∨(∃ r,aC l=47::r) ∨ ∃ r,aC l=62::r):=by
 unfold kT;cases aC l with
 | nil=>simp
 | cons c r=>simp [or_assoc]
theorem nT {e:Int} {l A r:Bs} (h:dB e l = .ok A r):r.length<l.length:=by
 cases l with
 | nil=>cases h
 | cons c l =>
  simp only [dB] at h;split at h
  · cases h
  · cases h; rw [List.length_drop]; simp only [List.length_cons]; omega
theorem uB {acc:List eE} {l:Bs} {a:eE} {r:Bs} (h:ec acc l = .ok a r):r.length<l.length:=by
 unfold ec at h;cases hn:dB 10 l with
 | bad e D=>rw [hn] at h; cases h
 | ok nm D =>
  rw [hn] at h;have h1:=nT hn;simp only [cO.bind] at h;split at h
  · cases h
  · have h2:=fN 61 (aC D)
    have h0:=dm D;cases J:dd 61 (aC D) with
    | bad e A=>rw [J] at h; cases h
    | ok u A =>
     rw [J] at h h2;have Z:A.length≤(aC D).length:=List.IsSuffix.length_le h2;have h3:=nt (aC A);have h4:=dm A;simp only at h;cases O:eu (aC A) with
     | bad e I=>rw [O] at h; cases h
     | ok v I =>
      rw [O] at h h3;have U:I.length≤(aC A).length:=List.IsSuffix.length_le h3;cases h
      omega
def B1 (b:Nat) (s:S) (ov:Value) (w:World):cO (List eE)→Ending→World→Prop
 | .ok a r=>fun e w'=>∃ v,ft v b s r ov w e w'∧aj w.heap.size 166 2 gJ w' v a
 | .bad e r=>mU e s r b w
structure Br (w wr:World) (b:Nat) (s:S) (ov v:Value) (l l':Bs) (acc:List eE) (f:Nat):Prop where
 rd:Rd wr b s l' ov
 grown:w.grownBy wr (some b)
 own:aj w.heap.size 166 2 gJ wr v acc
 spec:iM l=et (f+1) acc l'
 fuel:l'.length≤f
 len:acc.length+l'.length≤l.length
theorem qv (b:Nat) (s:S) (l:Bs) (ov:Value) (w:World) (h:Rd w b s l ov) (hs:s.size≤1000000) :
    Calls Tryz.prog 155 #[.pointer (some ⟨b,0,none⟩)] w (B1 b s ov w (iM l)):=by
 have O:=h.box.lt;have hS:l.length≤1000000:=by have:=aT h.suf; omega
 have hI:Br w w b s ov (.slice none 0 0) l l [] l.length:=⟨h,World.grownBy.refl _ _,aj.nil,rfl,Nat.le_refl _,by simp⟩;have HI:=zH hI;clear hI h;go_enter Tryz.func155,Tryz.ntmps155
 go_wp2
 go_loopw [2] (fun v wr=>∃ l' acc f,Br w wr b s ov v l l' acc f) (fun _ wr=>s.size - (fE wr b).toNat)
 case atStart=>exact ⟨l,[],l.length,HI.out⟩
 case round =>
  clear HI;obtain ⟨l',acc,f,hL⟩:=hrel;have HL:=zH hL;have hR:=hL.grown.size;have hB:=zH (gj b s l' ov wr hL.rd hs);have gv:=dm l';have hK:acc.length+l'.length≤1000000:=by have:=hL.len; omega
  obtain ⟨ao,cap,rfl⟩:=hL.own.shape;clear hL;go_wp2_with fail
  refine hB.out.mono ?_
  intro e w1 U;obtain ⟨rfl,D,c9⟩:=U;have ah:=zH (HL.out.grown.trans c9);have bc:=zH (HL.out.own.keptR c9 O);have bg:=zH D;clear hB c9;have hF:=ah.out.size;by_cases J:kT l'=true
  · have d0:=zH J
    rw [mp] at J;have ag:iM l = .ok acc (aC l'):=by rw [HL.out.spec]; simp only [et]; rw [if_pos d0.out]
    have HF:=zH ag;clear ag;by_cases h0:(aC l').length=l'.length
    · have e0:(((l'.length - (aC l').length:Nat):Int) == 0)=true:=beq_iff_eq.2 (by omega)
      clear J D h0;go_wp2
      go_ret
      rw [HF.out];exact ⟨_,⟨rfl,bg.out,ah.out⟩,bc.out⟩
    · have e0:(((l'.length - (aC l').length:Nat):Int) == 0)=false:=beq_eq_false_iff_ne.2 (by omega)
      rcases J with h | h | ⟨r,h⟩ | ⟨r,h⟩
      · exact absurd h h0
      · have HN:Hid (Calls Tryz.prog 120 #[.pointer (some ⟨b,0,none⟩)] w1 (Qt (.bool true) w1)):=by
         have:=ch b s (aC l') ov w1 D; rw [h] at this; exact this
        clear h D h0;go_wp2_with fail
        refine HN.out.mono ?_
        rintro e w' ⟨rfl,n,rfl⟩;go_wp2
        go_ret
        rw [HF.out];exact ⟨_,⟨rfl,bg.out.drewN n,ah.out.trans (aX _ n _)⟩,bc.out⟩
      · have HN:Hid (Calls Tryz.prog 120 #[.pointer (some ⟨b,0,none⟩)] w1 (Qt (.bool false) w1)):=by
         have:=ch b s (aC l') ov w1 D; rw [h] at this; exact this
        have HA:Hid (∀ n,Calls Tryz.prog 149 #[.pointer (some ⟨b,0,none⟩),.string ⟨#[47]⟩] (w1.drewN n) (Qt (.bool true) (w1.drewN n))):=fun n=>by
         have:=bQ b s (aC l') ov ⟨#[47]⟩ (w1.drewN n) (D.drewN n); rw [h,iK] at this; simpa [List.isPrefixOf] using this
        clear h D h0;go_wp2_with fail
        refine HN.out.mono ?_
        rintro e w' ⟨rfl,n,rfl⟩;go_wp2_with fail
        refine (HA.out _).mono ?_
        rintro e w' ⟨rfl,n2,rfl⟩;go_wp2
        go_ret
        rw [HF.out];exact ⟨_,⟨rfl,bg.out.drewN _,ah.out.trans (aX _ _ _)⟩,bc.out⟩
      · have HN:Hid (Calls Tryz.prog 120 #[.pointer (some ⟨b,0,none⟩)] w1 (Qt (.bool false) w1)):=by
         have:=ch b s (aC l') ov w1 D; rw [h] at this; exact this
        have HA:Hid (∀ n,Calls Tryz.prog 149 #[.pointer (some ⟨b,0,none⟩),.string ⟨#[47]⟩] (w1.drewN n) (Qt (.bool false) (w1.drewN n))):=fun n=>by
         have:=bQ b s (aC l') ov ⟨#[47]⟩ (w1.drewN n) (D.drewN n); rw [h,iK] at this; simpa [List.isPrefixOf] using this
        have b2:Hid (∀ n,Calls Tryz.prog 149 #[.pointer (some ⟨b,0,none⟩),.string ⟨#[62]⟩] (w1.drewN n) (Qt (.bool true) (w1.drewN n))):=fun n=>by
         have:=bQ b s (aC l') ov ⟨#[62]⟩ (w1.drewN n) (D.drewN n); rw [h,iK] at this; simpa [List.isPrefixOf] using this
        clear h D h0;go_wp2_with fail
        refine HN.out.mono ?_
        rintro e w' ⟨rfl,n,rfl⟩;go_wp2_with fail
        refine (HA.out _).mono ?_
        rintro e w' ⟨rfl,n2,rfl⟩;go_wp2_with fail
        refine (b2.out _).mono ?_
        rintro e w' ⟨rfl,n3,rfl⟩;go_wp2
        go_ret
        rw [HF.out];exact ⟨_,⟨rfl,bg.out.drewN _,ah.out.trans (aX _ _ _)⟩,bc.out⟩
  · have d0:=zH J
    rw [mp] at J
    obtain ⟨h0,c,r,bv,e5,e4⟩ : ¬ (aC l').length=l'.length ∧ ∃ c r,aC l'=c::r∧c≠47∧c≠62:=by
     cases hb:aC l' with
     | nil=>exact absurd (.inr (.inl hb)) J
     | cons c r =>
      refine ⟨fun e=>J (.inl (by rw [hb]; exact e)),c,r,rfl,fun e=>J (.inr (.inr (.inl ⟨r,by rw [hb,e]⟩))),fun e=>J (.inr (.inr (.inr ⟨r,by rw [hb,e]⟩)))⟩
    have e0:(((l'.length - (aC l').length:Nat):Int) == 0)=false:=beq_eq_false_iff_ne.2 (by omega)
    have HN:Hid (Calls Tryz.prog 120 #[.pointer (some ⟨b,0,none⟩)] w1 (Qt (.bool false) w1)):=by
     have:=ch b s (aC l') ov w1 D; rw [bv] at this; exact this
    have HA:Hid (∀ n,Calls Tryz.prog 149 #[.pointer (some ⟨b,0,none⟩),.string ⟨#[47]⟩] (w1.drewN n) (Qt (.bool false) (w1.drewN n))):=fun n=>by
     have:=bQ b s (aC l') ov ⟨#[47]⟩ (w1.drewN n) (D.drewN n)
     have hx:((47:UInt8) == c)=false:=by simpa using Ne.symm e5
     rw [bv,iK] at this; simpa [List.isPrefixOf,hx] using this
    have b2:Hid (∀ n,Calls Tryz.prog 149 #[.pointer (some ⟨b,0,none⟩),.string ⟨#[62]⟩] (w1.drewN n) (Qt (.bool false) (w1.drewN n))):=fun n=>by
     have:=bQ b s (aC l') ov ⟨#[62]⟩ (w1.drewN n) (D.drewN n)
     have hx:((62:UInt8) == c)=false:=by simpa using Ne.symm e4
     rw [bv,iK] at this; simpa [List.isPrefixOf,hx] using this
    have ag:iM l=(match ec acc (aC l') with
        | .ok a r=>et f (acc ++ [a]) r
        | .bad e r=>.bad e r):=by rw [HL.out.spec]; simp only [et]; rw [if_neg d0.out]; rfl
    have HF:=zH ag;have hv:(aC l').length<l'.length:=by omega
    clear ag J bv h0 e5 e4 gv;have c1:=D.c1;have hJ:=D.box.lt;clear D;generalize aC l'=l1 at *;go_wp2_with fail
    refine HN.out.mono ?_
    rintro e w' ⟨rfl,n,rfl⟩;go_wp2_with fail
    refine (HA.out _).mono ?_
    rintro e w' ⟨rfl,n2,rfl⟩;go_wp2_with fail
    refine (b2.out _).mono ?_
    rintro e w' ⟨rfl,n3,rfl⟩;have A:=hD b s 10 l1 ov (w1.drewN (n+n2+n3)) (bg.out.drewN _) hs;cases a6:dB 10 l1 with
    | bad x r1 =>
     rw [a6] at A;have al:=zH a6;clear a6;have I:=zH A;clear A;go_wp2_with fail
     refine I.out.mono ?_
     intro e w' U;obtain ⟨rfl,hg⟩:mU x s r1 b _ e w':=U;go_wp2
     rw [HF.out,show ec acc l1 = .bad x r1 by unfold ec; rw [al.out]; rfl];exact ⟨rfl,rfl,(ah.out.trans (aX _ _ _)).trans hg⟩
    | ok Z r1 =>
     rw [a6] at A;have al:=zH a6;clear a6;have I:=zH A;clear A;go_wp2_with fail
     refine I.out.mono ?_
     intro e w2 U;obtain ⟨rfl,eg,c8⟩:ft (.string (bs Z)) b s r1 ov _ e w2:=U;have dn:=zH ((ah.out.trans (aX _ _ _)).trans c8);have el:=zH ((bc.out.keptR (aX w1 (n+n2+n3) (some b)) O).keptR c8 O);have e6:=zH eg;have b8:=dn.out.size;have d8:=zH (el.out.slice nj);clear eg c8 c1 I HN HA b2;have hH:=e6.out.box.lt;go_wp2
     go_loopw [7,40] (fun _ i wr=>∃ j:Nat,j≤acc.length∧i = .int .i64 j∧Below w2.heap.size w2 wr∧Hid (acc.any (fun a=>a.1 == Z)=(acc.drop j).any (fun a=>a.1 == Z))) (fun _ i _=>acc.length - (intOf i).toNat)
     case atStart=>exact ⟨0,Nat.zero_le _,rfl,Below.refl _ _,rfl⟩
     case round =>
      obtain ⟨j,hj,rfl,hb,H⟩:=hrel;have b7:=hb.size;by_cases d6:j<acc.length
      · obtain ⟨bb,oo,rfl,hY,a9⟩:=(d8.out.below hb).at d6
        have g0:wr.cell? ⟨bb,oo+j*2,none⟩=some (.string (bs acc[j].1)):=by simpa using a9 0 _ rfl
        have g1:wr.cell? ⟨bb,oo+j*2+1,none⟩=some (.string (bs acc[j].2)):=a9 1 _ rfl;have HD:=zH (um d6);clear a9;generalize acc[j]=a at *;obtain ⟨a1,a2⟩:=a;simp only at g0 g1;by_cases ha:a1=Z
        · have hq:((bs a1).toList == (bs Z).toList)=true:=by rw [ha]; simp
          have a7:ec acc l1 = .bad 15 l1:=by
           unfold ec; rw [al.out]; simp only [cO.bind];rw [if_pos (by rw [H.out,HD.out]; simp [ha])]
          have d3:=zH a7;clear a7 ha;generalize bs a1=y1 at *;generalize bs a2=y2 at *;go_wp2_with fail
          refine (cY 15 (aB s l1) _).mono ?_
          rintro e w' ⟨rfl,rfl⟩;go_wp2
          rw [HF.out,d3.out];exact ⟨rfl,rfl,dT dn.out (hb.alloc b7 _) b8⟩
        · have hq:((bs a1).toList == (bs Z).toList)=false:=by
           rw [ByteArray.toList_eq,ByteArray.toList_eq,cH,cH]; simpa using ha
          have gc:Hid (acc.any (fun a=>a.1 == Z)=(acc.drop (j+1)).any (fun a=>a.1 == Z)):=by
           have hx:(a1 == Z)=false:=by simpa using ha
           show _=_
           rw [H.out,HD.out]; simp only [List.any_cons,hx,Bool.false_or]
          clear ha;generalize bs a1=y1 at *;generalize bs a2=y2 at *;go_wp2
          go_roundw
          case rel=>exact ⟨j+1,by omega,by go_num,hb.alloc b7 _,gc⟩
          case measure=>simp [intOf]; omega
      · have d5:acc.any (fun a=>a.1 == Z)=false:=by rw [H.out,List.drop_of_length_le (by omega)]; rfl
        have d2:=zH d5;clear d5;have ef:=e6.out.below hb;have g7:=zH (el.out.below hb);have hc:=zH (dT dn.out hb b8);have eV:=zH (gj b s r1 ov wr ef hs);have hX:r1.length<l1.length:=nT al.out;have hW:=dm r1;clear ef hb H d8 hj;go_wp2_with fail
        refine eV.out.mono ?_
        intro e w4 U;obtain ⟨rfl,dl,cT⟩:=U;have ex:=zH (hc.out.trans cT);have g6:=zH (g7.out.keptR cT O);clear cT eV;have A:=fP b s 61 (aC r1) ov w4 dl hs;cases ad:dd 61 (aC r1) with
        | bad x r2 =>
         rw [ad] at A;have b0:=zH ad;clear ad;have I:=zH A;clear A dl;go_wp2_with fail
         refine I.out.mono ?_
         intro e w' U;obtain ⟨rfl,hg⟩:mU x s r2 b _ e w':=U;go_wp2
         rw [HF.out,show ec acc l1 = .bad x r2 by unfold ec; rw [al.out]; simp only [cO.bind]; rw [if_neg (by rw [d2.out]; simp),b0.out]];exact ⟨rfl,rfl,ex.out.trans hg⟩
        | ok u r2 =>
         rw [ad] at A;have b0:=zH ad
         have hV:r2.length≤(aC r1).length:=by
          have:=fN 61 (aC r1); rw [ad] at this; exact List.IsSuffix.length_le this
         have hU:=dm r2;clear ad;have I:=zH A;clear A dl;go_wp2_with fail
         refine I.out.mono ?_
         intro e w5 U;obtain ⟨rfl,ed,co⟩:ft (.tuple #[]) b s r2 ov w4 e w5:=U;have g9:=zH (ex.out.trans co);have g5:=zH (g6.out.keptR co O);have eU:=zH (gj b s r2 ov w5 ed hs);clear co I ed;go_wp2_with fail
         refine eU.out.mono ?_
         intro e w6 U;obtain ⟨rfl,dk,cm⟩:=U;have en:=zH (g9.out.trans cm);have g4:=zH (g5.out.keptR cm O);clear cm eU;have A:=vD b s (aC r2) ov w6 dk hs;cases a5:eu (aC r2) with
         | bad x r3 =>
          rw [a5] at A;have dr:=zH a5;clear a5;have I:=zH A;clear A dk;go_wp2_with fail
          refine I.out.mono ?_
          intro e w' U;obtain ⟨rfl,hg⟩:mU x s r3 b _ e w':=U;go_wp2
          rw [HF.out,show ec acc l1 = .bad x r3 by unfold ec; rw [al.out]; simp only [cO.bind]; rw [if_neg (by rw [d2.out]; simp),b0.out]; simp only; rw [dr.out]; rfl];exact ⟨rfl,rfl,en.out.trans hg⟩
         | ok vt r3 =>
          rw [a5] at A;have dr:=zH a5;clear a5;have I:=zH A;clear A dk;go_wp2_with fail
          refine I.out.mono ?_
          intro e w7 U;obtain ⟨rfl,d9,cf⟩:ft (.string (bs vt)) b s r3 ov w6 e w7:=U;have em:=zH (en.out.trans cf);have ei:=zH (g4.out.keptR cf O);have hl:=zH d9;have e8:=em.out.size
          have a7:ec acc l1 = .ok (Z,vt) r3:=by
           unfold ec; rw [al.out]; simp only [cO.bind]; rw [if_neg (by rw [d2.out]; simp),b0.out]; simp only; rw [dr.out]; rfl
          have d3:=zH a7;have hT:=uB a7;clear cf I d9 a7;go_wp2_with (at_builtin; refine ay _ rfl _ _ 111 rfl w.heap.size 166 Tryz.underlying111 wP rfl (by decide) nj (.slice ao acc.length cap) acc rfl (ei.out.alloc _) _ [(Z,vt)] rfl (cd nj w7 [(Z,vt)] _ _ 1 rfl rfl (by simp [maxLen])) (fun y _=>AU) (by simp; omega) (by decide) (by simp; omega) ?_; intro v8 w8 d4 b9 hu)
          have d7:=((Below.refl w.heap.size w7).alloc e8 (.cells (([(Z,vt)]:List eE).flatMap gJ).toArray 166)).grown b9 (by simp; omega) (fun k hk=>(ei.out.lt k hk).1)
          have bo:Br w w8 b s ov v8 l r3 (acc ++ [(Z,vt)]) (f - 1):=by
           refine ⟨hl.out.belowB d7 O,dT em.out d7 (Nat.le_refl _),d4,?_,?_,?_⟩
           · rw [HF.out,d3.out]; simp only
             obtain ⟨f',rfl⟩ : ∃ f',f=f'+1:=⟨f - 1,by have:=HL.out.fuel; omega⟩;rfl
           · have:=HL.out.fuel; omega
           · have:=HL.out.len; simp; omega
          go_wp2
          go_roundw
          case rel=>exact ⟨_,_,_,bo⟩
          case measure =>
           rw [HL.out.rd.place,bo.rd.place];have:=aT HL.out.rd.suf
           have:=aT bo.rd.suf
           omega
abbrev iq:=Tr × Value × Value
def kh (n:Bs) (av kv:Value) (x:Bs):List Value:=[.string (bs n),av,kv,.string (bs x)]
def fu (x:iq):List Value:=kh x.1.name x.2.1 x.2.2 x.1.text
theorem bY (x:iq):(fu x).length=4:=rfl
def bJ {α:Type} (n:Nat) (C:α→List Value) (X:Nat→Prop) (w:World) (v:Value) (l:List α):Prop :=
 ∃ ao cap,v = .slice ao l.length cap∧l.length≤cap∧cap≤maxLen∧(ao=none→cap=0) ∧
  ∀ i x,l[i]? = some x → ∃ b o,ao=some ⟨b,o,none⟩∧b<w.heap.size ∧ ¬ X b ∧ ∀ j u,(C x)[j]? = some u→w.cell? ⟨b,o+i*n+j,none⟩=some u
theorem bJ.slice {α:Type} {n:Nat} {C:α→List Value} {X:Nat→Prop} {w:World} {v:Value} {l:List α} (h:bJ n C X w v l):af n C w v l:=by
 obtain ⟨ao,cap,h1,h2,h3,D,A⟩:=h;refine ⟨ao,cap,h1,h2,h3,D,fun i x hx=>?_⟩
 obtain ⟨b,o,e1,e2,-,e3⟩:=A i x hx;exact ⟨b,o,e1,e2,e3⟩
theorem af.toX {α:Type} {n:Nat} {C:α→List Value} {w:World} {v:Value} {l:List α} (h:af n C w v l):bJ n C (fun _=>False) w v l:=by
 obtain ⟨ao,cap,h1,h2,h3,D,A⟩:=h;refine ⟨ao,cap,h1,h2,h3,D,fun i x hx=>?_⟩
 obtain ⟨b,o,e1,e2,e3⟩:=A i x hx;exact ⟨b,o,e1,e2,id,e3⟩
theorem bJ.nil {α:Type} {n:Nat} {C:α→List Value} {X:Nat→Prop} {w:World}:bJ n C X w (.slice none 0 0) ([]:List α) :=
 ⟨none,0,rfl,Nat.le_refl _,Nat.zero_le _,fun _=>rfl,fun i x h=>by simp at h⟩
theorem bJ.shape {α:Type} {n:Nat} {C:α→List Value} {X:Nat→Prop} {w:World} {v:Value} {l:List α} (h:bJ n C X w v l) : ∃ ao cap,v = .slice ao l.length cap:=h.slice.shape
theorem aj.toX {α:Type} {base:Nat} {E:TypeId} {n:Nat} {C:α→List Value} {X:Nat→Prop} {w:World} {v:Value} {l:List α} (h:aj base E n C w v l) (D : ∀ x,(C x).length=n) (A : ∀ g,v.ownBlock=some g → ¬ X g):bJ n C X w v l:=by
 obtain ⟨ao,cap,rfl,h2,h3,J,I⟩:=h.slice D;refine ⟨ao,cap,rfl,h2,h3,J,fun i x hx=>?_⟩
 obtain ⟨b,o,e1,e2,e3⟩:=I i x hx;subst e1;exact ⟨b,o,rfl,e2,A b rfl,e3⟩
structure aK (X:Nat→Prop) (w w':World):Prop where
 size:w.heap.size≤w'.heap.size
 cell : ∀ k j,k<w.heap.size → ¬ X k→w'.cell? ⟨k,j,none⟩=w.cell? ⟨k,j,none⟩
theorem aK.refl (X:Nat→Prop) (w:World):aK X w w:=⟨Nat.le_refl _,fun _ _ _ _=>rfl⟩
theorem aK.trans {X:Nat→Prop} {w w1 w2:World} (h:aK X w w1) (h2:aK X w1 w2):aK X w w2 :=
 ⟨Nat.le_trans h.size h2.size,fun k j hk hx=>(h2.cell k j (Nat.lt_of_lt_of_le hk h.size) hx).trans (h.cell k j hk hx)⟩
theorem aK.below {X:Nat→Prop} {w w':World} (h:Below w.heap.size w w'):aK X w w':=⟨h.size,fun k j hk _=>h.cell (p:=⟨k,j,none⟩) hk⟩
theorem aK.grown {X:Nat→Prop} {w w':World} {row:Option Nat} (h:w.grownBy w' row) (hx : ∀ g,row=some g→X g):aK X w w' :=
 ⟨h.size,fun k j hk hn=>World.cell?_of_block (by exact h.block k hk (fun e=>hn (hx k e.symm)))⟩
theorem bJ.keep {α:Type} {n:Nat} {C:α→List Value} {X Y:Nat→Prop} {w w':World} {v:Value} {l:List α} (h:bJ n C X w v l) (hk:aK X w w') (D : ∀ k,k<w.heap.size→Y k→X k):bJ n C Y w' v l:=by
 obtain ⟨ao,cap,h1,h2,h3,J,I⟩:=h;refine ⟨ao,cap,h1,h2,h3,J,fun i x hx=>?_⟩
 obtain ⟨b,o,e1,e2,e3,O⟩:=I i x hx;exact ⟨b,o,e1,Nat.lt_of_lt_of_le e2 hk.size,fun hy=>e3 (D b e2 hy),fun j u A=>(hk.cell b _ e2 e3).trans (O j u A)⟩
inductive bj (X:Nat→Prop) (w:World):Tr→Value→Value→Prop where
 | mk {n:Bs} {ats:List eE} {ks:List Tr} {x:Bs} {av kv:Value} (L:List iq) (att:bJ 2 gJ X w av ats) (his:L.map (·.1)=ks) (own:bJ 4 fu X w kv L) (kids : ∀ y ∈ L,bj X w y.1 y.2.1 y.2.2):bj X w (.mk n ats ks x) av kv
theorem bj.keep {X Y:Nat→Prop} {w w':World} {t:Tr} {av kv:Value} (h:bj X w t av kv) (hk:aK X w w') (A : ∀ k,k<w.heap.size→Y k→X k):bj Y w' t av kv:=by
 induction h with
 | mk L att his own kids D=>exact .mk L (att.keep hk A) his (own.keep hk A) D
theorem bj.parts {X:Nat→Prop} {w:World} {t:Tr} {av kv:Value} (h:bj X w t av kv) : ∃ L:List iq,L.map (·.1)=t.kids∧bJ 2 gJ X w av t.attrs∧bJ 4 fu X w kv L ∧ ∀ y ∈ L,bj X w y.1 y.2.1 y.2.2:=by
 cases h with
 | mk L att his own kids=>exact ⟨L,his,att,own,kids⟩
theorem bj.of {X:Nat→Prop} {w:World} {t:Tr} {av kv:Value} (L:List iq) (his:L.map (·.1)=t.kids) (att:bJ 2 gJ X w av t.attrs) (own:bJ 4 fu X w kv L) (kids : ∀ y ∈ L,bj X w y.1 y.2.1 y.2.2):bj X w t av kv:=by
 cases t
 exact .mk L att his own kids
abbrev dJ (w:World):Tr→Value→Value→Prop:=bj (fun _=>False) w
theorem bj.node {X:Nat→Prop} {w:World} {t:Tr} {av kv:Value} (h:bj X w t av kv):dJ w t av kv:=h.keep (aK.refl X w) (fun _ _ h=>h.elim)
theorem bj.later {X:Nat→Prop} {w w':World} {t:Tr} {av kv:Value} (h:bj X w t av kv) (A:Below w.heap.size w w'):bj X w' t av kv:=h.keep (aK.below A) (fun _ _ h=>h)
theorem bJ.below {α:Type} {n:Nat} {C:α→List Value} {X:Nat→Prop} {w w':World} {v:Value} {l:List α} (h:bJ n C X w v l) (A:Below w.heap.size w w'):bJ n C X w' v l:=h.keep (aK.below A) (fun _ _ h=>h)
def kN (w:World) (g:Nat) (E:TypeId) (n:Nat):Prop:=∃ A,w.heap[g]? = some (.cells A E (0,0))∧A.size=n
theorem kN.lt {w:World} {g:Nat} {E:TypeId} {n:Nat} (h:kN w g E n):g<w.heap.size:=by
 obtain ⟨A,h1,-⟩:=h;exact (Array.getElem?_eq_some_iff.1 h1).1
theorem kN.kept {w w':World} {g:Nat} {E:TypeId} {n:Nat} (h:kN w g E n) (D:w'.heap[g]? = w.heap[g]?):kN w' g E n:=by
 obtain ⟨A,h1,h2⟩:=h;exact ⟨A,D.trans h1,h2⟩
theorem kN.setCell {w:World} {g:Nat} {E:TypeId} {n:Nat} (h:kN w g E n) (k j:Nat) (v:Value):kN (w.setCell ⟨k,j,none⟩ v) g E n:=by
 obtain ⟨A,h1,h2⟩:=h;by_cases hk:g=k
 · subst hk
   exact ⟨_,heap_setCell_same w g j A E v h1,by simpa using h2⟩
 · exact ⟨A,(heap_setCell_other w ⟨k,j,none⟩ g v hk).trans h1,h2⟩
theorem kN.type {w:World} {g:Nat} {E F:TypeId} {n m:Nat} (h:kN w g E n) (h2:kN w g F m):E=F:=by
 obtain ⟨c,h1,-⟩:=h;obtain ⟨c2,h3,-⟩:=h2;rw [h1] at h3;simp only [Option.some.injEq,Obj.cells.injEq] at h3;exact h3.2.1
theorem kN.cell {w:World} {g:Nat} {E:TypeId} {n:Nat} (h:kN w g E n) {j:Nat} (D:j<n) : ∃ u,w.cell? ⟨g,j,none⟩=some u:=by
 obtain ⟨A,h1,h2⟩:=h;exact ⟨A[j]'(by omega),by rw [cell_of_row w g j A E (0,0) h1]; simp [h2,D]⟩
theorem aj.row {α:Type} {base:Nat} {E:TypeId} {n:Nat} {C:α→List Value} {w:World} {g o len cap:Nat} {l:List α} (h:aj base E n C w (.slice (some ⟨g,o,none⟩) len cap) l):o=0∧base≤g∧kN w g E (cap*n)∧len=l.length∧l.length≤cap∧cap≤maxLen:=by
 rcases h.2 with ⟨h1,-⟩ | ⟨Z,O,A,h1,h2,h3,J,I,D,U⟩
 · simp at h1
 · simp only [Value.slice.injEq,Option.some.injEq,Addr.mk.injEq] at h1
   obtain ⟨⟨rfl,rfl,-⟩,rfl,rfl⟩:=h1;exact ⟨rfl,h2,⟨A,h3,D⟩,rfl,J,I⟩
def vA (w:World) (b o:Nat) (cs:List Value):Prop:=∀ j u,cs[j]? = some u→w.cell? ⟨b,o+j,none⟩=some u
theorem vA.kept {w w':World} {b o:Nat} {cs:List Value} (h:vA w b o cs) (D : ∀ j,j<cs.length→w'.cell? ⟨b,o+j,none⟩=w.cell? ⟨b,o+j,none⟩):vA w' b o cs :=
 fun j u A=>(D j (List.getElem?_eq_some_iff.1 A).1).trans (h j u A)
theorem aj.of_cells {α:Type} {base:Nat} {E:TypeId} {n:Nat} {C:α→List Value} (O : ∀ x,(C x).length=n) {w:World} {g cap:Nat} {l:List α} (hb:base≤g) (U:kN w g E (cap*n)) (I:l.length≤cap) (hm:cap≤maxLen) (hc:vA w g 0 (l.flatMap C)):aj base E n C w (.slice (some ⟨g,0,none⟩) l.length cap) l:=by
 obtain ⟨D,h1,h2⟩:=U;refine ⟨bG O l,.inr ⟨g,cap,D,rfl,hb,h1,I,hm,h2,?_⟩⟩
 have Z:=bG O l;have ad:l.length*n≤cap*n:=Nat.mul_le_mul_right n I;apply List.ext_getElem?
 intro j;rw [List.getElem?_take];by_cases J:j<l.length*n
 · rw [if_pos J]
   have A:j<(l.flatMap C).length:=by omega
   have:=hc j _ (List.getElem?_eq_getElem A)
   rw [Nat.zero_add,cell_of_row w g j D E (0,0) h1] at this;rw [List.getElem?_eq_getElem A,← this]; simp
 · rw [if_neg J,List.getElem?_eq_none (by omega)]
theorem aj.cells0 {α:Type} {base:Nat} {E:TypeId} {n:Nat} {C:α→List Value} {w:World} {g len cap:Nat} {l:List α} (h:aj base E n C w (.slice (some ⟨g,0,none⟩) len cap) l):vA w g 0 (l.flatMap C):=by
 intro j u A;have:=World.ownsRow.cells h (g:=g) rfl j u A
 rwa [Addr.add_lit] at this
end Go.Proofs.YtominiaohfjobaaGreatDoor
