/- The walk of a list of pom's reader; the conditions stand in the theorem. -/
import Derived.Test.YtominiaohfjobaaGreatDoorPK08
import Derived.Deep.RegionHeld3
import Derived.IntWalk
import Derived.Laws.EntriesVeiled
import Derived.Test.YtominiaohfjobaaGreatDoorPK07
set_option maxRecDepth 100000
set_option maxHeartbeats 64000000
namespace Go.Proofs.YtominiaohfjobaaGreatDoor
open Go Go.RowKit
abbrev zE:=iq × Bs
def yS (x:zE):List Value:=[.string (bs x.1.1.name),x.1.2.1,x.1.2.2,.string (bs x.1.1.text),.string (bs x.2)]
theorem nf (x:zE):(yS x).length=5:=rfl
theorem Au:(Tryz.prog.info? 175).map (fun i=>(i.zero,i.size,i.bytes))=some (some (.agg #[.string ⟨#[]⟩,.slice none 0 0,.slice none 0 0,.string ⟨#[]⟩,.string ⟨#[]⟩]),5,96):=by kernel_rfl
def ma (w:Bs):List Tr→Nat→List (Tr × Bs)
 | [],_=>[]
 | t::r,i=>(t,mI w (i+1))::ma w r (i+1)
theorem qi (w:Bs) : ∀ (l:List Tr) (t:Tr) (i:Nat),ma w (l ++ [t]) i=ma w l i ++ [(t,mI w (i+l.length+1))]
 | [],t,i=>rfl
 | x::l,t,i=>by
  rw [List.cons_append,ma,ma,qi w l t (i+1)];simp only [List.cons_append,List.length_cons];rw [show i+1+l.length+1=i+(l.length+1)+1 by omega]
def jE (n:Nat) (w:Bs):Option Er:=if 1024<n then some (2,w) else none
def zC (X:Nat→Prop) (w:World) (l:List (Tr × Bs)) (e:Ending) (w':World):Prop:=∃ v L,e = .returned v∧L.map (fun x:zE=>(x.1.1,x.2))=l∧aj w.heap.size 175 5 yS w' v L ∧ ∀ y ∈ L,bj (fun j=>X j∨w.heap.size≤j) w' y.1.1 y.1.2.1 y.1.2.2
theorem AF (t:Tr) (a1 a3:Option Addr) (I D a2 J:Nat) (b:Bs) : ∀ y ∈ [(((t,.slice a1 I a2,.slice a3 D J),b):zE)],∀ u ∈ yS y,u.oneCell'=true:=by
 intro y hy u A;obtain rfl:=List.mem_singleton.1 hy;simp only [yS,List.mem_cons,List.not_mem_nil,or_false] at A;rcases A with rfl | rfl | rfl | rfl | rfl <;> rfl
theorem Bi (y:zE) (W:World) (H:Nat) (A:W.heap.size=H):af 5 yS (W.alloc (.cells (yS y).toArray 175)) (.slice (some ⟨H,0,none⟩) 1 1) [y]:=by
 have h:=cd nf W [y] 175 H 1 A rfl (by unfold maxLen; simp);simpa using h
theorem jF {B:Nat} {w V D:World} {v:Value} (h:Below B w V) (hB:B≤w.heap.size) (A:V.grownBy D v.ownBlock) (I : ∀ g,v.ownBlock=some g→B≤g):Below B w D :=
 h.trans ⟨A.os,A.tape,A.output,by have:=A.size; have:=h.size; omega,fun k hk=>A.block k (by have:=h.size; omega) (fun e=>by have:=I k e.symm; omega)⟩
theorem pU {X:Nat→Prop} {B:Nat} {w w':World} (h:Below B w w') (A:w.heap.size≤w'.heap.size) (D : ∀ k,¬ X k→k<B):aK X w w':=⟨A,fun k j _ hx=>h.cell (p:=⟨k,j,none⟩) (D k hx)⟩
theorem pQ (Z:Nat→Prop) (t:Tr) (D m:Bs) (w:World) (av kv:Value) (ht:bj Z w t av kv) (d7:t.kids.length≤100000) (hl:D.length+m.length≤1000000000000) :
    Calls Tryz.prog 137 #[dj t av kv D,.string (bs m)] w (dx (jE (bV m t.kids).length D) (zC Z w (ma (sl D m) (bV m t.kids) 0)) w):=by
 obtain ⟨ao,ac,ko,kc,rfl,rfl,hP,-⟩:=ht.shape;obtain ⟨K,hK⟩ : ∃ K,K=bV m t.kids:=⟨_,rfl⟩;obtain ⟨X,hX⟩ : ∃ X:S,X=bs D:=⟨_,rfl⟩;obtain ⟨M,hM⟩ : ∃ M:S,M=bs m:=⟨_,rfl⟩;have HC:Hid (∀ W,Below w.heap.size w W→Calls Tryz.prog 133 #[.agg #[.string (bs t.name),.slice ao t.attrs.length ac,.slice ko t.kids.length kc,.string (bs t.text)],.string M] W fun e w'=>∃ v L,e = .returned v∧L.map (·.1)=K∧gK (fun j=>Z j∨w.heap.size≤j) W.heap.size W w' v L):=fun W h=>by rw [hM,hK]; exact t9 t m W _ _ (ht.freshX.later h) d7
 have HW:Hid (∀ P:Bs,X ++ ⟨#[47]⟩ ++ M ++ ⟨#[91]⟩ ++ bs P ++ ⟨#[93]⟩=bs (sl D m ++ 91::(P ++ [93]))):=fun P=>by
  rw [hX,hM]; show bs D ++ bs [47] ++ bs m ++ bs [91] ++ bs P ++ bs [93]=_;simp only [cU]; unfold sl; simp
 have hS:K.length≤100000:=by rw [hK]; exact Nat.le_trans (List.length_filter_le _ _) d7
 have g0:Hid ((bs D:S)=X):=hX.symm;have e5:X.size=D.length:=by rw [hX,ax]
 have e6:M.size=m.length:=by rw [hM,ax]
 have HZ:Hid (X.size+M.size≤1000000000000):=by show _≤_; omega
 have co:Hid (1024<K.length→jE K.length D=some (2,D)):=fun h=>if_pos h;have cm:Hid (¬ 1024<K.length→jE K.length D=none):=fun h=>if_neg h;unfold dj;rw [← hK,← hX,← hM];generalize jE K.length D=r at *;clear ht hX hM e5 e6 hK;go_enter Tryz.func137,Tryz.ntmps137
 go_upto_region 1 with fail
 refine ai fun W hW=>?_
 have x1:ak W w.heap.size [.string (bs t.name),.slice ao t.attrs.length ac,.slice ko t.kids.length kc,.string (bs t.text),.string X]:=by rw [hW]; exact ak.new w [.string (bs t.name),.slice ao t.attrs.length ac,.slice ko t.kids.length kc,.string (bs t.text),.string X] _ _ rfl
 have hb:Below w.heap.size w W:=by rw [hW]; exact (Below.refl _ w).alloc (Nat.le_refl _) _
 clear hW;have bc:=zH x1;have HB:=zH hb;clear x1 hb;obtain ⟨a0,a1,a2,a3,a4⟩:=gU bc.out;have al:=bc.out.lt;go_wp2_with fail
 refine (HC.out _ HB.out).mono ?_
 rintro e w1 ⟨v,L,rfl,hL,bv⟩;obtain ⟨la,lc,rfl⟩:=bv.own.shape;have b6:=bv.below;have bg:=zH (HB.out.trans (b6.mono HB.out.size));have ba:=zH (bc.out.below b6 bc.out.lt);have dg:=zH (A5 bv (Below.refl _ _));have cf:L.length=K.length:=by rw [← hL]; simp
 rw [cf] at dg ⊢;have hc:=zH hL;have cT:=zH cf;clear a0 a1 a2 a3 a4 al b6 bv HC bc hL cf;obtain ⟨a0,a1,a2,a3,a4⟩:=gU ba.out;have al:=ba.out.lt;by_cases a6:1024<K.length
 · have fv:(1024:Int)<(K.length:Int):=by omega
   have HR:Hid (r=some (2,D)):=co.out a6;clear a6 co cm;go_wp2_with fail
   refine (dF _ _ _).mono ?_
   rintro e w3 ⟨rfl,rfl⟩;go_wp2
   refine ⟨rfl,dx.bad HR.out bg.out ?_⟩
   unfold dS eP;rw [g0.out]
 · have fv : ¬ (1024:Int)<(K.length:Int):=by omega
   have HR:Hid (r=none):=cm.out a6;clear co cm;have b4:Hid (K.length≤1024):=by show _≤_; omega
   clear a6;go_wp2
   clear a0 a1 a2 a3 a4 al;go_loopw [4,20] (fun v i wr=>∃ (k:Nat) (O:List zE) (oa:Option Addr) (oc:Nat),k≤K.length∧i = .int .i64 k∧v = .slice oa k oc∧Hid (Below w1.heap.size w1 wr∧aj w1.heap.size 175 5 yS wr (.slice oa k oc) O∧O.map (fun x:zE=>(x.1.1,x.2))=ma (sl D m) (K.take k) 0∧O.length=k ∧ ∀ y ∈ O,bj (fun j=>Z j∨w.heap.size≤j) wr y.1.1 y.1.2.1 y.1.2.2)) (fun _ i _=>K.length - (intOf i).toNat)
   case atStart=>exact ⟨0,[],none,0,Nat.zero_le _,rfl,rfl,Below.refl _ _,aj.nil,rfl,rfl,by simp⟩
   case round =>
    obtain ⟨k,O,oa,oc,hk,rfl,rfl,ag⟩:=hrel;by_cases hlt:k<K.length
    · have J:=ag.out.1
      have b5:=J.size;have c9:=zH (And.intro (dg.out.1.below J) (fun y hy=>(dg.out.2 y hy).later J));rw [← cT.out] at c9;obtain ⟨g,o1,p1,p2,p3,p4,e7,hg,c0,c1,c2,c3,hn⟩:=tX c9.out.1 c9.out.2 k (by rw [cT.out]; exact hlt);subst e7;have d9:=zH (ba.out.below J ba.out.lt);have hJ:(k:Int)<(K.length:Int):=by omega
      have hO:k<L.length:=by rw [cT.out]; exact hlt
      have d3:K[k]=L[k].1:=by simp only [← hc.out,List.getElem_map]
      have ed:=zH (by rw [List.take_succ_eq_append_getElem hlt,d3]:K.take (k+1)=K.take k ++ [L[k].1]);have ef:=zH hn;clear hn d3;generalize L[k]=y at *;obtain ⟨A,ya,yk⟩:=y;simp only at c0 c1 c2 c3 ef ed;obtain ⟨N,hN⟩ : ∃ N:S,N=bs (nQ (k+1)):=⟨_,rfl⟩;have gc:N.size≤1027:=by rw [hN,ax]; have h1:=nP (k+1); have h2:=b4.out; omega
      have g8:Hid (∀ W,Calls Tryz.prog 173 #[.int .i64 ((k:Int)+1)] W fun e w'=>e = .returned (.string N)∧W=w'):=fun W=>by rw [hN]; exact sq (k+1) W (by omega) (by have:=b4.out; omega)
      have g5:Hid (X ++ ⟨#[47]⟩ ++ M ++ ⟨#[91]⟩ ++ N ++ ⟨#[93]⟩=bs (mI (sl D m) (k+1))):=by rw [hN]; exact HW.out _
      have hz:=HZ.out;have hA : ¬ 9223372036854775807<X.size+1:=by omega
      have hw : ¬ 9223372036854775807<X.size+1+M.size:=by omega
      have hv : ¬ 9223372036854775807<X.size+1+M.size+1:=by omega
      have hu : ¬ 9223372036854775807<X.size+1+M.size+1+N.size:=by omega
      have hs : ¬ 9223372036854775807<X.size+1+M.size+1+N.size+1:=by omega
      have hI:IntKind.i64.wrap ((k:Int)+1)=(k:Int)+1:=IntWalk.i64_in _ (by have:=b4.out; omega);clear hN gc hz;have b3:=zH ag.out.2.1;have hU:=zH J;clear J;go_upto_region 7 with fail
      refine ai fun U b8=>?_
      have x7:ak U wr.heap.size [.string (bs A.name),.slice p1 A.attrs.length p2,.slice p3 A.kids.length p4,.string (bs A.text)]:=by rw [b8]; exact ak.new wr [.string (bs A.name),.slice p1 A.attrs.length p2,.slice p3 A.kids.length p4,.string (bs A.text)] _ _ rfl
      have b0:Below wr.heap.size wr U:=by rw [b8]; exact (Below.refl _ wr).alloc (Nat.le_refl _) _
      clear b8;have bb:=zH x7;have dk:=zH b0;have a9:=zH (d9.out.below b0 d9.out.lt);have g7:=zH (b3.out.below b0);clear x7 b0 c0 c1 c2 c3;obtain ⟨c0,c1,c2,c3⟩:=xx bb.out;have cl:=bb.out.lt;have d4:=a9.out.cell 4 _ rfl;have dl:=a9.out.lt;have g6:Hid (∀ (o:Obj),aj w1.heap.size 175 5 yS (U.drew.alloc o) (.slice oa k oc) O):=fun o=>aj.alloc (w:=U.drew) (show aj w1.heap.size 175 5 yS U (.slice oa k oc) O from g7.out) o;have g1:Hid (∀ (o:Obj),ak (U.drew.alloc o) wr.heap.size [.string (bs A.name),.slice p1 A.attrs.length p2,.slice p3 A.kids.length p4,.string (bs A.text)]):=fun o=>ak.alloc (w:=U.drew) ⟨bb.out.lt,bb.out.cell,bb.out.free⟩ o;have gv:Hid (∀ (o:Obj),ak (U.drew.alloc o) w.heap.size [.string (bs t.name),.slice ao t.attrs.length ac,.slice ko t.kids.length kc,.string (bs t.text),.string X]):=fun o=>ak.alloc (w:=U.drew) ⟨a9.out.lt,a9.out.cell,a9.out.free⟩ o;have g4:Hid (∀ V:World,af 5 yS (V.alloc (.cells #[.string (bs A.name),.slice p1 A.attrs.length p2,.slice p3 A.kids.length p4,.string (bs A.text),.string (X ++ ⟨#[47]⟩ ++ M ++ ⟨#[91]⟩ ++ N ++ ⟨#[93]⟩)] 175)) (.slice (some ⟨V.heap.size,0,none⟩) 1 1) [(((A,.slice p1 A.attrs.length p2,.slice p3 A.kids.length p4),mI (sl D m) (k+1)):zE)]):=fun V=>by rw [g5.out]; exact Bi ((A,.slice p1 A.attrs.length p2,.slice p3 A.kids.length p4),mI (sl D m) (k+1)) V _ rfl
      have hi:Hid ((O.length+[(((A,.slice p1 A.attrs.length p2,.slice p3 A.kids.length p4),mI (sl D m) (k+1)):zE)].length)*96≤140737488355328):=by show _≤_; have:=ag.out.2.2.2.1; have:=b4.out; simp only [List.length_cons,List.length_nil]; omega
      have hj:Hid (∀ o:Obj,w1.heap.size≤(U.drew.alloc o).heap.size):=fun o=>by have h1:=dk.out.size; have h2:=b5; show _≤(U.heap.push o).size; simp only [Array.size_push]; omega
      have eg:Hid (some wr.heap.size≠(Value.slice oa k oc).ownBlock∧some w.heap.size≠(Value.slice oa k oc).ownBlock):=⟨fun h=>by have:=(b3.out.lt _ h.symm).2; omega,fun h=>by have:=(b3.out.lt _ h.symm).1; have:=ba.out.lt; omega⟩;have hq:Hid (∀ (o:Obj),Below w1.heap.size wr (U.drew.alloc o)):=fun o=>((dk.out.mono b5).trans (aY (Below.refl _ _) 1)).alloc (by have:=dk.out.size; show _≤U.heap.size; omega) o;have g9:Hid (∀ g,(Value.slice oa k oc).ownBlock=some g→w1.heap.size≤g):=fun g h=>(b3.out.lt _ h).1;go_region_held3 (fun w'=>w'.cell? ⟨wr.heap.size,0,none⟩=some (.string (bs A.name))∧w'.cell? ⟨wr.heap.size,1,none⟩=some (.slice p1 A.attrs.length p2)∧w'.cell? ⟨wr.heap.size,2,none⟩=some (.slice p3 A.kids.length p4)∧w'.cell? ⟨wr.heap.size,3,none⟩=some (.string (bs A.text))∧w'.cell? ⟨w.heap.size,4,none⟩=some (.string X)) (first | exact ⟨c0,c1,c2,c3,d4⟩ | exact ⟨b2.out.cell 0 _ rfl,b2.out.cell 1 _ rfl,b2.out.cell 2 _ rfl,b2.out.cell 3 _ rfl,ga.out.cell 4 _ rfl⟩ | (go_keep; done)) (first | (go_at_call 173; refine (g8.out _).mono ?_; rintro e w9 ⟨rfl,rfl⟩) | (refine cc _ rfl (.tmp 25) (.tmp 39) 221 rfl w1.heap.size 175 Tryz.underlying221 Au rfl (by decide) nf (.slice oa k oc) O (by simp [Act.eval]) (g6.out _) _ [(((A,.slice p1 A.attrs.length p2,.slice p3 A.kids.length p4),mI (sl D m) (k+1)):zE)] (by simp [Act.eval]) (g4.out _) (AF _ _ _ _ _ _ _ _) hi.out (by decide) (hj.out _) ?_; intro a8 n8 c8 w8 bl I; have d6:=(g1.out _).grown I eg.out.1; have d5:=(gv.out _).grown I eg.out.2; have a7:=zH (jF (hq.out _) b5 I g9.out); have d8:=zH bl; have hT:=zH I.size; have b2:=zH d6; have ga:=zH d5; clear bl I d6 d5))
      obtain ⟨_,_,bo⟩:=d8.out.shape;simp only [Value.slice.injEq,List.length_append,List.length_cons,List.length_nil,ag.out.2.2.2.1,Nat.zero_add] at bo;obtain ⟨-,bo,-⟩:=bo;subst bo;go_wp2
      go_roundw
      case rel =>
       have h1:=ag.out;have hR:w.heap.size≤w1.heap.size:=bg.out.size;have e9:aK (fun j=>Z j∨w.heap.size≤j) wr w8:=pU a7.out a7.out.size (fun k hk=>by have h2 : ¬ w.heap.size≤k:=fun h=>hk (.inr h); omega);refine ⟨k+1,O ++ [(((A,.slice p1 A.attrs.length p2,.slice p3 A.kids.length p4),mI (sl D m) (k+1)):zE)],a8,c8,hlt,by go_num,rfl,h1.1.trans a7.out,d8.out,?_,by simp [h1.2.2.2.1],?_⟩
       · rw [List.map_append,h1.2.2.1,ed.out,qi]
         have e8:(K.take k).length=k:=by rw [List.length_take]; omega
         rw [e8,Nat.zero_add];rfl
       · intro y hy
         rcases List.mem_append.1 hy with hy | hy
         · exact (h1.2.2.2.2 y hy).keep e9 (fun _ _ h=>h)
         · obtain rfl:=List.mem_singleton.1 hy
           exact (ef.out.keep (pU a7.out a7.out.size (fun k hk=>by have h2 : ¬ w.heap.size≤k:=fun h=>hk (.inl (.inr h)); omega)) (fun _ _ h=>.inl h))
      case measure=>simp [intOf]; omega
    · obtain rfl:k=K.length:=by omega
      go_wp2
      go_ret
      have h1:=ag.out;refine dx.good HR.out (bg.out.trans (h1.1.mono bg.out.size)) ⟨_,O,rfl,by rw [h1.2.2.1,List.take_length],h1.2.1.base_mono bg.out.size,h1.2.2.2.2⟩
theorem af.prpAt {w:World} {ao:Option Addr} {len cap:Nat} {l:List rB} (h:af 2 gM w (.slice ao len cap) l) {k:Nat} (hk:k<l.length) :
    ∃ g o,ao=some ⟨g,o,none⟩∧g<w.heap.size∧w.cell? ⟨g,o+k*2,none⟩=some (.string l[k].name)∧w.cell? ⟨g,o+k*2+1,none⟩=some (.string l[k].value):=by
 obtain ⟨g,o,e,D,A⟩:=h.at hk;exact ⟨g,o,e,D,by simpa using A 0 _ rfl,A 1 _ rfl⟩
theorem tN (p:rB) (n:S) (q:Bool) (D:(p.name.toList == n.toList)=q) (B:Nat) (w:World) (hB:B<w.heap.size) (h0:w.cell? ⟨B,0,none⟩=some (.string n)) :
    Calls Tryz.prog 136 #[.agg #[.string p.name,.string p.value],.pointer (some ⟨B,0,none⟩)] w fun e w'=>e = .returned (.bool q)∧Below w.heap.size w w':=by
 have A:Hid (∀ o,Below w.heap.size w (w.alloc o)):=fun o=>(Below.refl _ w).alloc (Nat.le_refl _) _;go_enter Tryz.func136,Tryz.ntmps136
 go_wp2
 go_ret
 exact ⟨rfl,A.out _⟩
def lD (l:List rB) (n:S):Bool:=l.any fun p=>p.name.toList == n.toList
theorem wR {l:List rB} {n:S} {k:Nat} (h:k<l.length):lD (l.take (k+1)) n=(lD (l.take k) n || (l[k].name.toList == n.toList)):=by
 unfold lD;rw [List.take_succ_eq_append_getElem h,List.any_append];simp
theorem yJ {l:List rB} {n:S} {k:Nat} (h:k<l.length) (he:(l[k].name.toList == n.toList)=true):lD l n=true:=List.any_eq_true.2 ⟨l[k],List.getElem_mem h,he⟩
theorem uf (l:List rB) (n:S) (v:Value) (B:Nat) (w:World) (U:af 2 gM w v l) (hB:w.cell? ⟨B,0,none⟩=some (.string n)) (hlt:B<w.heap.size) :
    Calls Tryz.prog 172 #[v,.func (.func 136) #[] #[.pointer (some ⟨B,0,none⟩)]] w fun e w'=>∃ r:Int,e = .returned (.int .i64 r)∧((r = -1∧lD l n=false)∨(0≤r∧lD l n=true))∧Below w.heap.size w w':=by
 have a9:l.length≤9223372036854775807:=by obtain ⟨a,c,e,h2,h3,-⟩:=U; exact Nat.le_trans h2 (Nat.le_trans h3 (by decide))
 obtain ⟨ao,ac,rfl⟩:=U.shape;have HV:=zH U;have a0:=zH hB;have ad:=zH hlt;clear U hB hlt;go_enter Tryz.func172,Tryz.ntmps172
 go_wp2_with fail
 go_loopw [8] (fun iv wr=>∃ i:Nat,i≤l.length∧iv = .int .i64 i∧Hid (lD (l.take i) n=false)∧Below w.heap.size w wr) (fun iv _=>l.length - (intOf iv).toNat)
 case atStart=>exact ⟨0,Nat.zero_le _,rfl,rfl,Below.refl _ _⟩
 case round =>
  obtain ⟨i,hi,rfl,hn,D⟩:=hrel;have J:=zH D;have I:=D.size;by_cases hlt:i<l.length
  · have a4:(i:Int)<(l.length:Int):=by omega
    obtain ⟨g,o,rfl,hg,c0,c1⟩:=(HV.out.below D).prpAt hlt;have Z:=zH (wR (n:=n) hlt);have HM:=zH (yJ (n:=n) hlt);obtain ⟨q,hq⟩ : ∃ q,q=(l[i].name.toList == n.toList):=⟨_,rfl⟩;have ag:=zH (tN l[i] n q hq.symm B wr (Nat.lt_of_lt_of_le ad.out I) ((D.cell (p:=⟨B,0,none⟩) ad.out).trans a0.out));rw [← hq] at Z HM;clear D hq;cases q with
    | true =>
     have HT:Hid (lD l n=true):=HM.out (by trivial);clear Z HM hn;go_wp2_with fail
     refine ag.out.mono ?_
     rintro e w2 ⟨rfl,A⟩;have O:=zH (J.out.trans (A.mono I));clear A c0 c1;go_wp2
     go_ret
     exact ⟨_,rfl,.inr ⟨by omega,HT.out⟩,O.out⟩
    | false =>
     have HF:Hid (lD (l.take (i+1)) n=false):=by show _=_; rw [Z.out,hn.out]; rfl
     clear Z HM hn;go_wp2_with fail
     refine ag.out.mono ?_
     rintro e w2 ⟨rfl,A⟩;have O:=zH (J.out.trans (A.mono I));clear A c0 c1;go_wp2
     go_roundw
     case rel=>exact ⟨i+1,hlt,by go_num,HF.out,O.out⟩
     case measure=>simp [intOf]; omega
  · obtain rfl:i=l.length:=by omega
    have HR:Hid (lD l n=false):=by have:=hn.out; rwa [List.take_length] at this
    clear hlt D hn;go_wp2
    go_ret
    exact ⟨_,rfl,.inl ⟨rfl,HR.out⟩,J.out⟩
theorem pe (l:List rB) (n:S) (v:Value) (B:Nat) (w:World) (I:af 2 gM w v l) (hB:w.cell? ⟨B,0,none⟩=some (.string n)) (hlt:B<w.heap.size) :
    Calls Tryz.prog 135 #[v,.func (.func 136) #[] #[.pointer (some ⟨B,0,none⟩)]] w fun e w'=>e = .returned (.bool (lD l n))∧Below w.heap.size w w':=by
 have J:=zH (uf l n v B w I hB hlt);generalize lD l n=q at *;obtain ⟨ao,U,rfl⟩:=I.shape;clear I hB hlt;go_enter Tryz.func135,Tryz.ntmps135
 go_wp2_with fail
 refine J.out.mono ?_
 rintro e w2 ⟨r,rfl,O,A⟩;have D:=zH A;clear A J;rcases O with ⟨rfl,hh⟩ | ⟨h0,hh⟩
 · subst hh
   go_wp2
   go_ret
   exact ⟨rfl,D.out⟩
 · subst hh
   go_wp2
   go_ret
   exact ⟨rfl,D.out⟩
theorem ic (x:rB):(gM x).length=2:=rfl
theorem wb (x:rB) : ∀ y ∈ [x],∀ u ∈ gM y,u.oneCell'=true:=by
 intro y hy u A;obtain rfl:=List.mem_singleton.1 hy;simp only [gM,List.mem_cons,List.not_mem_nil,or_false] at A;rcases A with rfl | rfl <;> rfl
theorem wM:(Tryz.prog.info? 129).map (fun i=>(i.zero,i.size,i.bytes))=some (some (.agg #[.string ⟨#[]⟩,.string ⟨#[]⟩]),2,32):=by kernel_rfl
theorem Ak (y:rB) (W:World) (H:Nat) (A:W.heap.size=H):af 2 gM (W.alloc (.cells (gM y).toArray 129)) (.slice (some ⟨H,0,none⟩) 1 1) [y]:=by
 have h:=cd ic W [y] 129 H 1 A rfl (by unfold maxLen; simp);simpa using h
theorem yI (d:List Tr) (n:Bs):lD (d.map lm) (bs n)=d.any (fun x=>decide (x.name=n)):=by
 unfold lD;rw [List.any_map];congr 1
 funext x
 exact fJ x.name n
theorem sg {w:Bs} {K:List Tr} {k:Nat} (h:k<K.length):dA w (K.drop k) (K.take k)=(if (K.take k).any (fun x=>decide (x.name=K[k].name)) then some (20,zX (sl w K[k].name)) else none).or ((fw K[k] (sl w K[k].name) true).or (dA w (K.drop (k+1)) (K.take (k+1)))):=by
 rw [List.drop_eq_getElem_cons h,dA,List.take_succ_eq_append_getElem h]
def zz (w:World) (l:List rB) (e:Ending) (w':World):Prop:=∃ v,e = .returned v∧aj w.heap.size 129 2 gM w' v l
def lq (B:Nat) (A v1 v2 v3:Value) (x0 x1 y2 x3 x4 x5 x6 x7 x8 x9 x10 x11 x12 x13 x14 x15 x16 x17 x18 x19 x20 x21 x22 x23 x24 x25 x26 x27 x28 x29 x30 x31 x32 x33 x34 x35 x36 x37 x38 x39 x40 x41 x42 ag ad ac aa Z U O J I D a0 al:Value) (f0 f1 f2 f3 f4 f5 f6 f7 f8 f9 f10:Bool)  : Act :=
 ⟨#[x0,x1,cond f10 (undef) y2,x3,x4,x5,x6,x7,x8,x9,x10,x11,x12,x13,x14,x15,x16,x17,x18,x19,x20,x21,x22,x23,x24,x25,x26,x27,x28,x29,x30,x31,x32,x33,x34,x35,x36,x37,x38,x39,x40,x41,x42,cond f0 (y2) ag,cond f1 (.pointer (some ⟨B,0,none⟩)) ad,cond f2 (A) ac,cond f3 (.agg #[A,v1,v2,v3]) aa,cond f4 (x8) Z,cond f5 (.agg #[A,v1,v2,v3,x8]) U,cond f6 (undef) O,cond f7 (undef) J,cond f8 (undef) I,cond f9 (undef) D,a0,al],[]⟩
def Ca (B:Nat) (v0 v1 v2 v3:Value) (V:World) (x0 x1 y2 x3 x4 x5 x6 x7 x8 x9 x10 x11 x12 x13 x14 x15 x16 x17 x18 x19 x20 x21 x22 x23 x24 x25 x26 x27 x28 x29 x30 x31 x32 x33 x34 x35 x36 x37 x38 x39 x40 x41 x42 ag ad ac aa Z U O J I D al ah:Value) (A:Array Bool) (a0:Act) (w':World):Prop :=
 ∃ (f0 f1 f2 f3 f4 f5 f6 f7 f8 f9 f10:Bool) ,A=#[f0,f1,f2,f3,f4,f5,f6,f7,f8,f9,f10]∧a0=lq B v0 v1 v2 v3 x0 x1 y2 x3 x4 x5 x6 x7 x8 x9 x10 x11 x12 x13 x14 x15 x16 x17 x18 x19 x20 x21 x22 x23 x24 x25 x26 x27 x28 x29 x30 x31 x32 x33 x34 x35 x36 x37 x38 x39 x40 x41 x42 ag ad ac aa Z U O J I D al ah f0 f1 f2 f3 f4 f5 f6 f7 f8 f9 f10  ∧ w'=V.drew∧Hid (f6=false∧f7=false∧f8=false∧f9=false∧f10=false)
theorem tO (t:Tr) (D:Bs) (w:World) (av kv:Value) (ht:dJ w t av kv) (hm:dM t) (hl:D.length≤100000000000) :
    Calls Tryz.prog 96 #[dj t av kv D] w (dx (kx t D) (zz w (kw t)) w):=by
 obtain ⟨ao,ac,ko,kc,rfl,rfl,ms,-⟩:=ht.shape;have HF:Hid (∀ W,Below w.heap.size w W→Calls Tryz.prog 93 #[dj t (.slice ao t.attrs.length ac) (.slice ko t.kids.length kc) D,.string ⟨#[112,114,111,112,101,114,116,105,101,115]⟩] W (dx (cS t D aw) (kL D aw (cZ t aw)) W)):=fun W h=>l8 t D aw W _ _ (ht.later h) hm.kl (by show _+10≤_; omega);have HM:=zH hm
 have HE:Hid (kx t D=(cS t D aw).or (match cZ t aw with
  | none=>none
  | some f=>(jE (bV [] f.kids).length (sl D aw)).or (dA (sl D aw) (bV [] f.kids) []))):=rfl
 have HV:Hid (kw t=match cZ t aw with
  | none=>[]
  | some f=>(bV [] f.kids).map lm):=rfl
 obtain ⟨E,hE⟩ : ∃ E,E=kx t D:=⟨_,rfl⟩;obtain ⟨V,hV⟩ : ∃ V,V=kw t:=⟨_,rfl⟩;rw [← hE] at HE ⊢;rw [← hV] at HV ⊢;clear hE hV ht hm;obtain ⟨X,hX⟩ : ∃ X:S,X=bs D:=⟨_,rfl⟩;obtain ⟨Y,hY⟩ : ∃ Y:S,Y=bs (sl D aw):=⟨_,rfl⟩;have HY:Hid ((bs (sl D aw):S)=Y):=hY.symm;have kb:Y.size=D.length+11:=by rw [hY,ax]; unfold sl; simp [aw]
 have k4:Hid (Y.size≤1000000000000):=by show _≤_; omega
 unfold dj at HF ⊢;rw [← hX] at HF ⊢;clear hX kb;go_enter Tryz.func96,Tryz.ntmps96
 go_upto_region 1 with fail
 refine ai fun W hW=>?_
 have x1:ak W w.heap.size [.string (bs t.name),.slice ao t.attrs.length ac,.slice ko t.kids.length kc,.string (bs t.text),.string X]:=by rw [hW]; exact ak.new w [.string (bs t.name),.slice ao t.attrs.length ac,.slice ko t.kids.length kc,.string (bs t.text),.string X] _ _ rfl
 have hb:Below w.heap.size w W:=by rw [hW]; exact (Below.refl _ w).alloc (Nat.le_refl _) _
 clear hW;have e4:=zH x1;have HB:=zH hb;clear x1 hb;obtain ⟨a0,a1,a2,a3,a4⟩:=gU e4.out;have al:=e4.out.lt;go_wp2_with fail
 refine (HF.out _ HB.out).mono ?_
 rintro e w1 ⟨g1,hp,hq⟩;have cm:=zH (HB.out.trans (g1.mono HB.out.size));clear a0 a1 a2 a3 a4 al HF e4 g1;cases hM:cS t D aw with
 | some x =>
  obtain rfl:=hp x hM;have HR:Hid (E=some x):=by show _=_; rw [HE.out,hM]; rfl
  clear hp hq hM HE HV;unfold dS;go_wp2
  exact ⟨rfl,dx.bad HR.out cm.out rfl⟩
 | none =>
  have hq:=hq hM;rw [hM,Option.none_or] at HE;clear hp hM;cases hO:cZ t aw with
  | none =>
   rw [hO] at HE HV hq;simp only [kL,gn] at hq;rw [← hY] at hq;subst hq;have d2:Hid (V=[]):=HV.out;have HR:Hid (E=none):=HE.out;clear hO HV hY HE;have d7:Hid (∀ o,Below w.heap.size w (w1.alloc o)):=fun o=>cm.out.alloc cm.out.size o;go_wp2
   go_ret
   refine dx.good HR.out (d7.out _) ⟨_,rfl,?_⟩
   rw [d2.out];exact aj.nil
  | some k =>
   rw [hO] at HE HV hq;obtain ⟨m4,l9,rfl,hn⟩:=hq;obtain ⟨p1,p2,p3,p4,rfl,rfl,-,-⟩:=hn.shape;have b3:=HM.out.one hO;obtain ⟨K,hK⟩ : ∃ K,K=bV [] k.kids:=⟨_,rfl⟩;have d2:Hid (V=K.map lm):=by rw [hK]; exact HV.out
   have d6:Hid (E=(jE K.length (sl D aw)).or (dA (sl D aw) K [])):=by rw [hK]; exact HE.out
   have HC:Hid (∀ W,Below w1.heap.size w1 W→Calls Tryz.prog 133 #[.agg #[.string (bs k.name),.slice p1 k.attrs.length p2,.slice p3 k.kids.length p4,.string (bs k.text)],.string ⟨#[]⟩] W fun e w'=>∃ v L,e = .returned v∧L.map (·.1)=K∧Bq W.heap.size W w' v L):=fun W h=>by rw [hK]; exact sF k [] W _ _ (hn.later h) b3.kl
   have li:Hid (∀ y ∈ K,dM y∧y.name.length≤1000000000):=fun y hy=>⟨b3.kids y (ii (by rw [← hK]; exact hy)),b3.pname (wv hO (by decide)) y (ii (by rw [← hK]; exact hy))⟩;have m3:K.length≤100000:=by rw [hK]; exact Nat.le_trans (List.length_filter_le _ _) b3.kl
   clear HE HV hO hn b3 hK;unfold dj;rw [← hY];clear hY;go_upto_region 2 with fail
   refine ai fun W2 dr=>?_
   have x2:ak W2 w1.heap.size [.string (bs k.name),.slice p1 k.attrs.length p2,.slice p3 k.kids.length p4,.string (bs k.text),.string Y]:=by rw [dr]; exact ak.new w1 [.string (bs k.name),.slice p1 k.attrs.length p2,.slice p3 k.kids.length p4,.string (bs k.text),.string Y] _ _ rfl
   have g0:Below w.heap.size w W2:=by rw [dr]; exact cm.out.alloc cm.out.size _
   have ei:Below w1.heap.size w1 W2:=by rw [dr]; exact (Below.refl _ w1).alloc (Nat.le_refl _) _
   clear dr;have b9:=zH x2;have d7:=zH g0;have hR:=zH ei;clear x2 g0 ei;obtain ⟨a0,a1,a2,a3,a4⟩:=gU b9.out;have al:=b9.out.lt;go_wp2_with fail
   refine (HC.out _ hR.out).mono ?_
   rintro e w3 ⟨v,L,rfl,hL,b4⟩;obtain ⟨la,lc,rfl⟩:=b4.own.shape;have eg:=b4.below;have aa:=zH (d7.out.trans (eg.mono d7.out.size));have d0:=zH (b9.out.below eg b9.out.lt);have fv:Hid (af 4 fu w3 (.slice la L.length lc) L ∧ ∀ y ∈ L,dJ w3 y.1 y.2.1 y.2.2):=⟨b4.own.slice bY,fun y hy=>(b4.nodes y hy).node⟩;have em:L.length=K.length:=by rw [← hL]; simp
   rw [em] at fv ⊢;have lk:=zH hL;have e8:=zH em;clear a0 a1 a2 a3 a4 al eg b4 HC b9 hL em;obtain ⟨a0,a1,a2,a3,a4⟩:=gU d0.out;have al:=d0.out.lt;by_cases bc:1024<K.length
   · have iv:(1024:Int)<(K.length:Int):=by omega
     have HR:Hid (E=some (2,sl D aw)):=by show _=_; rw [d6.out]; unfold jE; rw [if_pos bc]; rfl
     clear bc d6 d2;go_wp2_with fail
     refine (dF _ _ _).mono ?_
     rintro e w9 ⟨rfl,rfl⟩;go_wp2
     refine ⟨rfl,dx.bad HR.out aa.out ?_⟩
     unfold dS eP;rw [HY.out]
   · have iv : ¬ (1024:Int)<(K.length:Int):=by omega
     have k7:Hid (E=dA (sl D aw) K []):=by show _=_; rw [d6.out]; unfold jE; rw [if_neg bc]; rfl
     have ll:Hid (K.length≤1024):=by show _≤_; omega
     clear bc d6;go_wp2
     clear a0 a1 a2 a3 a4 al;go_loopw [2,27] (fun v i wr=>∃ (k:Nat) (oa:Option Addr) (oc:Nat),k≤K.length∧i = .int .i64 k∧v = .slice oa k oc∧Hid (Below w3.heap.size w3 wr∧aj w3.heap.size 129 2 gM wr (.slice oa k oc) ((K.take k).map lm)∧E=dA (sl D aw) (K.drop k) (K.take k))) (fun _ i _=>K.length - (intOf i).toNat)
     case atStart=>exact ⟨0,none,0,Nat.zero_le _,rfl,rfl,Below.refl _ _,aj.nil,k7.out⟩
     case round =>
      obtain ⟨k,oa,oc,hk,rfl,rfl,a5⟩:=hrel;by_cases hlt:k<K.length
      · have bg:=a5.out.1
        have b2:=bg.size;have hj:Hid (af 4 fu wr (.slice la L.length lc) L ∧ ∀ y ∈ L,dJ wr y.1 y.2.1 y.2.2):=⟨by rw [e8.out]; exact fv.out.1.below bg,fun y hy=>(fv.out.2 y hy).later bg⟩;obtain ⟨g,o1,q1,q2,q3,q4,h7,hg,c0,c1,c2,c3,hn⟩:=tX hj.out.1 hj.out.2 k (by rw [e8.out]; exact hlt);subst h7;have g6:=zH (d0.out.below bg d0.out.lt);have mc:(k:Int)<(K.length:Int):=by omega
        have mn:k<L.length:=by rw [e8.out]; exact hlt
        have cT:K[k]=L[k].1:=by simp only [← lk.out,List.getElem_map]
        have g7:=zH (by rw [List.take_succ_eq_append_getElem hlt,cT]:K.take (k+1)=K.take k ++ [L[k].1]);have a9:=zH (by rw [a5.out.2.2,sg hlt,cT]:E=(if (K.take k).any (fun x=>decide (x.name=L[k].1.name)) then some (20,zX (sl (sl D aw) L[k].1.name)) else none).or ((fw L[k].1 (sl (sl D aw) L[k].1.name) true).or (dA (sl D aw) (K.drop (k+1)) (K.take (k+1)))));have gc:dM L[k].1∧L[k].1.name.length≤1000000000:=by rw [← cT]; exact li.out _ (List.getElem_mem hlt)
        have d5:=zH gc;have g9:=zH hn;have e6:=zH a5.out.2.1;have hc:Hid (((K.take k).map lm).length=k):=by show _=_; rw [List.length_map,List.length_take]; omega
        clear hn cT gc;generalize L[k]=y at *;obtain ⟨A,ya,yk⟩:=y;simp only at c0 c1 c2 c3 g9 g7 d5 a9;have h5:(bs A.name:S).size≤1000000000:=by rw [ax]; exact d5.out.2
        have h4:=k4.out;have l3 : ¬ 9223372036854775807<Y.size+1:=by omega
        have l2 : ¬ 9223372036854775807<Y.size+1+(bs A.name:S).size:=by omega
        have l1 : ¬ 9223372036854775807<Y.size+1+(bs A.name:S).size+3:=by omega
        have g8:Hid (Y ++ ⟨#[47]⟩ ++ bs A.name=bs (sl (sl D aw) A.name)):=by
         rw [← HY.out]; show bs (sl D aw) ++ bs [47] ++ bs A.name=_; rw [cU,cU,List.append_assoc]; rfl
        have e9:=zH (yI (K.take k) A.name);clear h5 h4;go_upto_region 10 with fail
        refine ai fun W7 el=>?_
        have x7:ak W7 wr.heap.size [.string (bs A.name),.slice q1 A.attrs.length q2,.slice q3 A.kids.length q4,.string (bs A.text)]:=by rw [el]; exact ak.new wr [.string (bs A.name),.slice q1 A.attrs.length q2,.slice q3 A.kids.length q4,.string (bs A.text)] _ _ rfl
        have dn:Below wr.heap.size wr W7:=by rw [el]; exact (Below.refl _ wr).alloc (Nat.le_refl _) _
        clear el;have ah:=zH x7;have hs:=zH dn;have b7:=zH (g6.out.below dn g6.out.lt);have e7:=zH (e6.out.below dn);clear x7 dn c0 c1 c2 c3;obtain ⟨c0,c1,c2,c3⟩:=xx ah.out;have cl:=ah.out.lt;have d4:=b7.out.cell 4 _ rfl;have dl:=b7.out.lt;obtain ⟨q,hq⟩ : ∃ q,q=(K.take k).any (fun x=>decide (x.name=A.name)):=⟨_,rfl⟩;rw [← hq] at a9 e9
        have hr:Hid (Calls Tryz.prog 135 #[.slice oa k oc,.func (.func 136) #[] #[.pointer (some ⟨wr.heap.size,0,none⟩)]] W7 fun e w'=>e = .returned (.bool q)∧Below W7.heap.size W7 w'):=by
         show Calls _ _ _ _ _
         have h9:=pe ((K.take k).map lm) (bs A.name) (.slice oa k oc) wr.heap.size W7 (e7.out.slice ic) (ah.out.cell 0 _ rfl) ah.out.lt;rw [e9.out] at h9;exact h9
        clear hq e9;go_wp2_with fail
        refine hr.out.mono ?_
        rintro e I ⟨rfl,b6⟩;have O:=zH (hs.out.trans (b6.mono hs.out.size));have b8:=zH (ah.out.below b6 ah.out.lt);have g5:=zH (b7.out.below b6 b7.out.lt);have k9:=zH (e7.out.below b6);clear hr b6 c0 c1 c2 c3 cl d4 dl ah b7 e7;obtain ⟨c0,c1,c2,c3⟩:=xx b8.out;have cl:=b8.out.lt;have d4:=g5.out.cell 4 _ rfl;have dl:=g5.out.lt;cases q with
        | true =>
         have HR:Hid (E=some (20,zX (sl (sl D aw) A.name))):=a9.out;have k8:Hid (Y ++ ⟨#[47]⟩ ++ bs A.name ++ ⟨#[91,50,93]⟩=bs (zX (sl (sl D aw) A.name))):=xH _ _ _ _ g8.out;clear a9;go_wp2_with fail
         refine (dF _ _ _).mono ?_
         rintro e w9 ⟨rfl,rfl⟩;go_wp2
         refine ⟨rfl,dx.bad HR.out (aa.out.trans ((a5.out.1.trans (O.out.mono b2)).mono aa.out.size)) ?_⟩
         unfold dS eP;rw [k8.out]
        | false =>
         have bo:Hid (E=(fw A (sl (sl D aw) A.name) true).or (dA (sl D aw) (K.drop (k+1)) (K.take (k+1)))):=a9.out;clear a9;have hd:Hid (Below I.heap.size I I.drew):=aY (Below.refl _ _) 1
         have d3:Hid (∀ W,Below I.heap.size I W→Calls Tryz.prog 134 #[.agg #[.string (bs A.name),.slice q1 A.attrs.length q2,.slice q3 A.kids.length q4,.string (bs A.text),.string (Y ++ ⟨#[47]⟩ ++ bs A.name)],.bool true] W (dx (fw A (sl (sl D aw) A.name) true) (fun e _=>e = .returned (.string (bs (eI A)))) W)):=fun W h=>by
          rw [g8.out];exact py A _ true W _ _ (g9.out.later ((O.out.trans (h.mono O.out.size)))) d5.out.1.kl d5.out.1.txt
         cases a7:fw A (sl (sl D aw) A.name) true with
         | some x =>
          have HR:Hid (E=some x):=by show _=_; rw [bo.out,a7]; rfl
          have e5:Hid (∀ W,Below I.heap.size I W→Calls Tryz.prog 134 #[.agg #[.string (bs A.name),.slice q1 A.attrs.length q2,.slice q3 A.kids.length q4,.string (bs A.text),.string (Y ++ ⟨#[47]⟩ ++ bs A.name)],.bool true] W fun e w'=>e = .panicked [{ v:=.iface 173 (.agg #[.int .i64 x.1,.string (bs x.2)]),recovered:=false }]∧Below I.heap.size I w'):=fun W h =>
           (d3.out W h).mono fun e w' ⟨h1,h2,h3⟩=>⟨h2 x a7,h.trans (h1.mono h.size)⟩
          clear a7 d3 bo;go_upto_region 13 with fail
          refine bm (Ca wr.heap.size (.string (bs A.name)) (.slice q1 A.attrs.length q2) (.slice q3 A.kids.length q4) (.string (bs A.text)) I _ _ _ _ _ _ _ _ _ _ _ _ _ _ _ _ _ _ _ _ _ _ _ _ _ _ _ _ _ _ _ _ _ _ _ _ _ _ _ _ _ _ _ _ _ _ _ _ _ _ _ _ _ _ _) (by kernel_rfl) 11 rfl (by kernel_rfl) ⟨false,false,false,false,false,false,false,false,false,false,false,rfl,rfl,rfl,⟨rfl,rfl,rfl,rfl,rfl⟩⟩ ?fin ?step
          case fin =>
           rintro a' w' ⟨f0,f1,f2,f3,f4,f5,f6,f7,f8,f9,f10,hl,rfl,hw,Z⟩;have gv:[true,true,true,true,true,true,true,true,true,true,true]=[f0,f1,f2,f3,f4,f5,f6,f7,f8,f9,f10]:=congrArg Array.toList hl;simp only [List.cons.injEq,and_true] at gv;obtain ⟨rfl,rfl,rfl,rfl,rfl,rfl,rfl,rfl,rfl,rfl,rfl⟩:=gv;unfold lq;simp only [cond_true];exact (Bool.false_ne_true Z.out.1.symm).elim
          case step =>
           rintro hT a' w' ⟨f0,f1,f2,f3,f4,f5,f6,f7,f8,f9,f10,rfl,rfl,hw,Z⟩ i hi;rw [mem_ready] at hi;obtain ⟨J,o,ho,ha⟩:=hi;have mo:i<11:=(Array.getElem?_eq_some_iff.1 ho).1;rcases (by omega:i=0∨i=1∨i=2∨i=3∨i=4∨i=5∨i=6∨i=7∨i=8∨i=9∨i=10) with rfl | rfl | rfl | rfl | rfl | rfl | rfl | rfl | rfl | rfl | rfl
           · have U:=ho
             simp at J ho;subst J ho;clear ha;obtain rfl:f10=false:=Z.out.2.2.2.2;subst hw;refine .inl ?_
             unfold lq Oper.wp;go_simp
             exact ⟨true,f1,f2,f3,f4,f5,f6,f7,f8,f9,false,rfl,rfl,rfl,Z⟩
           · have U:=ho
             simp at J ho;subst J ho;clear ha;subst hw;refine .inl ?_
             unfold lq Oper.wp;go_simp
             exact ⟨f0,true,f2,f3,f4,f5,f6,f7,f8,f9,f10,rfl,rfl,rfl,Z⟩
           · have U:=ho
             simp at J ho;subst J ho;simp [Region.binds] at ha
             obtain rfl:f1=true:=by simp only [ha]
             clear ha;subst hw;refine .inl ?_
             unfold lq Oper.wp;go_simp
             exact ⟨f0,true,true,f3,f4,f5,f6,f7,f8,f9,f10,rfl,rfl,rfl,Z⟩
           · have U:=ho
             simp at J ho;subst J ho;clear ha;subst hw;refine .inl ?_
             unfold lq Oper.wp;go_simp
             exact ⟨f0,f1,f2,true,f4,f5,f6,f7,f8,f9,f10,rfl,rfl,rfl,Z⟩
           · have U:=ho
             simp at J ho;subst J ho;clear ha;subst hw;refine .inl ?_
             unfold lq Oper.wp;go_simp
             exact ⟨f0,f1,f2,f3,true,f5,f6,f7,f8,f9,f10,rfl,rfl,rfl,Z⟩
           · have U:=ho
             simp at J ho;subst J ho;simp [Region.binds] at ha
             obtain rfl:f3=true:=by simp only [ha]
             obtain rfl:f4=true:=by simp only [ha]
             clear ha;subst hw;refine .inl ?_
             unfold lq Oper.wp;go_simp
             exact ⟨f0,f1,f2,true,true,true,f6,f7,f8,f9,f10,rfl,rfl,rfl,Z⟩
           · have U:=ho
             simp at J ho;subst J ho;simp [Region.binds] at ha
             obtain rfl:f5=true:=by simp only [ha]
             clear ha;subst hw;refine .inl ?_
             unfold lq Oper.wp;go_simp
             refine (e5.out _ hd.out).mono ?_
             rintro e w9 ⟨rfl,b5⟩;exact ⟨rfl,dx.bad HR.out (aa.out.trans ((a5.out.1.trans ((O.out.trans (b5.mono O.out.size)).mono b2)).mono aa.out.size)) rfl⟩
           · have U:=ho
             simp at J ho;subst J ho;simp [Region.binds] at ha
             obtain rfl:f6=true:=by simp only [ha]
             clear ha;exact (Bool.false_ne_true Z.out.1.symm).elim
           · have U:=ho
             simp at J ho;subst J ho;simp [Region.binds] at ha
             obtain rfl:f7=true:=by simp only [ha]
             clear ha;exact (Bool.false_ne_true Z.out.2.1.symm).elim
           · have U:=ho
             simp at J ho;subst J ho;simp [Region.binds] at ha
             obtain rfl:f8=true:=by simp only [ha]
             clear ha;exact (Bool.false_ne_true Z.out.2.2.1.symm).elim
           · have U:=ho
             simp at J ho;subst J ho;simp [Region.binds] at ha
             obtain rfl:f9=true:=by simp only [ha]
             clear ha;exact (Bool.false_ne_true Z.out.2.2.2.1.symm).elim
         | none =>
          have e5:Hid (∀ W,Below I.heap.size I W→Calls Tryz.prog 134 #[.agg #[.string (bs A.name),.slice q1 A.attrs.length q2,.slice q3 A.kids.length q4,.string (bs A.text),.string (Y ++ ⟨#[47]⟩ ++ bs A.name)],.bool true] W fun e w'=>e = .returned (.string (bs (eI A)))∧Below W.heap.size W w'):=fun W h =>
           (d3.out W h).mono fun e w' ⟨h1,h2,h3⟩=>⟨h3 a7,h1⟩
          have lp:Hid (E=dA (sl D aw) (K.drop (k+1)) (K.take (k+1))):=by show _=_; rw [bo.out,a7]; rfl
          clear a7 d3 bo;have hP:Hid (aj w3.heap.size 129 2 gM I.drew (.slice oa k oc) ((K.take k).map lm)):=k9.out;have eV:Hid (ak I.drew wr.heap.size [.string (bs A.name),.slice q1 A.attrs.length q2,.slice q3 A.kids.length q4,.string (bs A.text)]):=⟨b8.out.lt,b8.out.cell,b8.out.free⟩;have k6:Hid (∀ V:World,af 2 gM (V.alloc (.cells #[.string (bs A.name),.string (bs (eI A))] 129)) (.slice (some ⟨V.heap.size,0,none⟩) 1 1) [lm A]):=fun V=>Ak (lm A) V _ rfl;have lF:Hid ((((K.take k).map lm).length+[lm A].length)*32≤140737488355328):=by show _≤_; rw [hc.out]; have:=ll.out; simp only [List.length_cons,List.length_nil]; omega
          have lV:Hid (∀ (V:World) (o:Obj),I.heap.size≤V.heap.size→w3.heap.size≤(V.alloc o).heap.size):=fun V o h=>by have h1:=O.out.size; have h2:=b2; show _≤(V.heap.push o).size; simp only [Array.size_push]; omega
          have l0:Hid (∀ (V:World) (o:Obj),Below I.drew.heap.size I.drew V→Below w3.heap.size wr (V.alloc o)):=fun V o h=>(((O.out.mono b2).trans ((aY (Below.refl _ _) 1:Below I.heap.size I I.drew).mono (by have:=O.out.size; omega))).trans (h.mono (by have:=O.out.size; show _≤I.heap.size; omega))).alloc (by have:=O.out.size; have h2:I.heap.size≤V.heap.size:=h.size; omega) o;have lg:Hid (∀ g,(Value.slice oa k oc).ownBlock=some g→w3.heap.size≤g):=fun g h=>(e6.out.lt _ h).1;have lb:Hid (some wr.heap.size≠(Value.slice oa k oc).ownBlock):=fun h=>by have:=(e6.out.lt _ h.symm).2; omega
          go_upto_region 13 with fail
          go_region_held3 (fun w'=>w'.cell? ⟨wr.heap.size,0,none⟩=some (.string (bs A.name))∧w'.cell? ⟨wr.heap.size,1,none⟩=some (.slice q1 A.attrs.length q2)∧w'.cell? ⟨wr.heap.size,2,none⟩=some (.slice q3 A.kids.length q4)∧w'.cell? ⟨wr.heap.size,3,none⟩=some (.string (bs A.text))) (first | exact ⟨c0,c1,c2,c3⟩ | exact ⟨c9.out.cell 0 _ rfl,c9.out.cell 1 _ rfl,c9.out.cell 2 _ rfl,c9.out.cell 3 _ rfl⟩ | exact ⟨e0,e1,e2,e3⟩ | (go_keep; done)) (first | (go_at_call 134; refine (e5.out _ hd.out).mono ?_; rintro e w9 ⟨rfl,b5⟩; have bv:=zH (eV.out.below b5 eV.out.lt); have fz:=zH b5; have e0:=bv.out.cell 0 _ rfl; have e1:=bv.out.cell 1 _ rfl; have e2:=bv.out.cell 2 _ rfl; have e3:=bv.out.cell 3 _ rfl; clear b5) | (refine cc _ rfl (.tmp 43) (.tmp 51) 52 rfl w3.heap.size 129 Tryz.underlying52 wM rfl (by decide) ic (.slice oa k oc) ((K.take k).map lm) (by simp [Act.eval]) (aj.alloc (hP.out.below fz.out) _) _ [lm A] (by simp [Act.eval]) (k6.out _) (wb _) lF.out (by decide) (lV.out _ _ fz.out.size) ?_; intro a8 n8 c8 wz dg ag; have k0:=zH (jF (l0.out _ _ fz.out) b2 ag lg.out); have g4:=zH dg; have c9:=zH ((ak.alloc bv.out _).grown ag lb.out); clear dg ag))
          obtain ⟨_,_,dk⟩:=g4.out.shape;simp only [Value.slice.injEq,List.length_append,List.length_cons,List.length_nil,hc.out,Nat.zero_add] at dk;obtain ⟨-,dk,-⟩:=dk;subst dk;go_wp2
          go_roundw
          case rel =>
           have h1:=a5.out;refine ⟨k+1,a8,c8,hlt,by go_num,rfl,h1.1.trans k0.out,?_,lp.out⟩
           rw [g7.out,List.map_append];exact g4.out
          case measure=>simp [intOf]; omega
      · obtain rfl:k=K.length:=by omega
        go_wp2
        go_ret
        have h1:=a5.out;have kr:E=none:=by rw [h1.2.2,List.drop_length]; rfl
        refine dx.good kr (aa.out.trans (h1.1.mono aa.out.size)) ⟨_,rfl,?_⟩
        rw [d2.out];have h2:=h1.2.1;rw [List.take_length] at h2;exact h2.base_mono aa.out.size
end Go.Proofs.YtominiaohfjobaaGreatDoor
