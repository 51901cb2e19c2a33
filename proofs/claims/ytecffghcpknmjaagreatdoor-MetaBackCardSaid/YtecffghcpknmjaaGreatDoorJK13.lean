/- A tree's printing is built as that tree; no program in sight. -/
import Derived.Test.YtecffghcpknmjaaGreatDoorJK12
import Derived.Test.YtecffghcpknmjaaGreatDoorJK09
import Derived.Test.YtecffghcpknmjaaGreatDoorJK04
import Derived.Test.YtecffghcpknmjaaGreatDoorJK05
import Derived.Test.YtecffghcpknmjaaGreatDoorJK06
import Derived.Test.YtecffghcpknmjaaGreatDoorJK07
import Derived.Test.YtecffghcpknmjaaGreatDoorJK08
import Derived.Test.YtecffghcpknmjaaGreatDoorJK10
import Derived.Test.YtecffghcpknmjaaGreatDoorJK11
import Derived.Test.YtecffghcpknmjaaGreatDoorOwn2
import Derived.Test.YtecffghcpknmjaaGreatDoorQB
import Derived.Test.YtecffghcpknmjaaGreatDoorG2
import Derived.Test.YtecffghcpknmjaaGreatDoorK19
import Derived.Test.YtecffghcpknmjaaGreatDoorK4
import Derived.Test.YtecffghcpknmjaaGreatDoorR0
import Derived.Test.YtecffghcpknmjaaGreatDoorL0
import Derived.Test.YtecffghcpknmjaaGreatDoorSB
import Derived.Test.YtecffghcpknmjaaGreatDoorJK03
import Derived.Test.YtecffghcpknmjaaGreatDoorL1
import Derived.Test.YtecffghcpknmjaaGreatDoorL11
import Derived.Test.YtecffghcpknmjaaGreatDoorJK01
import Derived.ProofKit
import Derived.Deep.Slices
import Derived.Test.YtecffghcpknmjaaGreatDoorRows
import Derived.WalkKit
import Derived.OpenShut
import Derived.HandedShaped
import Derived.Lay
import Derived.LaidOnce
import Derived.Test.YtecffghcpknmjaaGreatDoorJK02
namespace Go.Proofs.YtecffghcpknmjaaGreatDoor
open Go Go.RowKit
mutual
def toksT:Tr→List Tk
 | .mk n a ks x=>if n.isEmpty then [⟨4,[],[],x⟩] else if ks.isEmpty then [⟨2,n,a,[]⟩] else ⟨1,n,a,[]⟩::(toksL ks ++ [⟨3,n,[],[]⟩])
def toksL:List Tr→List Tk
 | []=>[]
 | t::l=>toksT t ++ toksL l
end
mutual
theorem toks_print : ∀ t:Tr,printP (toksT t)=t.pr
 | .mk n a ks x=>by
  rw [toksT,Tr.pr];by_cases hn:n.isEmpty=true
  · rw [if_pos hn,if_pos hn,printP_one]; rfl
  · rw [if_neg hn,if_neg hn]
    by_cases hk:ks.isEmpty=true
    · rw [if_pos hk,if_pos hk,printP_one]; rfl
    · rw [if_neg hk,if_neg hk]
      have h1:printP (⟨1,n,a,[]⟩::(toksL ks ++ [⟨3,n,[],[]⟩]))=tokP ⟨1,n,a,[]⟩ ++ printP (toksL ks ++ [⟨3,n,[],[]⟩]):=rfl;rw [h1,printP_app,toksL_print ks,printP_one];rfl
theorem toksL_print : ∀ l:List Tr,printP (toksL l)=Tr.prL l
 | []=>by rw [toksL,Tr.prL]; rfl
 | t::l=>by rw [toksL,Tr.prL,printP_app,toks_print t,toksL_print l]
end
def RightL:List Tr→Prop
 | []=>True
 | k::l=>(k.name≠[]→RightT k)∧(k.name=[]→LeafOk k ∧ ∀ u r,l=u::r→u.name≠[])∧RightL l
theorem right_list : ∀ (ks:List Tr),(∀ k ∈ ks,k.name≠[]→RightT k)→(∀ k ∈ ks,k.name=[]→LeafOk k)→(∀ (k:Nat) (h:k+1<ks.length),(ks[k]'(Nat.lt_of_succ_lt h)).name=[]→(ks[k+1]'h).name≠[])→RightL ks
 | [],_,_,_=>trivial
 | k::l,h1,h2,h3=>by
  refine ⟨h1 k (List.mem_cons_self ..),fun hn=>⟨h2 k (List.mem_cons_self ..) hn,fun u r e=>?_⟩,right_list l (fun x hx=>h1 x (List.mem_cons_of_mem _ hx)) (fun x hx=>h2 x (List.mem_cons_of_mem _ hx)) (fun i hi hx=>?_)⟩
  · subst e
    exact h3 0 (by simp) hn
  · exact h3 (i+1) (by simpa using hi) hx
theorem RightT.kidsL {t:Tr} (h:RightT t):RightL t.kids:=by
 cases h with
 | mk hn hx ha hk hl hs=>exact right_list _ hk hl hs
theorem okName_good {n:Bs} (h:okName n=true):nameLen n=n.length∧n≠[]:=by
 unfold okName at h;simp only [Bool.and_eq_true,Bool.not_eq_true',decide_eq_true_eq] at h;exact ⟨h.2,fun e=>by rw [e] at h; exact absurd h.1 (by decide)⟩
theorem goodAtts_a {l:List At2} (h:GoodAtts l):(∀ a ∈ l,GoodA a)∧(l.map (·.1)).Nodup :=
 ⟨fun a ha=>by
  obtain ⟨h1,h2⟩:=h.1 a ha;obtain ⟨h3,h4⟩:=okName_good h1
  exact ⟨h3,h4,fun c hc=>List.all_eq_true.1 h2 c hc⟩,h.2⟩
theorem toks_head {t:Tr} (h:t.name≠[]) : ∃ u r,toksT t=u::r∧u.kind≠4:=by
 obtain ⟨n,a,ks,x⟩:=t;have h':n≠[]:=h;have hn : ¬ n.isEmpty=true:=by simpa using h'
 rw [toksT,if_neg hn];split
 · exact ⟨_,_,rfl,show (2:Int)≠4 by decide⟩
 · exact ⟨_,_,rfl,show (1:Int)≠4 by decide⟩
mutual
theorem alt_t : ∀ (t:Tr),RightT t → ∀ (f:Bool) (rest:List Tk),Alt false rest→Alt f (toksT t ++ rest)
 | .mk n a ks x,h,f,rest,hr=>by
  have hL:=h.kidsL;cases h with
  | mk hn hx ha hk hl hs =>
   obtain ⟨g1,g2⟩:=okName_good hn;obtain ⟨g3,g4⟩:=goodAtts_a ha;have hne : ¬ n.isEmpty=true:=by simpa using g2
   rw [toksT,if_neg hne];by_cases hk0:ks.isEmpty=true
   · rw [if_pos hk0]
     exact ⟨.op f 2 (.inr rfl) n a g1 g2 g3 g4,(fun h=>absurd h (show ¬ (2:Int)=4 by decide)),hr⟩
   · rw [if_neg hk0]
     refine ⟨.op f 1 (.inl rfl) n a g1 g2 g3 g4,(fun h=>absurd h (show ¬ (1:Int)=4 by decide)),?_⟩
     show Alt false ((toksL ks ++ [⟨3,n,[],[]⟩]) ++ rest)
     rw [List.append_assoc];exact alt_l ks hL _ ⟨.cl false n g1 g2,(fun h=>absurd h (show ¬ (3:Int)=4 by decide)),hr⟩ (fun u r e=>by cases e; exact (show (3:Int)≠4 by decide))
theorem alt_l : ∀ (ks:List Tr),RightL ks → ∀ (rest:List Tk),Alt false rest→(∀ u r,rest=u::r→u.kind≠4)→Alt false (toksL ks ++ rest)
 | [],_,rest,hr,_=>by rw [toksL]; exact hr
 | k::l,h,rest,hr,h4=>by
  obtain ⟨h1,h2,h3⟩:=h;have ih:=alt_l l h3 rest hr h4;rw [toksL,List.append_assoc];by_cases hn:k.name=[]
  · obtain ⟨⟨e1,e2,e3,e4⟩,h5⟩:=h2 hn
    obtain ⟨kn,ka,kk,kx⟩:=k;simp only [Tr.name,Tr.attrs,Tr.kids,Tr.text] at hn e1 e2 e3 e4;subst hn e1 e2;rw [toksT,if_pos (show ([]:Bs).isEmpty=true from rfl)];refine ⟨.tx false kx (fun c hc=>List.all_eq_true.1 e4 c hc),fun _=>⟨e3,fun u r e=>?_⟩,ih⟩
    cases l with
    | nil=>rw [toksL] at e; exact h4 u r e
    | cons k2 l2 =>
     obtain ⟨u2,r2,e5,e6⟩:=toks_head (h5 k2 l2 rfl);rw [toksL,e5] at e;cases e
     exact e6
  · exact alt_t k (h1 hn) false _ ih
end
def frOf (t:Tr):Fr:=⟨t.name,t.attrs,t.kids⟩
theorem frOf_tree {t:Tr} (h:t.text=[]):(frOf t).tree=t:=by obtain ⟨n,a,ks,x⟩:=t; cases h; rfl
theorem map_cons_inv {acc:List (Tk × Bs)} {t:Tk} {l:List Tk} (h:acc.map (·.1)=t::l) : ∃ p more,acc=(t,p)::more∧more.map (·.1)=l:=by
 cases acc with
 | nil=>cases h
 | cons q more =>
  simp only [List.map_cons,List.cons.injEq] at h;obtain ⟨h1,h2⟩:=h;exact ⟨q.2,more,by rw [← h1],h2⟩
theorem map_app_inv {acc:List (Tk × Bs)} {l m:List Tk} (h:acc.map (·.1)=l ++ m) : ∃ a b,acc=a ++ b∧a.map (·.1)=l∧b.map (·.1)=m:=by
 obtain ⟨a,b,h1,h2,h3⟩:=List.map_eq_append_iff.1 h;exact ⟨a,b,h1,h2,h3⟩
mutual
theorem run_t : ∀ (t:Tr),RightT t → ∀ (st:BSt) (acc rest:List (Tk × Bs)),acc.map (·.1)=toksT t→st.root=none→st.stack.length+t.dep≤64→st.count+t.cnt≤4096 →
    runB st (acc ++ rest)=runB (closeB (frOf t) st.stack none (st.count+t.cnt)) rest
 | .mk n a ks x,h,st,acc,rest,he,hr,hd,hc=>by
  have hL:=h.kidsL;have hname:=h;cases hname with
  | mk hn hx ha hk hl hs =>
   obtain ⟨g1,g2⟩:=okName_good hn;have hne : ¬ n.isEmpty=true:=by simpa using g2
   rw [Tr.dep] at hd;rw [Tr.cnt] at hc
   have hb : ∀ k:Int,beginB st ⟨k,n,a,[]⟩ = .ok ⟨⟨n,a,[]⟩::st.stack,none,st.count+1,false⟩:=fun k=>by
    unfold beginB;rw [hr,if_neg (by simp),if_neg (by omega),if_neg (by omega)]
   rw [toksT,if_neg hne] at he;by_cases hk0:ks.isEmpty=true
   · rw [if_pos hk0] at he
     obtain ⟨p,more,rfl,hm⟩:=map_cons_inv he;have:more=[]:=by cases more with | nil=>rfl | cons _ _=>cases hm
     subst this;have hke:ks=[]:=by simpa using hk0
     subst hke
     have hs:stepB st ⟨2,n,a,[]⟩ = .ok (closeB ⟨n,a,[]⟩ st.stack none (st.count+1)):=by
      unfold stepB;rw [if_neg (show ¬ (2:Int)=4 by decide),if_neg (show ¬ (2:Int)=1 by decide),if_pos rfl,hb];rfl
     show runB st ((⟨2,n,a,[]⟩,p)::rest)=_
     simp only [runB,hs];rw [Tr.cnt,Tr.cntL];rfl
   · rw [if_neg hk0] at he
     obtain ⟨p,more,rfl,hm⟩:=map_cons_inv he;obtain ⟨m1,m2,rfl,hm1,hm2⟩:=map_app_inv hm;obtain ⟨p3,m3,rfl,hm3⟩:=map_cons_inv hm2;have:m3=[]:=by cases m3 with | nil=>rfl | cons _ _=>cases hm3
     subst this
     have hs:stepB st ⟨1,n,a,[]⟩ = .ok ⟨⟨n,a,[]⟩::st.stack,none,st.count+1,false⟩:=by
      unfold stepB;rw [if_neg (show ¬ (1:Int)=4 by decide),if_pos rfl,hb]
     obtain ⟨tx',hx'⟩:=run_l ks hL ⟨n,a,[]⟩ st.stack (st.count+1) false m1 hm1 (fun h=>by cases h) (by omega) (by omega);show runB st ((⟨1,n,a,[]⟩,p)::((m1 ++ [(⟨3,n,[],[]⟩,p3)]) ++ rest))=_
     simp only [runB,hs];rw [List.append_assoc,hx']
     have he3:stepB ⟨⟨n,a,[] ++ ks⟩::st.stack,none,st.count+1+Tr.cntL ks,tx'⟩ ⟨3,n,[],[]⟩ = .ok (closeB ⟨n,a,[] ++ ks⟩ st.stack none (st.count+1+Tr.cntL ks)):=by
      unfold stepB;rw [if_neg (show ¬ (3:Int)=4 by decide),if_neg (show ¬ (3:Int)=1 by decide),if_neg (show ¬ (3:Int)=2 by decide),if_pos rfl];unfold endB;exact if_pos rfl
     show runB _ ((⟨3,n,[],[]⟩,p3)::rest)=_
     simp only [runB,he3];rw [Tr.cnt,List.nil_append,show st.count+1+Tr.cntL ks=st.count+(1+Tr.cntL ks) by omega];rfl
theorem run_l : ∀ (ks:List Tr),RightL ks → ∀ (F:Fr) (S:List Fr) (c:Nat) (tx:Bool) (acc:List (Tk × Bs)),acc.map (·.1)=toksL ks→(tx=true → ∀ u r,ks=u::r→u.name≠[])→S.length+1+Tr.depL ks≤64→c+Tr.cntL ks≤4096 →
    ∃ tx':Bool,∀ rest,runB ⟨F::S,none,c,tx⟩ (acc ++ rest)=runB ⟨⟨F.name,F.attrs,F.kids ++ ks⟩::S,none,c+Tr.cntL ks,tx'⟩ rest
 | [],_,F,S,c,tx,acc,he,_,_,_=>by
  rw [toksL] at he;have:acc=[]:=by simpa using he
  subst this;exact ⟨tx,fun rest=>by rw [List.append_nil,Tr.cntL]; rfl⟩
 | k::l,h,F,S,c,tx,acc,he,htx,hd,hc=>by
  obtain ⟨h1,h2,h3⟩:=h;rw [toksL] at he;rw [Tr.depL] at hd;rw [Tr.cntL] at hc;obtain ⟨m1,m2,rfl,hm1,hm2⟩:=map_app_inv he;by_cases hn:k.name=[]
  · obtain ⟨⟨e1,e2,e3,e4⟩,h5⟩:=h2 hn
    obtain ⟨kn,ka,kk,kx⟩:=k;simp only [Tr.name,Tr.attrs,Tr.kids,Tr.text] at hn e1 e2 e3 e4;subst hn e1 e2;have hcn:(Tr.mk [] [] [] kx).cnt=1:=by rw [Tr.cnt,Tr.cntL]
    rw [hcn] at hc;rw [toksT,if_pos (show ([]:Bs).isEmpty=true from rfl)] at hm1;obtain ⟨p,m3,rfl,hm3⟩:=map_cons_inv hm1;have:m3=[]:=by cases m3 with | nil=>rfl | cons _ _=>cases hm3
    subst this
    have htf:tx=false:=by
     cases tx with
     | false=>rfl
     | true=>exact absurd rfl (htx rfl _ _ rfl)
    subst htf
    have hs:stepB ⟨F::S,none,c,false⟩ ⟨4,[],[],kx⟩ = .ok ⟨F.add (.mk [] [] [] kx)::S,none,c+1,true⟩:=by
     have hxe:kx.isEmpty=false:=by simpa using e3
     unfold stepB;rw [if_pos rfl];simp only [lettersB,hxe];rw [if_neg (by simp),if_neg (by simp),if_neg (by omega)]
    obtain ⟨tx',hx'⟩:=run_l l h3 (F.add (.mk [] [] [] kx)) S (c+1) true m2 hm2 (fun _ u r e=>h5 u r e) (by omega) (by omega);refine ⟨tx',fun rest=>?_⟩
    show runB _ ((⟨4,[],[],kx⟩,p)::(m2 ++ rest))=_
    simp only [runB,hs];rw [hx',Tr.cntL,hcn];simp only [Fr.add,List.append_assoc,List.singleton_append];rw [show c+1+Tr.cntL l=c+(1+Tr.cntL l) by omega]
  · have hr:=h1 hn
    rw [if_neg hn] at hd;have hrt:k.text=[]:=by cases hr; assumption
    have ht:=run_t k hr ⟨F::S,none,c,tx⟩ m1;obtain ⟨tx',hx'⟩:=run_l l h3 (F.add k) S (c+k.cnt) false m2 hm2 (fun h=>by cases h) (by omega) (by omega);refine ⟨tx',fun rest=>?_⟩
    rw [List.append_assoc,ht (m2 ++ rest) hm1 rfl (by show S.length+1+k.dep≤64; omega) (by show c+k.cnt≤4096; omega)]
    have hcl:closeB (frOf k) (F::S) none (c+k.cnt)=⟨F.add k::S,none,c+k.cnt,false⟩:=by
     unfold closeB;rw [frOf_tree hrt]
    show runB (closeB (frOf k) (F::S) none (c+k.cnt)) (m2 ++ rest)=_
    rw [hcl,hx',Tr.cntL];simp only [Fr.add,List.append_assoc,List.singleton_append];rw [show c+k.cnt+Tr.cntL l=c+(k.cnt+Tr.cntL l) by omega]
end
theorem tree_back {t:Tr} (h:MayT t):buildR t.pr = .ok t []:=by
 obtain ⟨h1,h2,h3⟩:=h
 have ha:Alt true (toksT t):=by
  have:=alt_t t h1 true [] trivial
  rwa [List.append_nil] at this
 obtain ⟨more,e1,e2⟩:=alt_all (toksT t) (printP (toksT t)).length true [] ha (Nat.le_refl _);rw [toks_print] at e1
 have hall:allR t.pr = .ok more []:=by
  unfold allR;rw [e1,List.nil_append]
 unfold buildR;rw [hall];have:=run_t t h1 st0 more [] e2 rfl (by show 0+t.dep≤64; omega) (by show 0+t.cnt≤4096; omega)
 rw [List.append_nil] at this;show runB st0 more=_
 rw [this];have hrt:t.text=[]:=by cases h1; assumption
 show runB (closeB (frOf t) [] none (0+t.cnt)) []=_
 unfold closeB;rw [frOf_tree hrt];rfl
end Go.Proofs.YtecffghcpknmjaaGreatDoor
namespace Go.Proofs.YtecffghcpknmjaaGreatDoor
open Go Go.RowKit
set_option maxRecDepth 100000 in
set_option maxHeartbeats 32000000 in
theorem right_any : ∀ (n:Nat) (t:Tr) (w:World) (av kv:Value),SizeOf.sizeOf t≤n→NodeOf w t av kv→FineT t →
    Calls Tryz.prog 34 #[nodeV t av kv] w (Says (RightT t) w)
 | 0,t,w,av,kv,hn,_,_=>by
  obtain ⟨n,l,k,x⟩:=t;simp only [Tr.mk.sizeOf_spec] at hn;omega
 | n+1,t,w,av,kv,hn,ht,hf=>by
  obtain ⟨ao,ac,ko,kc,rfl,rfl,hal,hkl⟩:=ht.shape
  have hac:t.attrs.length≤ac∧ac≤9223372036854775807:=by
   obtain ⟨ao',ac',e,h1,h2,-⟩:=ht.att;simp only [Value.slice.injEq] at e;obtain ⟨-,-,rfl⟩:=e;unfold maxLen at h2;exact ⟨h1,by omega⟩
  obtain ⟨hac1,hac2⟩:=hac;have HI:Hid (∀ k (hk:k<t.kids.length) (W':World) (v1 v2:Value),NodeOf W' t.kids[k] v1 v2→Calls Tryz.prog 34 #[nodeV t.kids[k] v1 v2] W' (Says (RightT t.kids[k]) W')):=fun k hk W' v1 v2 h1=>right_any n _ W' v1 v2 (by have:=kid_less hk; omega) h1 (hf.kids _ (List.getElem_mem hk));obtain ⟨N,hN⟩ : ∃ N:S,bs t.name=N:=⟨_,rfl⟩;obtain ⟨X,hX⟩ : ∃ X:S,bs t.text=X:=⟨_,rfl⟩;have HNM:Hid (∀ W,Calls Tryz.prog 64 #[.string N] W fun e w'=>e = .returned (.bool (okName t.name))∧W=w'):=fun W=>by have:=refIsNm_any (bs t.name) W (by rw [bs_size]; have:=hf.name; omega); rw [bs_data] at this; rw [← hN]; exact this
  have hXe:X.toList.isEmpty=t.text.isEmpty:=by rw [empty_data,← hX,bs_size]; cases t.text <;> simp
  have HRI:Hid (RightT t↔okName t.name=true∧t.text=[]∧(∀ k (h:k<t.attrs.length),OkAt t.attrs k h) ∧ ∀ k (h:k<t.kids.length),KidOk t k h):=by show _↔_; rw [right_iff,goodAtts_iff]
  have HF:=Lib.hid hf;have HT:=Lib.hid ht;unfold nodeV;rw [hN,hX];clear hN hX hn ht hf;generalize hon:okName t.name=q1 at *;clear hon;have HBA:Hid (∀ o,Below w.heap.size w (w.alloc o)):=fun o=>(Below.refl _ w).alloc (Nat.le_refl _) _;cases q1 with
  | false =>
   go_enter Tryz.func34,Tryz.ntmps34
   go_wp2_with (go_at_call 64; refine (HNM.out _).mono ?_; rintro e w' ⟨rfl,rfl⟩)
   go_ret
   exact ⟨false,rfl,⟨fun e=>absurd e Bool.false_ne_true,fun e=>by have:=(HRI.out.1 e).1; cases this⟩,HBA.out _⟩
  | true =>
  by_cases h3:t.text=[]
  rotate_left
  · have hxe:X.toList.isEmpty=false:=by rw [hXe]; simpa using h3
    have hxe2:(!X.toList.isEmpty)=true:=by rw [hxe]; rfl
    have H3:=Lib.hid h3;clear h3 hXe;go_enter Tryz.func34,Tryz.ntmps34
    go_wp2_with (go_at_call 64; refine (HNM.out _).mono ?_; rintro e w' ⟨rfl,rfl⟩)
    go_ret
    exact ⟨false,rfl,⟨fun e=>absurd e Bool.false_ne_true,fun e=>absurd (HRI.out.1 e).2.1 H3.out⟩,HBA.out _⟩
  have hxe:X.toList.isEmpty=true:=by rw [hXe,h3]; rfl
  have hxe2:(!X.toList.isEmpty)=false:=by rw [hxe]; rfl
  have HRJ:Hid (RightT t↔(∀ k (h:k<t.attrs.length),OkAt t.attrs k h) ∧ ∀ k (h:k<t.kids.length),KidOk t k h):=by
   show _↔_
   rw [HRI.out];exact ⟨fun h=>h.2.2,fun h=>⟨rfl,h3,h⟩⟩
  clear h3 hXe HRI;go_enter Tryz.func34,Tryz.ntmps34
  go_wp2_with (go_at_call 64; refine (HNM.out _).mono ?_; rintro e w' ⟨rfl,rfl⟩)
  refine wp_world ?_
  intro W hW;have hbW:Below w.heap.size w W:=by rw [hW]; exact HBA.out _
  have hx0:Box W w.heap.size [.string N,.slice ao t.attrs.length ac,.slice ko t.kids.length kc,.string X]:=by rw [hW]; exact Box.new _ _ _ _ rfl
  have HW:=Lib.hid hbW;have HX:=Lib.hid hx0;have hWl:=hx0.lt;clear hW hbW hx0 hxe hxe2 HNM HBA;go_loopw [3,21] (fun _ i wr=>∃ k:Nat,k≤t.attrs.length∧i = .int .i64 k∧Hid (Below W.heap.size W wr ∧ ∀ q (h:q<t.attrs.length),q<k→OkAt t.attrs q h)) (fun _ i _=>t.attrs.length - (intOf i).toNat)
  case atStart=>exact ⟨0,Nat.zero_le _,rfl,Below.refl _ _,fun q _ h=>absurd h (Nat.not_lt_zero q)⟩
  case round =>
   obtain ⟨k,hk,rfl,HR⟩:=hrel;have HBR:=Lib.hid (HW.out.trans (HR.out.1.mono HW.out.size));have HXR:=Lib.hid (HX.out.below HR.out.1 hWl);by_cases hlt:k<t.attrs.length
   · obtain ⟨g,o,rfl,hg,-,d0,d1⟩:=(HT.out.later HBR.out).atA k hlt
     have hki:(k:Int)<(t.attrs.length:Int):=by omega
     have hk0:(0:Int)≤(k:Int):=by omega
     have hkc:(k:Int)≤(ac:Int):=by omega
     obtain ⟨N1,hN1⟩ : ∃ N1:S,bs t.attrs[k].1=N1:=⟨_,rfl⟩;obtain ⟨V1,hV1⟩ : ∃ V1:S,bs t.attrs[k].2=V1:=⟨_,rfl⟩;have hz:=HF.out.attrs _ (List.getElem_mem hlt);have HC2:Hid (∀ W,Calls Tryz.prog 64 #[.string N1] W fun e w'=>e = .returned (.bool (okName t.attrs[k].1))∧W=w'):=fun W=>by have:=refIsNm_any (bs t.attrs[k].1) W (by rw [bs_size]; omega); rw [bs_data] at this; rw [← hN1]; exact this
     have HC3:Hid (∀ W,Calls Tryz.prog 65 #[.string V1] W fun e w'=>e = .returned (.bool (okText t.attrs[k].2))∧W=w'):=fun W=>by have:=refPlain_any (bs t.attrs[k].2) W (by rw [bs_size]; omega); rw [bs_data] at this; rw [← hV1]; exact this
     have HOK:Hid (OkAt t.attrs k hlt ↔ ¬ hasAtt t.attrs[k].1 (t.attrs.take k)∧okName t.attrs[k].1=true∧okText t.attrs[k].2=true):=Iff.rfl;have HBN:=Lib.hid (fun o=>HR.out.1.alloc HR.out.1.size o);have HB2:=Lib.hid (fun o=>HBR.out.alloc HBR.out.size o);rw [hN1] at d0;rw [hV1] at d1;have HN1:=Lib.hid hN1;clear hN1 hV1 hz;generalize okName t.attrs[k].1=q2 at *;generalize okText t.attrs[k].2=q3 at *;cases q2 with
     | false =>
      go_wp2_with (go_at_call 64; refine (HC2.out _).mono ?_; rintro e w' ⟨rfl,rfl⟩)
      go_ret
      exact ⟨false,rfl,⟨fun e=>absurd e Bool.false_ne_true,fun e=>by have:=(HOK.out.1 ((HRJ.out.1 e).1 k hlt)).2.1; cases this⟩,HB2.out _⟩
     | true =>
     cases q3 with
     | false =>
      go_wp2_with (first | (go_at_call 64; refine (HC2.out _).mono ?_; rintro e w' ⟨rfl,rfl⟩) | (go_at_call 65; refine (HC3.out _).mono ?_; rintro e w' ⟨rfl,rfl⟩))
      go_ret
      exact ⟨false,rfl,⟨fun e=>absurd e Bool.false_ne_true,fun e=>by have:=(HOK.out.1 ((HRJ.out.1 e).1 k hlt)).2.2; cases this⟩,HB2.out _⟩
     | true =>
      have b1:=HXR.out.cell 1 _ rfl;have bl:=HXR.out.lt;go_wp2_with (first | (go_at_call 64; refine (HC2.out _).mono ?_; rintro e w' ⟨rfl,rfl⟩) | (go_at_call 65; refine (HC3.out _).mono ?_; rintro e w' ⟨rfl,rfl⟩))
      refine wp_world ?_
      intro wo hwo;have hbo:Below W.heap.size W wo:=by rw [hwo]; exact HBN.out _
      have hxo:Box wo wr.heap.size [.string N1,.string V1]:=by rw [hwo]; exact Box.new _ _ _ _ rfl
      have HBO:=Lib.hid hbo;have HXO:=Lib.hid hxo;have hol:=hxo.lt;clear hwo hbo hxo b1 bl d0 d1 HC2 HC3 HBN HB2;obtain ⟨wq,hwq⟩ : ∃ wq:World,wq=wr:=⟨_,rfl⟩;subst hwq;go_loopw [41] (fun i wr2=>∃ j:Nat,j≤k∧i = .int .i64 j∧Hid (Below wo.heap.size wo wr2 ∧ ∀ q (h:q<t.attrs.length),q<j→(t.attrs[q]'h).1≠(t.attrs[k]'hlt).1)) (fun i _=>k - (intOf i).toNat)
      case atStart=>exact ⟨0,Nat.zero_le _,rfl,Below.refl _ _,fun q _ h=>absurd h (Nat.not_lt_zero q)⟩
      case round =>
       obtain ⟨j,hj,rfl,HR2⟩:=hrel;have HBW:=Lib.hid (HW.out.trans ((HBO.out.trans (HR2.out.1.mono HBO.out.size)).mono HW.out.size));by_cases hjk:j<k
       · have hjl:j<t.attrs.length:=by omega
         obtain ⟨g',o',ee,hg2,-,f0,f1⟩:=(HT.out.later HBW.out).atA j hjl;simp only [Option.some.injEq,Addr.mk.injEq,and_true] at ee;obtain ⟨rfl,rfl⟩:=ee;have hx2:=HXO.out.below HR2.out.1 hol;have a0:=hx2.cell 0 _ rfl;have al:=hx2.lt;have hji:(j:Int)<(k:Int):=by omega
         have hE:=bs_beq2 t.attrs[k].1 t.attrs[j].1;rw [HN1.out] at hE;have HBN:=Lib.hid (fun o=>HR2.out.1.alloc HR2.out.1.size o);have HB2:=Lib.hid (fun o=>HBW.out.alloc HBW.out.size o);clear hx2;by_cases he:t.attrs[k].1=t.attrs[j].1
         · rw [decide_eq_true he] at hE
           have HH:Hid (hasAtt t.attrs[k].1 (t.attrs.take k)):=⟨j,by rw [List.length_take]; omega,by rw [List.getElem_take]; exact he.symm⟩;clear he;go_wp2
           go_ret
           exact ⟨false,rfl,⟨fun e=>absurd e Bool.false_ne_true,fun e=>absurd HH.out (HOK.out.1 ((HRJ.out.1 e).1 k hlt)).1⟩,HB2.out _⟩
         · rw [decide_eq_false he] at hE
           have HH:=Lib.hid he;clear he;go_wp2
           go_roundw
           case rel=>exact ⟨j+1,hjk,by go_num,HBN.out _,fun q h1 h3=>by
            rcases Nat.lt_succ_iff_lt_or_eq.1 h3 with h | rfl
            · exact HR2.out.2 q h1 h
            · exact fun e=>HH.out e.symm⟩
           case measure=>simp [intOf]; omega
       · obtain rfl:j=k:=by omega
         have HOO:Hid (OkAt t.attrs j hlt):=HOK.out.2 ⟨fun ⟨q,h1,h2⟩=>by
          have hq:q<j:=by rw [List.length_take] at h1; omega
          rw [List.getElem_take] at h2
          exact HR2.out.2 q (by omega) hq h2,by trivial,by trivial⟩
         have HB3:=Lib.hid (HBO.out.trans (HR2.out.1.mono HBO.out.size));go_wp2
         go_roundw
         case rel=>exact ⟨j+1,hlt,by go_num,HB3.out,fun q h1 h3=>by
          rcases Nat.lt_succ_iff_lt_or_eq.1 h3 with h | rfl
          · exact HR.out.2 q h1 h
          · exact HOO.out⟩
         case measure=>simp [intOf]; omega
   · obtain rfl:k=t.attrs.length:=by omega
     obtain ⟨wq,hwq⟩ : ∃ wq:World,wq=wr:=⟨_,rfl⟩;subst hwq
     have HRK:Hid (RightT t ↔ ∀ k (h:k<t.kids.length),KidOk t k h):=by
      show _↔_
      rw [HRJ.out];exact ⟨fun h=>h.2,fun h=>⟨fun q h1=>HR.out.2 q h1 h1,h⟩⟩
     have b2:=HXR.out.cell 2 _ rfl;have bl:=HXR.out.lt;clear HR HRJ HX HW hWl hk;go_wp2
     go_loopw [7,55] (fun _ i wr=>∃ k:Nat,k≤t.kids.length∧i = .int .i64 k∧Hid (Below wq.heap.size wq wr ∧ ∀ q (h:q<t.kids.length),q<k→KidOk t q h)) (fun _ i _=>t.kids.length - (intOf i).toNat)
     case atStart=>exact ⟨0,Nat.zero_le _,rfl,Below.refl _ _,fun q _ h=>absurd h (Nat.not_lt_zero q)⟩
     case round =>
      obtain ⟨k,hk,rfl,HR⟩:=hrel;have HBW:=Lib.hid (HBR.out.trans (HR.out.1.mono HBR.out.size));have HXX:=Lib.hid (HXR.out.below HR.out.1 bl);clear b2;by_cases hlt:k<t.kids.length
      · have hnk:=HT.out.later HBW.out
        obtain ⟨g,o,r1,r2,s1,s2,rfl,hg,-,c0,c1,c2,c3,hn1⟩:=hnk.at k hlt;have hki:(k:Int)<(t.kids.length:Int):=by omega
        have hk0:(0:Int)≤(k:Int):=by omega
        obtain ⟨N2,hN2⟩ : ∃ N2:S,bs t.kids[k].name=N2:=⟨_,rfl⟩;obtain ⟨X2,hX2⟩ : ∃ X2:S,bs t.kids[k].text=X2:=⟨_,rfl⟩;have hne2:N2.toList.isEmpty=t.kids[k].name.isEmpty:=by rw [empty_data,← hN2,bs_size]; cases t.kids[k].name <;> simp
        have HBN:=Lib.hid (fun o=>HR.out.1.alloc HR.out.1.size o);have HB2:=Lib.hid (fun o=>HBW.out.alloc HBW.out.size o);have HFK:=Lib.hid (HF.out.kids _ (List.getElem_mem hlt));rw [hN2] at c0;rw [hX2] at c3;by_cases hne:t.kids[k].name=[]
        · have he:N2.toList.isEmpty=true:=by rw [hne2,hne]; rfl
          have he2:(!N2.toList.isEmpty)=false:=by rw [he]; rfl
          have hKO:KidOk t k hlt↔(t.kids[k].attrs.length=0∧t.kids[k].kids.length=0∧t.kids[k].text≠[]∧okText t.kids[k].text=true) ∧ ∀ j (hj:j+1=k),(t.kids[j]'(by omega)).name≠[]:=by
           unfold KidOk LeafOk;rw [List.length_eq_zero_iff,List.length_eq_zero_iff]
           exact ⟨fun h=>by
            rcases h with h | h
            · exact absurd hne h.1
            · exact h.2,fun h=>.inr ⟨hne,h⟩⟩
          have HKO:=Lib.hid hKO;have HTX:Hid (∀ W,Calls Tryz.prog 65 #[.string X2] W fun e w'=>e = .returned (.bool (okText t.kids[k].text))∧W=w'):=fun W=>by have:=refPlain_any (bs t.kids[k].text) W (by rw [bs_size]; have:=HFK.out.text; omega); rw [bs_data] at this; rw [← hX2]; exact this
          have hXe:X2.toList.isEmpty=t.kids[k].text.isEmpty:=by rw [empty_data,← hX2,bs_size]; cases t.kids[k].text <;> simp
          have HKP:Hid (∀ (j:Nat) (hj:j+1=k),wr.cell? ⟨g,o+j*4,none⟩=some (.string (bs (t.kids[j]'(by omega)).name))):=fun j hj=>by
           obtain ⟨g',o',_,_,_,_,e1,-,-,d0,-⟩:=hnk.at j (by omega);simp only [Option.some.injEq,Addr.mk.injEq,and_true] at e1;obtain ⟨rfl,rfl⟩:=e1;exact d0
          have FALSE:Hid (¬ KidOk t k hlt → ∀ o1,Says (RightT t) w (.returned (.bool false)) (wr.alloc o1)):=fun h o1=>⟨false,rfl,⟨fun e=>absurd e Bool.false_ne_true,fun e=>absurd (HRK.out.1 e k hlt) h⟩,HB2.out _⟩;clear hnk hn1 hN2 hX2 hne2 hKO hne HB2;generalize hal2:t.kids[k].attrs.length=la at *;generalize hkl2:t.kids[k].kids.length=lk at *;generalize okText t.kids[k].text=q at *;clear hal2 hkl2;by_cases h1:la=0
          rotate_left
          · have hI:(0:Int)<(la:Int):=by omega
            have HNO:=Lib.hid (FALSE.out (fun h=>h1 (HKO.out.1 h).1.1));clear h1;go_wp2_with fail
            go_ret
            exact HNO.out _
          have hI1 : ¬ (0:Int)<(la:Int):=by omega
          by_cases h2:lk=0
          rotate_left
          · have hI:(0:Int)<(lk:Int):=by omega
            have HNO:=Lib.hid (FALSE.out (fun h=>h2 (HKO.out.1 h).1.2.1));clear h2 h1;go_wp2_with fail
            go_ret
            exact HNO.out _
          have hI2 : ¬ (0:Int)<(lk:Int):=by omega
          by_cases h3:t.kids[k].text=[]
          · have hxe:X2.toList.isEmpty=true:=by rw [hXe,h3]; rfl
            have HNO:=Lib.hid (FALSE.out (fun h=>(HKO.out.1 h).1.2.2.1 h3));clear h3 h2 h1 hXe;go_wp2_with fail
            go_ret
            exact HNO.out _
          have hxe:X2.toList.isEmpty=false:=by rw [hXe]; simpa using h3
          cases q with
          | false =>
           have HNO:=Lib.hid (FALSE.out (fun h=>by have:=(HKO.out.1 h).1.2.2.2; cases this));clear h3 h2 h1 hXe;go_wp2_with (go_at_call 65; refine (HTX.out _).mono ?_; rintro e w' ⟨rfl,rfl⟩)
           go_ret
           exact HNO.out _
          | true =>
           have HKQ:Hid (KidOk t k hlt ↔ ∀ j (hj:j+1=k),(t.kids[j]'(by omega)).name≠[]):=by
            show _↔_
            rw [HKO.out];exact ⟨fun h=>h.2,fun h=>⟨⟨h1,h2,h3,by trivial⟩,h⟩⟩
           clear h3 h2 h1 hXe HKO;by_cases hk1:k=0
           · have hkI : ¬ (0:Int)<(k:Int):=by omega
             have HOK:Hid (KidOk t k hlt):=HKQ.out.2 fun j hj=>by omega
             clear hk1;go_wp2_with (go_at_call 65; refine (HTX.out _).mono ?_; rintro e w' ⟨rfl,rfl⟩)
             go_roundw
             case rel=>exact ⟨k+1,hlt,by go_num,HBN.out _,fun q h1 h3=>by
              rcases Nat.lt_succ_iff_lt_or_eq.1 h3 with h | rfl
              · exact HR.out.2 q h1 h
              · exact HOK.out⟩
             case measure=>simp [intOf]; omega
           · obtain ⟨j,hj⟩ : ∃ j,j+1=k:=⟨k - 1,by omega⟩
             have hkI:(0:Int)<(k:Int):=by omega
             have hjw:(k:Int) - 1=(j:Int):=by omega
             have hjI:(j:Int)<(t.kids.length:Int):=by omega
             have hj0:(0:Int)≤(j:Int):=by omega
             have b2:=HXX.out.cell 2 _ rfl;have bl:=HXX.out.lt;have kp:=HKP.out j hj;have hjt:j<t.kids.length:=by omega
             obtain ⟨N3,hN3⟩ : ∃ N3:S,bs (t.kids[j]'hjt).name=N3:=⟨_,rfl⟩;have hne3:N3.toList.isEmpty=(t.kids[j]'hjt).name.isEmpty:=by rw [empty_data,← hN3,bs_size]; cases (t.kids[j]'hjt).name <;> simp
             rw [hN3] at kp;have HJ:=Lib.hid hj;by_cases hpe:(t.kids[j]'hjt).name=[]
             · have he3:N3.toList.isEmpty=true:=by rw [hne3,hpe]; rfl
               have HNO:=Lib.hid (FALSE.out (fun h=>HKQ.out.1 h j HJ.out hpe));clear hN3 hne3 hpe hj hk1;go_wp2_with (go_at_call 65; refine (HTX.out _).mono ?_; rintro e w' ⟨rfl,rfl⟩)
               go_ret
               exact HNO.out _
             · have he3:N3.toList.isEmpty=false:=by rw [hne3]; simpa using hpe
               have HOK:Hid (KidOk t k hlt):=HKQ.out.2 fun i hi=>by
                have:i=j:=by omega
                subst this;exact hpe
               clear hN3 hne3 hpe hj hk1;go_wp2_with (go_at_call 65; refine (HTX.out _).mono ?_; rintro e w' ⟨rfl,rfl⟩)
               go_roundw
               case rel=>exact ⟨k+1,hlt,by go_num,HBN.out _,fun q h1 h3=>by
                rcases Nat.lt_succ_iff_lt_or_eq.1 h3 with h | rfl
                · exact HR.out.2 q h1 h
                · exact HOK.out⟩
               case measure=>simp [intOf]; omega
        · have he:N2.toList.isEmpty=false:=by rw [hne2]; simpa using hne
          have he2:(!N2.toList.isEmpty)=true:=by rw [he]; rfl
          have HC:Hid (∀ o1,Calls Tryz.prog 34 #[.agg #[.string N2,.slice r1 t.kids[k].attrs.length r2,.slice s1 t.kids[k].kids.length s2,.string X2]] (wr.alloc o1) (Says (RightT t.kids[k]) (wr.alloc o1))):=fun o1=>by
           have:=HI.out k hlt (wr.alloc o1) _ _ (hn1.later ((Below.refl _ _).alloc (Nat.le_refl _) _))
           unfold nodeV at this;rw [hN2,hX2] at this;exact this
          have HNE:=Lib.hid hne;clear hnk hn1 hN2 hX2 hne2 hne;go_wp2_with fail
          refine (HC.out _).mono ?_
          rintro e w4 ⟨z,rfl,hz4,hb4⟩;have HBN4:=Lib.hid ((HBN.out _).trans (hb4.mono (HBN.out _).size));have HBW4:=Lib.hid ((HB2.out _).trans (hb4.mono (HB2.out _).size));have HZ4:=Lib.hid hz4;clear hb4 hz4 HC c0 c1 c2 c3 HBN HB2;cases z with
          | false =>
           go_wp2
           go_ret
           refine ⟨false,rfl,⟨fun e=>absurd e Bool.false_ne_true,fun e=>?_⟩,HBW4.out⟩
           have h1:=HZ4.out.2 (by
            rcases HRK.out.1 e k hlt with h | h
            · exact h.2
            · exact absurd h.1 HNE.out)
           cases h1
          | true =>
           have HRT:Hid (RightT t.kids[k]):=HZ4.out.1 (by trivial);go_wp2
           go_roundw
           case rel=>exact ⟨k+1,hlt,by go_num,HBN4.out,fun q h1 h3=>by
            rcases Nat.lt_succ_iff_lt_or_eq.1 h3 with h | rfl
            · exact HR.out.2 q h1 h
            · exact .inl ⟨HNE.out,HRT.out⟩⟩
           case measure=>simp [intOf]; omega
      · obtain rfl:k=t.kids.length:=by omega
        go_wp2
        go_ret
        exact ⟨true,rfl,⟨fun _=>HRK.out.2 fun q h1=>HR.out.2 q h1 h1,fun _=>rfl⟩,HBW.out⟩
set_option maxRecDepth 100000 in
set_option maxHeartbeats 8000000 in
theorem refMay_any (t:Tr) (w:World) (av kv:Value) (h:NodeOf w t av kv) (hf:FineT t) (hc:t.cnt≤1000000) :
    Calls Tryz.prog 11 #[nodeV t av kv] w (Says (MayT t) w):=by
 obtain ⟨ao,ac,ko,kc,rfl,rfl,-,-⟩:=h.shape;have HT:=Lib.hid h;obtain ⟨q,hq⟩:=bool_of (RightT t);have HR:Hid (∀ W,Below w.heap.size w W→Calls Tryz.prog 34 #[.agg #[.string (bs t.name),.slice ao t.attrs.length ac,.slice ko t.kids.length kc,.string (bs t.text)]] W fun e w'=>e = .returned (.bool q)∧Below W.heap.size W w'):=fun W hb=>(right_any _ t W _ _ (Nat.le_refl _) (h.later hb) hf).mono fun e w' h=>h.qb hq;have HCN:Hid (∀ W,Below w.heap.size w W→Calls Tryz.prog 35 #[.agg #[.string (bs t.name),.slice ao t.attrs.length ac,.slice ko t.kids.length kc,.string (bs t.text)]] W fun e w'=>e = .returned (.int .i64 t.cnt)∧Below W.heap.size W w'):=fun W hb=>refCount_any _ t W _ _ (Nat.le_refl _) (h.later hb) hc;have HDP:Hid (∀ W,Below w.heap.size w W→Calls Tryz.prog 36 #[.agg #[.string (bs t.name),.slice ao t.attrs.length ac,.slice ko t.kids.length kc,.string (bs t.text)]] W fun e w'=>e = .returned (.int .i64 t.dep)∧Below W.heap.size W w'):=fun W hb=>refDepth_any _ t W _ _ (Nat.le_refl _) (h.later hb) hc;have HMT:Hid (MayT t↔q=true∧t.cnt≤4096∧t.dep≤64):=by show _↔_; unfold MayT; rw [hq]
 have HBA:Hid (∀ o,Below w.heap.size w (w.alloc o)):=fun o=>(Below.refl _ w).alloc (Nat.le_refl _) _;have hxn : ∀ o,o=Obj.cells #[.string (bs t.name),.slice ao t.attrs.length ac,.slice ko t.kids.length kc,.string (bs t.text)] 32→Box (w.alloc o) w.heap.size [.string (bs t.name),.slice ao t.attrs.length ac,.slice ko t.kids.length kc,.string (bs t.text)]:=fun o e=>by subst e; exact Box.new _ _ _ _ rfl
 have HXN:=Lib.hid (hxn _ rfl);clear h hf hq hxn hc;unfold nodeV;generalize t.cnt=cn at *;generalize t.dep=dp at *;go_enter Tryz.func11,Tryz.ntmps11
 go_wp2_with fail
 refine (HR.out _ (HBA.out _)).mono ?_
 rintro e w1 ⟨rfl,hb1⟩;have HB1:=Lib.hid ((HBA.out _).trans (hb1.mono (HBA.out _).size));have hx1:=HXN.out.below hb1 HXN.out.lt;have HX1:=Lib.hid hx1;clear hb1 HXN HR HBA;cases q with
 | false =>
  clear hx1;go_wp2
  go_ret
  exact ⟨false,rfl,⟨fun e=>absurd e Bool.false_ne_true,fun e=>by have:=(HMT.out.1 e).1; cases this⟩,HB1.out⟩
 | true =>
  have a0:=hx1.cell 0 _ rfl;have a1:=hx1.cell 1 _ rfl;have a2:=hx1.cell 2 _ rfl;have a3:=hx1.cell 3 _ rfl;have al:=hx1.lt;clear hx1;go_wp2_with fail
  refine (HCN.out _ HB1.out).mono ?_
  rintro e w2 ⟨rfl,hb2⟩;have HB2:=Lib.hid (HB1.out.trans (hb2.mono HB1.out.size));have hx2:=HX1.out.below hb2 al;clear hb2 HX1 HB1 HCN a0 a1 a2 a3 al;by_cases hc:cn≤4096
  rotate_left
  · have hI : ¬ (cn:Int)≤4096:=by omega
    have HNO:Hid (¬ MayT t):=fun h=>hc (HMT.out.1 h).2.1;clear hx2 hc;go_wp2
    go_ret
    exact ⟨false,by first | rfl | (simp [hI]),⟨fun e=>absurd e Bool.false_ne_true,fun e=>absurd e HNO.out⟩,HB2.out⟩
  · have hI:(cn:Int)≤4096:=by omega
    have a0:=hx2.cell 0 _ rfl;have a1:=hx2.cell 1 _ rfl;have a2:=hx2.cell 2 _ rfl;have a3:=hx2.cell 3 _ rfl;have al:=hx2.lt;clear hx2;go_wp2_with fail
    refine (HDP.out _ HB2.out).mono ?_
    rintro e w3 ⟨rfl,hb3⟩;have HB3:=Lib.hid (HB2.out.trans (hb3.mono HB2.out.size));clear hb3 HB2 HDP a0 a1 a2 a3 al;by_cases hd:dp≤64
    · have hJ:(dp:Int)≤64:=by omega
      have HYES:Hid (MayT t):=HMT.out.2 ⟨by trivial,hc,hd⟩;go_wp2
      go_ret
      exact ⟨true,by first | rfl | (simp [hJ]),⟨fun _=>HYES.out,fun _=>rfl⟩,HB3.out⟩
    · have hJ : ¬ (dp:Int)≤64:=by omega
      have HNO:Hid (¬ MayT t):=fun h=>hd (HMT.out.1 h).2.2;go_wp2
      go_ret
      exact ⟨false,by first | rfl | (simp [hJ]),⟨fun e=>absurd e Bool.false_ne_true,fun e=>absurd e HNO.out⟩,HB3.out⟩
def resW (W:World) (N:Nat) (a b c d e f g:Value):World:=((((((W.setCell ⟨N,0,none⟩ a).setCell ⟨N,1,none⟩ b).setCell ⟨N,2,none⟩ c).setCell ⟨N,3,none⟩ d).setCell ⟨N+1,0,none⟩ e).setCell ⟨N+1,1,none⟩ f).setCell ⟨N+1,2,none⟩ g
def tokPlace (s:S) (p:Tk × Bs):Value:=placeV s.data.toList (pos s p.2)
theorem res_store {W:World} {N:Nat} {u0 u1 u2 u3 p0 p1 p2:Value} (h0:Box W N [u0,u1,u2,u3]) (h1:Box W (N+1) [p0,p1,p2]) (a b c d e f g:Value) :
    Box (resW W N a b c d e f g) N [a,b,c,d]∧Box (resW W N a b c d e f g) (N+1) [e,f,g] :=
 ⟨(((((((h0.set 0 a).set 1 b).set 2 c).set 3 d).grownB (setCell_grown _ _ _ _) (by omega)).grownB (setCell_grown _ _ _ _) (by omega)).grownB (setCell_grown _ _ _ _) (by omega)),
  (((((((h1.grownB (setCell_grown _ _ _ _) (by omega)).grownB (setCell_grown _ _ _ _) (by omega)).grownB (setCell_grown _ _ _ _) (by omega)).grownB (setCell_grown _ _ _ _) (by omega)).set 0 e).set 1 f).set 2 g)⟩
theorem res_below {B:Nat} {w W:World} {N:Nat} (h:Below B w W) (hN:B≤N) (a b c d e f g:Value):Below B w (resW W N a b c d e f g) :=
 below_set (below_set (below_set (below_set (below_set (below_set (below_set h N 0 _ hN) N 1 _ hN) N 2 _ hN) N 3 _ hN) (N+1) 0 _ (by omega)) (N+1) 1 _ (by omega)) (N+1) 2 _ (by omega)
theorem res_kept {X:Nat→Prop} {W:World} {N:Nat} (h0:X N) (h1:X (N+1)) (a b c d e f g:Value):KeptX X W (resW W N a b c d e f g) :=
 ((((((keptX_set _ N 0 _ h0).trans (keptX_set _ N 1 _ h0)).trans (keptX_set _ N 2 _ h0)).trans (keptX_set _ N 3 _ h0)).trans (keptX_set _ (N+1) 0 _ h1)).trans (keptX_set _ (N+1) 1 _ h1)).trans (keptX_set _ (N+1) 2 _ h1)
set_option maxRecDepth 100000 in
set_option maxHeartbeats 8000000 in
theorem build_bad (s:S) (m:Int) (w:World) {x:Int} {r:Bs} (hs:s.size≤65536) (hm:w.cell? ⟨0,0,none⟩=some (.int .i64 m)) (h:allR s.data.toList = .bad x r) :
    Calls Tryz.prog 9 #[.string s] w (BuildOut s w (.bad x r)):=by
 have hx0:(x == 0)=false:=beq_eq_false_iff_ne.2 (allR_bad_ne h);have hw0:0<w.heap.size:=World.block_lt_of_cell? w _ hm;have HA:Hid (∀ W:World,W.cell? ⟨0,0,none⟩=some (.int .i64 m)→Calls Tryz.prog 26 #[.string s] W (AllOut s W (.bad x r))):=fun W hW=>all_bad s m W hs hW h;clear h;go_enter Tryz.func9,Tryz.ntmps9
 go_wp2_with fail
 refine Calls.world ?_
 intro W hW;have x0:Box W w.heap.size [.string ⟨#[]⟩,.slice none 0 0,.slice none 0 0,.string ⟨#[]⟩]:=by rw [hW]; exact (Box.new w _ _ _ rfl).alloc _
 have x1:Box W (w.heap.size+1) [.int .i64 0,.int .i64 0,.int .i64 0]:=by rw [hW]; exact Box.new _ _ _ _ (by simp)
 have hB:Below w.heap.size w W:=by rw [hW]; exact ((Below.refl _ w).alloc (Nat.le_refl _) _).alloc (by simp) _
 clear hW;refine (HA.out W ((hB.cell (by exact hw0)).trans hm)).mono ?_
 rintro e w1 ⟨rfl,hb⟩;unfold placeV;obtain ⟨li,hli⟩ : ∃ li,li=(lineCol (s.data.toList.take (pos s r))).1:=⟨_,rfl⟩;obtain ⟨co,hco⟩ : ∃ co,co=(lineCol (s.data.toList.take (pos s r))).2:=⟨_,rfl⟩;have HPL:Hid (placeV s.data.toList (pos s r) = .agg #[.int .i64 (pos s r:Nat),.int .i64 li,.int .i64 co]):=by show _=_; rw [hli,hco]; rfl
 rw [← hli,← hco];clear hli hco;have x0':=x0.below hb x0.lt;have x1':=x1.below hb x1.lt;have HB:=Lib.hid (hB.trans (hb.mono hB.size));clear x0 x1 hb hB;have HX0:=Lib.hid x0';have HX1:=Lib.hid x1';clear x0' x1';go_wp2
 refine wp_world ?_
 intro W2 hW2;have y0:Box W2 w.heap.size [.string ⟨#[]⟩,.slice none 0 0,.slice none 0 0,.string ⟨#[]⟩]:=by rw [hW2]; exact HX0.out.alloc _
 have y1:Box W2 (w.heap.size+1) [.int .i64 0,.int .i64 0,.int .i64 0]:=by rw [hW2]; exact HX1.out.alloc _
 have y2:Box W2 w1.heap.size [.int .i64 (pos s r:Nat),.int .i64 li,.int .i64 co]:=by rw [hW2]; exact Box.new w1 _ _ _ rfl
 have hB2:Below w.heap.size w W2:=by rw [hW2]; exact HB.out.alloc HB.out.size _
 clear hW2;have HB2:=Lib.hid hB2;have p0:=y0.cell 0 _ rfl;have p1:=y0.cell 1 _ rfl;have p2:=y0.cell 2 _ rfl;have p3:=y0.cell 3 _ rfl;have pf0:=y0.free 0;have pf1:=y0.free 1;have pf2:=y0.free 2;have pf3:=y0.free 3;have q0:=y1.cell 0 _ rfl;have q1:=y1.cell 1 _ rfl;have q2:=y1.cell 2 _ rfl;have qf0:=y1.free 0;have qf1:=y1.free 1;have qf2:=y1.free 2;have r0:=y2.cell 0 _ rfl;have r1:=y2.cell 1 _ rfl;have r2:=y2.cell 2 _ rfl;have pl:=y0.lt;have ql:=y1.lt;have rl:=y2.lt;have hne:w.heap.size≠w1.heap.size:=by have:=HX0.out.lt; omega
 have hne2:w.heap.size+1≠w1.heap.size:=by have:=HX1.out.lt; omega
 have hst:=res_store y0 y1 (.string ⟨#[]⟩) (.slice none 0 0) (.slice none 0 0) (.string ⟨#[]⟩) (.int .i64 (pos s r:Nat)) (.int .i64 li) (.int .i64 co);have hbl:=res_below hB2 (Nat.le_refl _) (.string ⟨#[]⟩) (.slice none 0 0) (.slice none 0 0) (.string ⟨#[]⟩) (.int .i64 (pos s r:Nat)) (.int .i64 li) (.int .i64 co);unfold resW at hst hbl;have HST:=Lib.hid hst;have HBL:=Lib.hid hbl;clear y0 y1 y2 hB2 HX0 HX1 HB hst hbl;generalize w1.heap.size=b2 at *;go_region
 all_goals
  go_wp2
  obtain ⟨W3,hW3⟩ : ∃ W3,W3=(resW W2 w.heap.size (.string ⟨#[]⟩) (.slice none 0 0) (.slice none 0 0) (.string ⟨#[]⟩) (.int .i64 (pos s r:Nat)) (.int .i64 li) (.int .i64 co)).drew:=⟨_,rfl⟩;unfold resW at hW3;rw [← hW3];have z0:Box W3 w.heap.size [.string ⟨#[]⟩,.slice none 0 0,.slice none 0 0,.string ⟨#[]⟩]:=by rw [hW3]; exact HST.out.1.drew
  have z1:Box W3 (w.heap.size+1) [.int .i64 (pos s r:Nat),.int .i64 li,.int .i64 co]:=by rw [hW3]; exact HST.out.2.drew
  have hb3:Below w.heap.size w W3:=by rw [hW3]; exact belowN HBL.out 1
  have d0:=z0.cell 0 _ rfl;have d1:=z0.cell 1 _ rfl;have d2:=z0.cell 2 _ rfl;have d3:=z0.cell 3 _ rfl;have d4:=z1.cell 0 _ rfl;have d5:=z1.cell 1 _ rfl;have d6:=z1.cell 2 _ rfl;refine bodyPost_ret (v:=.tuple #[noNode,.int .i64 x,.agg #[.int .i64 (pos s r:Nat),.int .i64 li,.int .i64 co]]) (by simp [results,Tryz.results9,go_sem,d0,d1,d2,d3,d4,d5,d6,noNode]) rfl ?_
  exact ⟨by rw [HPL.out],hb3⟩
set_option maxRecDepth 100000 in
set_option maxHeartbeats 16000000 in
theorem build_ok (s:S) (m:Int) (w:World) {acc:List (Tk × Bs)} {r:Bs} (hs:s.size≤65536) (hm:w.cell? ⟨0,0,none⟩=some (.int .i64 m)) (h:allR s.data.toList = .ok acc r) :
    Calls Tryz.prog 9 #[.string s] w (BuildOut s w (runB st0 acc)):=by
 have hw0:0<w.heap.size:=World.block_lt_of_cell? w _ hm;have HA:Hid (∀ W:World,W.cell? ⟨0,0,none⟩=some (.int .i64 m)→Calls Tryz.prog 26 #[.string s] W (AllOut s W (.ok acc r))):=fun W hW=>all_ok s m W hs hW h;obtain ⟨hlen,htx,hkd⟩:=toks_small h (by rw [size_data]; exact hs);have HTX:=Lib.hid htx;have HKD:=Lib.hid hkd;clear h htx hkd;go_enter Tryz.func9,Tryz.ntmps9
 go_wp2_with fail
 refine Calls.world ?_
 intro W hW;have x0:Box W w.heap.size [.string ⟨#[]⟩,.slice none 0 0,.slice none 0 0,.string ⟨#[]⟩]:=by rw [hW]; exact (Box.new w _ _ _ rfl).alloc _
 have x1:Box W (w.heap.size+1) [.int .i64 0,.int .i64 0,.int .i64 0]:=by rw [hW]; exact Box.new _ _ _ _ (by simp)
 have hB:Below w.heap.size w W:=by rw [hW]; exact ((Below.refl _ w).alloc (Nat.le_refl _) _).alloc (by simp) _
 have hWs:W.heap.size=w.heap.size+2:=by rw [hW]; simp
 clear hW;refine (HA.out W ((hB.cell (by exact hw0)).trans hm)).mono ?_
 rintro e w1 ⟨ov,L,rfl,hT,hb⟩;have HT:Hid (∀ B,w1.heap.size≤B→TokAt (w.heap.size+2) B w1 s ov acc):=fun B hB=>TokAt.of hT (by omega) hB;obtain ⟨ao,cap,hov⟩:=(HT.out _ (Nat.le_refl _)).1;subst hov;have x0':=x0.below hb x0.lt;have x1':=x1.below hb x1.lt;have hB1:=hB.trans (hb.mono hB.size);clear x0 x1 hb hB hT;have HX0:=Lib.hid x0';have HX1:=Lib.hid x1';have HB1:=Lib.hid hB1;clear x0' x1' hB1;unfold zeroPlace;go_wp2
 refine wp_world ?_
 intro W2 hW2;have y0:Box W2 w.heap.size [.string ⟨#[]⟩,.slice none 0 0,.slice none 0 0,.string ⟨#[]⟩]:=by rw [hW2]; exact (HX0.out.alloc _).alloc _
 have y1:Box W2 (w.heap.size+1) [.int .i64 0,.int .i64 0,.int .i64 0]:=by rw [hW2]; exact (HX1.out.alloc _).alloc _
 have hC:BOf (w.heap.size+2) W2 (w1.heap.size+1) st0 0 (fun k=>k=w1.heap.size+1∨k<w.heap.size+2) (.slice none 0 0) []:=by
  rw [hW2];exact ⟨Core.init _ _ (by simp) (by have:=HX1.out.lt; omega) _ _ _ _,by simp [st0],by simp [st0],by simp [st0],by simp [st0]⟩
 have hb2:Below w1.heap.size w1 W2:=by rw [hW2]; exact ((Below.refl _ _).alloc (Nat.le_refl _) _).alloc (by simp) _
 have hT2:TokAt (w.heap.size+2) (w1.heap.size+1) W2 s (.slice ao acc.length cap) acc:=((HT.out _ (Nat.le_refl _)).below hb2).mono (by omega);have hB2:Below w.heap.size w W2:=HB1.out.trans (hb2.mono HB1.out.size);have hw1:w.heap.size+2≤w1.heap.size:=by have:=HX1.out.lt; omega
 have HC:=Lib.hid hC;have HT2:=Lib.hid hT2;have HB2:=Lib.hid hB2;have HY0:=Lib.hid y0;have HY1:=Lib.hid y1;clear hC hT2 hB2 y0 y1 hb2 hW2 HX0 HX1 HB1 HT HA;generalize w1.heap.size=b1 at *;go_loopw [10,11,28] (fun _ _ i wr=>∃ (k:Nat) (st:BSt) (X:Nat→Prop) (ov:Value) (ps:List (Nat × Nat)),k≤acc.length∧i = .int .i64 k∧Hid (BOf (w.heap.size+2) wr (b1+1) st (2*k) X ov ps∧Below (b1+1) W2 wr∧runB st0 acc=runB st (acc.drop k))) (fun _ _ i _=>acc.length - (intOf i).toNat)
 case atStart=>exact ⟨0,st0,_,_,_,Nat.zero_le _,rfl,HC.out,Below.refl _ _,rfl⟩
 case round =>
  obtain ⟨k,st,X,ov,ps,hk,rfl,HR⟩:=hrel;by_cases hlt:k<acc.length
  · obtain ⟨g,o,cap',av,e,hg,c0,c1,c2,c3,c4,c5,c6,ha⟩:=(HT2.out.below HR.out.2.1).2 k acc[k].1 acc[k].2 (List.getElem?_eq_getElem hlt)
    simp only [Value.slice.injEq,true_and] at e;obtain ⟨rfl,rfl⟩:=e;have HDR:Hid (acc.drop k=acc[k]::acc.drop (k+1)):=List.drop_eq_getElem_cons hlt;have hki:(k:Int)<(acc.length:Int):=by omega
    have hgs:g<wr.heap.size:=by have:=HR.out.1.core.lt; omega
    obtain ⟨ta,tc,hav⟩:=ha.shape;have HAT:=Lib.hid ha;have htx:=HTX.out k hlt;have hkd:=HKD.out k hlt;have HTK:=Lib.hid fun o'=>tokenB_any (wr.alloc o') (b1+1) (2*k) st X ov ps (HR.out.1.below ((Below.refl _ wr).alloc (Nat.le_refl _) o')) acc[k].1 av (pos s acc[k].2:Nat) (lineCol (s.data.toList.take (pos s acc[k].2))).1 (lineCol (s.data.toList.take (pos s acc[k].2))).2 (HAT.out.below ((Below.refl _ wr).alloc (Nat.le_of_lt HR.out.1.core.lt) o')) hkd htx (by omega);have HPL:Hid (tokPlace s acc[k] = .agg #[.int .i64 (pos s acc[k].2:Nat),.int .i64 (lineCol (s.data.toList.take (pos s acc[k].2))).1,.int .i64 (lineCol (s.data.toList.take (pos s acc[k].2))).2]):=rfl;unfold tokV at HTK;subst hav;have HSB:Hid (∀ x,stepB st acc[k].1 = .bad x→x≠0):=fun x hx=>stepB_bad hx;have HRB:Hid (∀ st',stepB st acc[k].1 = .ok st'→runB st (acc.drop k)=runB st' (acc.drop (k+1))):=fun st' h=>by rw [HDR.out]; simp only [runB,h]
    have HRX:Hid (∀ x,stepB st acc[k].1 = .bad x→runB st (acc.drop k) = .bad x acc[k].2):=fun x h=>by rw [HDR.out]; simp only [runB,h]
    clear ha htx hkd;generalize pos s acc[k].2=P at *;generalize (lineCol (s.data.toList.take P)).1=li at *;generalize (lineCol (s.data.toList.take P)).2=co at *;generalize acc[k].1=t at *;go_wp2_with fail
    refine (HTK.out _).mono ?_
    intro e w2 hO;have hbx:=Box.new wr [.int .i64 t.kind,.string (bs t.name),.slice ta t.attrs.length tc,.string (bs t.text),.int .i64 P,.int .i64 li,.int .i64 co] 68 _ rfl;have HBX:=Lib.hid hbx;have HBW:Hid (Below (b1+1) wr (wr.alloc (.cells #[.int .i64 t.kind,.string (bs t.name),.slice ta t.attrs.length tc,.string (bs t.text),.int .i64 P,.int .i64 li,.int .i64 co] 68))):=(Below.refl _ wr).alloc (Nat.le_of_lt HR.out.1.core.lt) _;clear hbx c0 c1 c2 c3 c4 c5 c6 hgs;cases hR:stepB st t with
    | ok st' =>
     rw [hR] at hO;obtain ⟨rfl,⟨X',ov',ps',hB'⟩,hb⟩:=hO;have hnew:BOf (w.heap.size+2) w2 (b1+1) st' (2*(k+1)) X' ov' ps'∧Below (b1+1) W2 w2∧runB st0 acc=runB st' (acc.drop (k+1)):=⟨hB',(HR.out.2.1.trans HBW.out).trans hb,by rw [HR.out.2.2,HRB.out st' hR]⟩;have HN:=Lib.hid hnew;clear hB' hb hnew;go_wp2
     go_roundw
     case rel=>exact ⟨k+1,st',X',ov',ps',hlt,by go_num,HN.out⟩
     case measure=>simp [intOf]; omega
    | bad x =>
     rw [hR] at hO;obtain ⟨rfl,hgr,hb⟩:=hO;have hx0:(x == 0)=false:=beq_eq_false_iff_ne.2 (HSB.out x hR);have hb3:Below (b1+1) W2 w2:=(HR.out.2.1.trans HBW.out).trans hb;have y0:=HY0.out.below hb3 (by omega);have y1:=HY1.out.below hb3 (by omega);have y2:=HBX.out.grownB hgr (by have:=HR.out.1.core.lt; omega);have hB3:Below w.heap.size w w2:=HB2.out.trans (hb3.mono (by omega));have hrun:runB st0 acc = .bad x acc[k].2:=by rw [HR.out.2.2,HRX.out x hR]
     have hst:=res_store y0 y1 (.string ⟨#[]⟩) (.slice none 0 0) (.slice none 0 0) (.string ⟨#[]⟩) (.int .i64 P) (.int .i64 li) (.int .i64 co);have hbl:=res_below hB3 (Nat.le_refl _) (.string ⟨#[]⟩) (.slice none 0 0) (.slice none 0 0) (.string ⟨#[]⟩) (.int .i64 P) (.int .i64 li) (.int .i64 co);unfold resW at hst hbl;have HST:=Lib.hid hst;have HBL:=Lib.hid hbl;have p0:=y0.cell 0 _ rfl;have pf0:=y0.free 0;have p1:=y0.cell 1 _ rfl;have pf1:=y0.free 1;have p2:=y0.cell 2 _ rfl;have pf2:=y0.free 2;have p3:=y0.cell 3 _ rfl;have pf3:=y0.free 3;have q0:=y1.cell 0 _ rfl;have qf0:=y1.free 0;have q1:=y1.cell 1 _ rfl;have qf1:=y1.free 1;have q2:=y1.cell 2 _ rfl;have qf2:=y1.free 2;have pl:=y0.lt;have ql:=y1.lt;have t4:=y2.cell 4 _ rfl;have t5:=y2.cell 5 _ rfl;have t6:=y2.cell 6 _ rfl;have tl:=y2.lt;have hlw:=HR.out.1.core.lt;have hne:w.heap.size≠wr.heap.size:=by omega
     have hne2:w.heap.size+1≠wr.heap.size:=by omega
     have HRUN:=Lib.hid hrun;clear hst hbl hb3 y0 y1 y2 hB3 hgr hb hrun;go_wp2
     go_region
     all_goals
      go_wp2
      obtain ⟨W3,hW3⟩ : ∃ W3,W3=(resW w2 w.heap.size (.string ⟨#[]⟩) (.slice none 0 0) (.slice none 0 0) (.string ⟨#[]⟩) (.int .i64 P) (.int .i64 li) (.int .i64 co)).drew:=⟨_,rfl⟩;unfold resW at hW3;rw [← hW3];have z0:Box W3 w.heap.size [.string ⟨#[]⟩,.slice none 0 0,.slice none 0 0,.string ⟨#[]⟩]:=by rw [hW3]; exact HST.out.1.drew
      have z1:Box W3 (w.heap.size+1) [.int .i64 P,.int .i64 li,.int .i64 co]:=by rw [hW3]; exact HST.out.2.drew
      have hb3:Below w.heap.size w W3:=by rw [hW3]; exact belowN HBL.out 1
      have d0:=z0.cell 0 _ rfl;have d1:=z0.cell 1 _ rfl;have d2:=z0.cell 2 _ rfl;have d3:=z0.cell 3 _ rfl;have d4:=z1.cell 0 _ rfl;have d5:=z1.cell 1 _ rfl;have d6:=z1.cell 2 _ rfl;refine bodyPost_ret (v:=.tuple #[noNode,.int .i64 x,.agg #[.int .i64 P,.int .i64 li,.int .i64 co]]) (by simp [results,Tryz.results9,go_sem,d0,d1,d2,d3,d4,d5,d6,noNode]) rfl ?_
      rw [HRUN.out];exact ⟨by rw [show placeV s.data.toList (pos s acc[k].2)=_ from HPL.out],hb3⟩
  · obtain rfl:k=acc.length:=by omega
    have hki : ¬ (acc.length:Int)<(acc.length:Int):=by omega
    have hrun:runB st0 acc=runB st []:=by rw [HR.out.2.2,List.drop_length]
    have HRUN:=Lib.hid hrun;have HAT:Hid (∀ W,Calls Tryz.prog 28 #[.string s,.int .i64 s.size] W fun e w'=>e = .returned (placeV s.data.toList s.size)∧Below W.heap.size W w'):=fun W=>at_any s s.size W (Nat.le_refl _) (by omega);clear hrun;go_wp2_with fail
    refine (HAT.out wr).mono ?_
    rintro e w2 ⟨rfl,hb⟩;have hC:=HR.out.1.below hb;have hb3:Below (b1+1) W2 w2:=HR.out.2.1.trans (hb.mono (Nat.le_of_lt HR.out.1.core.lt));have HPL:Hid (placeV s.data.toList s.size = .agg #[.int .i64 s.size,.int .i64 (lineCol (s.data.toList.take s.size)).1,.int .i64 (lineCol (s.data.toList.take s.size)).2]):=rfl;unfold placeV;generalize (lineCol (s.data.toList.take s.size)).1=li at *;generalize (lineCol (s.data.toList.take s.size)).2=co at *;have HC3:=Lib.hid hC;have HB3:=Lib.hid hb3;clear hb hC hb3 HAT;have c4:=HC3.out.core.c4;have c6:=HC3.out.core.c6;have hl2:=HC3.out.core.lt;obtain ⟨oa,ocap,hov⟩:=HC3.out.shape;rw [hov] at c4;have W4:Hid (∀ o':Obj,Below (b1+1) W2 (w2.alloc o')∧BOf (w.heap.size+2) (w2.alloc o') (b1+1) st (2*acc.length) X ov ps):=fun o'=>⟨HB3.out.alloc (Nat.le_of_lt hl2) _,HC3.out.below ((Below.refl _ _).alloc (Nat.le_refl _) _)⟩;obtain ⟨stack,root,cnt,tx⟩:=st;cases stack with
    | cons f fs =>
     simp only [List.length_cons] at c4;have hp0:(0:Int)<(fs.length:Int)+1:=by omega
     go_wp2
     refine wp_world ?_
     intro w3 hw3;have hb5:Below (b1+1) W2 w3:=by rw [hw3]; exact (W4.out _).1
     have y0:=HY0.out.below hb5 (by omega);have y1:=HY1.out.below hb5 (by omega);have y2:Box w3 w2.heap.size [.int .i64 s.size,.int .i64 li,.int .i64 co]:=by rw [hw3]; exact Box.new w2 _ _ _ rfl
     have hB3:Below w.heap.size w w3:=HB2.out.trans (hb5.mono (by omega));clear hw3;have hst:=res_store y0 y1 (.string ⟨#[]⟩) (.slice none 0 0) (.slice none 0 0) (.string ⟨#[]⟩) (.int .i64 s.size) (.int .i64 li) (.int .i64 co);have hbl:=res_below hB3 (Nat.le_refl _) (.string ⟨#[]⟩) (.slice none 0 0) (.slice none 0 0) (.string ⟨#[]⟩) (.int .i64 s.size) (.int .i64 li) (.int .i64 co);unfold resW at hst hbl;have HST:=Lib.hid hst;have HBL:=Lib.hid hbl;have p0:=y0.cell 0 _ rfl;have pf0:=y0.free 0;have p1:=y0.cell 1 _ rfl;have pf1:=y0.free 1;have p2:=y0.cell 2 _ rfl;have pf2:=y0.free 2;have p3:=y0.cell 3 _ rfl;have pf3:=y0.free 3;have q0:=y1.cell 0 _ rfl;have qf0:=y1.free 0;have q1:=y1.cell 1 _ rfl;have qf1:=y1.free 1;have q2:=y1.cell 2 _ rfl;have qf2:=y1.free 2;have pl:=y0.lt;have ql:=y1.lt;have t0:=y2.cell 0 _ rfl;have t1:=y2.cell 1 _ rfl;have t2:=y2.cell 2 _ rfl;have tl:=y2.lt;have hne:w.heap.size≠w2.heap.size:=by omega
     have hne2:w.heap.size+1≠w2.heap.size:=by omega
     clear hst hbl hb5 y0 y1 y2 hB3;go_region
     all_goals
      go_wp2
      obtain ⟨W3,hW3⟩ : ∃ W3,W3=(resW w3 w.heap.size (.string ⟨#[]⟩) (.slice none 0 0) (.slice none 0 0) (.string ⟨#[]⟩) (.int .i64 s.size) (.int .i64 li) (.int .i64 co)).drew:=⟨_,rfl⟩;unfold resW at hW3;rw [← hW3];have z0:Box W3 w.heap.size [.string ⟨#[]⟩,.slice none 0 0,.slice none 0 0,.string ⟨#[]⟩]:=by rw [hW3]; exact HST.out.1.drew
      have z1:Box W3 (w.heap.size+1) [.int .i64 s.size,.int .i64 li,.int .i64 co]:=by rw [hW3]; exact HST.out.2.drew
      have hb3:Below w.heap.size w W3:=by rw [hW3]; exact belowN HBL.out 1
      have d0:=z0.cell 0 _ rfl;have d1:=z0.cell 1 _ rfl;have d2:=z0.cell 2 _ rfl;have d3:=z0.cell 3 _ rfl;have d4:=z1.cell 0 _ rfl;have d5:=z1.cell 1 _ rfl;have d6:=z1.cell 2 _ rfl;refine bodyPost_ret (v:=.tuple #[noNode,.int .i64 13,.agg #[.int .i64 s.size,.int .i64 li,.int .i64 co]]) (by simp [results,Tryz.results9,go_sem,d0,d1,d2,d3,d4,d5,d6,noNode]) rfl ?_
      rw [HRUN.out];exact ⟨by rw [pos_nil,HPL.out],hb3⟩
    | nil =>
     simp only [List.length_nil] at c4;cases root with
     | none =>
      simp only [Option.isSome_none] at c6;go_wp2
      refine wp_world ?_
      intro w3 hw3;have hb5:Below (b1+1) W2 w3:=by rw [hw3]; exact (W4.out _).1
      have y0:=HY0.out.below hb5 (by omega);have y1:=HY1.out.below hb5 (by omega);have y2:Box w3 w2.heap.size [.int .i64 s.size,.int .i64 li,.int .i64 co]:=by rw [hw3]; exact Box.new w2 _ _ _ rfl
      have hB3:Below w.heap.size w w3:=HB2.out.trans (hb5.mono (by omega));clear hw3;have hst:=res_store y0 y1 (.string ⟨#[]⟩) (.slice none 0 0) (.slice none 0 0) (.string ⟨#[]⟩) (.int .i64 s.size) (.int .i64 li) (.int .i64 co);have hbl:=res_below hB3 (Nat.le_refl _) (.string ⟨#[]⟩) (.slice none 0 0) (.slice none 0 0) (.string ⟨#[]⟩) (.int .i64 s.size) (.int .i64 li) (.int .i64 co);unfold resW at hst hbl;have HST:=Lib.hid hst;have HBL:=Lib.hid hbl;have p0:=y0.cell 0 _ rfl;have pf0:=y0.free 0;have p1:=y0.cell 1 _ rfl;have pf1:=y0.free 1;have p2:=y0.cell 2 _ rfl;have pf2:=y0.free 2;have p3:=y0.cell 3 _ rfl;have pf3:=y0.free 3;have q0:=y1.cell 0 _ rfl;have qf0:=y1.free 0;have q1:=y1.cell 1 _ rfl;have qf1:=y1.free 1;have q2:=y1.cell 2 _ rfl;have qf2:=y1.free 2;have pl:=y0.lt;have ql:=y1.lt;have t0:=y2.cell 0 _ rfl;have t1:=y2.cell 1 _ rfl;have t2:=y2.cell 2 _ rfl;have tl:=y2.lt;have hne:w.heap.size≠w2.heap.size:=by omega
      have hne2:w.heap.size+1≠w2.heap.size:=by omega
      clear hst hbl hb5 y0 y1 y2 hB3;go_region
      all_goals
       go_wp2
       obtain ⟨W3,hW3⟩ : ∃ W3,W3=(resW w3 w.heap.size (.string ⟨#[]⟩) (.slice none 0 0) (.slice none 0 0) (.string ⟨#[]⟩) (.int .i64 s.size) (.int .i64 li) (.int .i64 co)).drew:=⟨_,rfl⟩;unfold resW at hW3;rw [← hW3];have z0:Box W3 w.heap.size [.string ⟨#[]⟩,.slice none 0 0,.slice none 0 0,.string ⟨#[]⟩]:=by rw [hW3]; exact HST.out.1.drew
       have z1:Box W3 (w.heap.size+1) [.int .i64 s.size,.int .i64 li,.int .i64 co]:=by rw [hW3]; exact HST.out.2.drew
       have hb3:Below w.heap.size w W3:=by rw [hW3]; exact belowN HBL.out 1
       have d0:=z0.cell 0 _ rfl;have d1:=z0.cell 1 _ rfl;have d2:=z0.cell 2 _ rfl;have d3:=z0.cell 3 _ rfl;have d4:=z1.cell 0 _ rfl;have d5:=z1.cell 1 _ rfl;have d6:=z1.cell 2 _ rfl;refine bodyPost_ret (v:=.tuple #[noNode,.int .i64 16,.agg #[.int .i64 s.size,.int .i64 li,.int .i64 co]]) (by simp [results,Tryz.results9,go_sem,d0,d1,d2,d3,d4,d5,d6,noNode]) rfl ?_
       rw [HRUN.out];exact ⟨by rw [pos_nil,HPL.out],hb3⟩
     | some t =>
      simp only [Option.isSome_some] at c6;have ht:=HC3.out.core.tree
      obtain ⟨av,kv,hcl,hnd⟩ : ∃ av kv,At4 w2 (b1+1) 0 (nodeC t.name av kv t.text)∧NodeX X w2 t av kv:=by
       cases ht with
       | root av kv h1 h2=>exact ⟨av,kv,h1,h2⟩
      have k0:=hcl 0 _ rfl;have k1:=hcl 1 _ rfl;have k2:=hcl 2 _ rfl;have k3:=hcl 3 _ rfl;simp only [Nat.zero_add] at k0 k1 k2 k3;clear ht hcl c4 c6;go_upto_region 13 with fail
      refine wp_world ?_
      intro w3 hw3;have hb5:Below (b1+1) W2 w3:=by rw [hw3]; exact (W4.out _).1
      have hb6:Below w2.heap.size w2 w3:=by rw [hw3]; exact (Below.refl _ _).alloc (Nat.le_refl _) _
      have hC5:=HC3.out.below hb6;have hnd5:=hnd.later hb6;rw [← hb6.cell (p:=⟨b1+1,0,none⟩) (by exact hl2)] at k0;rw [← hb6.cell (p:=⟨b1+1,1,none⟩) (by exact hl2)] at k1;rw [← hb6.cell (p:=⟨b1+1,2,none⟩) (by exact hl2)] at k2;rw [← hb6.cell (p:=⟨b1+1,3,none⟩) (by exact hl2)] at k3;have c4:=hC5.core.c4;have c6:=hC5.core.c6;have hl5:=hC5.core.lt;rw [hov] at c4;simp only [List.length_nil,Option.isSome_some] at c4 c6;have y0:=HY0.out.below hb5 (by omega);have y1:=HY1.out.below hb5 (by omega);have hB3:Below w.heap.size w w3:=HB2.out.trans (hb5.mono (by omega));have hlow:X w.heap.size∧X (w.heap.size+1):=⟨hC5.core.xlo _ (by omega),hC5.core.xlo _ (by omega)⟩;have hkp:=res_kept hlow.1 hlow.2 (W:=w3) (.string (bs t.name)) av kv (.string (bs t.text)) (.int .i64 0) (.int .i64 0) (.int .i64 0);unfold resW at hkp;have HKP:=Lib.hid hkp;have HND:=Lib.hid hnd5;obtain ⟨N1,hN1⟩ : ∃ N1:S,N1=bs t.name:=⟨_,rfl⟩;obtain ⟨T1,hT1⟩ : ∃ T1:S,T1=bs t.text:=⟨_,rfl⟩;have HN1:=Lib.hid hN1;have HT1:=Lib.hid hT1;rw [← hN1] at k0;rw [← hT1] at k3;rw [← hN1,← hT1] at HKP
      obtain ⟨aa,an,ac,hav⟩ : ∃ aa an ac,av = .slice aa an ac:=by
       obtain ⟨_,-,h1,-⟩:=hnd.parts;obtain ⟨ao',cap',e⟩:=h1.shape;exact ⟨_,_,_,e⟩
      obtain ⟨ka,kn,kc,hkv⟩ : ∃ ka kn kc,kv = .slice ka kn kc:=by
       obtain ⟨_,-,-,h1,-⟩:=hnd.parts;obtain ⟨ao',cap',e⟩:=h1.shape;exact ⟨_,_,_,e⟩
      subst hav hkv;have hst:=res_store y0 y1 (.string N1) (.slice aa an ac) (.slice ka kn kc) (.string T1) (.int .i64 0) (.int .i64 0) (.int .i64 0);have hbl:=res_below hB3 (Nat.le_refl _) (.string N1) (.slice aa an ac) (.slice ka kn kc) (.string T1) (.int .i64 0) (.int .i64 0) (.int .i64 0);unfold resW at hst hbl;have HST:=Lib.hid hst;have HBL:=Lib.hid hbl;have p0:=y0.cell 0 _ rfl;have pf0:=y0.free 0;have p1:=y0.cell 1 _ rfl;have pf1:=y0.free 1;have p2:=y0.cell 2 _ rfl;have pf2:=y0.free 2;have p3:=y0.cell 3 _ rfl;have pf3:=y0.free 3;have q0:=y1.cell 0 _ rfl;have qf0:=y1.free 0;have q1:=y1.cell 1 _ rfl;have qf1:=y1.free 1;have q2:=y1.cell 2 _ rfl;have qf2:=y1.free 2;have pl:=y0.lt;have ql:=y1.lt;clear hst hbl hb5 y0 y1 hB3 hw3 hkp hnd hnd5 hb6 hC5 hN1 hT1 hlow;go_wp2
      obtain ⟨W3,hW3⟩ : ∃ W3,W3=resW w3 w.heap.size (.string N1) (.slice aa an ac) (.slice ka kn kc) (.string T1) (.int .i64 0) (.int .i64 0) (.int .i64 0):=⟨_,rfl⟩;unfold resW at hW3;rw [← hW3];have z0:Box W3 w.heap.size [.string N1,.slice aa an ac,.slice ka kn kc,.string T1]:=by rw [hW3]; exact HST.out.1
      have z1:Box W3 (w.heap.size+1) [.int .i64 0,.int .i64 0,.int .i64 0]:=by rw [hW3]; exact HST.out.2
      have hb3:Below w.heap.size w W3:=by rw [hW3]; exact HBL.out
      have hk3:KeptX X w3 W3:=by rw [hW3]; exact HKP.out
      have d0:=z0.cell 0 _ rfl;have d1:=z0.cell 1 _ rfl;have d2:=z0.cell 2 _ rfl;have d3:=z0.cell 3 _ rfl;have d4:=z1.cell 0 _ rfl;have d5:=z1.cell 1 _ rfl;have d6:=z1.cell 2 _ rfl;refine bodyPost_ret (v:=.tuple #[.agg #[.string N1,.slice aa an ac,.slice ka kn kc,.string T1],.int .i64 0,zeroPlace]) (by simp [results,Tryz.results9,go_sem,d0,d1,d2,d3,d4,d5,d6,zeroPlace]) rfl ?_
      rw [HRUN.out];exact ⟨.slice aa an ac,.slice ka kn kc,by rw [HN1.out,HT1.out]; rfl,(HND.out.keep hk3 (fun _ _ h=>h)).node,hb3⟩
theorem build_any (s:S) (m:Int) (w:World) (hs:s.size≤65536) (hm:w.cell? ⟨0,0,none⟩=some (.int .i64 m)):Calls Tryz.prog 9 #[.string s] w (BuildOut s w (buildR s.data.toList)):=by
 unfold buildR;cases h:allR s.data.toList with
 | ok acc r=>exact build_ok s m w hs hm h
 | bad x r=>exact build_bad s m w hs hm h
structure Grow (b:Nat) (w:World) (v:Value) (ts:List Tr) (L:List TrV):Prop where
 are:L.map (·.1)=ts
 own:Owns b 32 4 trC w v L
 nodes : ∀ y ∈ L,NodeX (fun j=>j<b∨some j=v.ownBlock) w y.1 y.2.1 y.2.2
theorem Grow.len {b:Nat} {w:World} {v:Value} {ts:List Tr} {L:List TrV} (h:Grow b w v ts L):L.length=ts.length:=by rw [← h.are,List.length_map]
theorem Grow.nil (b:Nat) (w:World):Grow b w (.slice none 0 0) [] []:=⟨rfl,Owns.nil,by simp⟩
theorem Grow.below {b:Nat} {w w':World} {v:Value} {ts:List Tr} {L:List TrV} (h:Grow b w v ts L) (hb:Below w.heap.size w w'):Grow b w' v ts L :=
 ⟨h.are,h.own.below hb,fun y hy=>(h.nodes y hy).later hb⟩
theorem Grow.keptR {b r:Nat} {w w':World} {v:Value} {ts:List Tr} {L:List TrV} (h:Grow b w v ts L) (hg:w.grownBy w' (some r)) (hr:r<b):Grow b w' v ts L :=
 ⟨h.are,h.own.keptR hg hr,fun y hy=>(h.nodes y hy).keep (KeptX.grown hg (fun g e=>by cases e; exact .inl hr)) (fun _ _ h=>h)⟩
theorem Grow.lt {b:Nat} {w:World} {v:Value} {ts:List Tr} {L:List TrV} (h:Grow b w v ts L) : ∀ g,v.ownBlock=some g→b≤g∧g<w.heap.size:=h.own.lt
theorem Grow.sliceX {b:Nat} {w:World} {v:Value} {ts:List Tr} {L:List TrV} (h:Grow b w v ts L) {X:Nat→Prop} (hX : ∀ g,v.ownBlock=some g → ¬ X g):SliceX 4 trC X w v L:=h.own.toX trC_len hX
theorem Grow.snoc {b:Nat} {w w1 w':World} {v v':Value} {ts:List Tr} {L:List TrV} {t:Tr} {av kv:Value} (h:Grow b w v ts L) (hw:Below w.heap.size w w1) (hown:Owns b 32 4 trC w' v' (L ++ [(t,av,kv)])) (hg:w1.grownBy w' v.ownBlock)
    (hl:v'.ownBlock=v.ownBlock∨v'.ownBlock=some w1.heap.size) (hn:NodeX (fun j=>j<b∨some j=v.ownBlock) w1 t av kv):Grow b w' v' (ts ++ [t]) (L ++ [(t,av,kv)]):=by
 have hY : ∀ k,k<w1.heap.size→(k<b∨some k=v'.ownBlock)→(k<b∨some k=v.ownBlock):=fun k hk h=>h.elim .inl (fun h=>by
  rcases hl with e | e
  · exact .inr (by rw [h,e])
  · rw [e] at h; cases h; omega)
 have hk1:KeptX (fun j=>j<b∨some j=v.ownBlock) w1 w':=KeptX.grown hg (fun g e=>.inr e.symm);refine ⟨by rw [List.map_append,h.are]; rfl,hown,fun y hy=>?_⟩
 rcases List.mem_append.1 hy with hy | hy
 · exact ((h.nodes y hy).later hw).keep hk1 hY
 · obtain rfl:=List.mem_singleton.1 hy
   exact hn.keep hk1 hY
theorem tr_one (n:Bs) (a1 a3:Option Addr) (l1 l3 c1 c3:Nat) (x:Bs) (ats:List At2) (ks:List Tr) : ∀ u ∈ trC (.mk n ats ks x,.slice a1 l1 c1,.slice a3 l3 c3),u.oneCell'=true:=by
 intro u hu;simp only [trC,nodeC,List.mem_cons,List.not_mem_nil,or_false] at hu;rcases hu with rfl | rfl | rfl | rfl <;> rfl
theorem tr_lit (y:TrV) (W:World) (H:Nat) (hH:W.heap.size=H):SliceOf 4 trC (W.alloc (.cells (trC y).toArray 32)) (.slice (some ⟨H,0,none⟩) 1 1) [y]:=by
 have h:=sliceLit trC_len W [y] 32 H 1 hH rfl (by unfold maxLen; simp);simpa using h
theorem leaf_node (X:Nat→Prop) (n x:Bs) (w:World) (H:Nat) (hH:w.heap.size=H) (hX : ¬ X H):NodeX X (w.alloc (.cells #[.string ⟨#[]⟩,.slice none 0 0,.slice none 0 0,.string (bs x)] 32)) (.mk n [] [.mk [] [] [] x] []) (.slice none 0 0) (.slice (some ⟨H,0,none⟩) 1 1):=by
 have hl:=tr_lit ((.mk [] [] [] x,.slice none 0 0,.slice none 0 0):TrV) w H hH;refine .mk [(.mk [] [] [] x,.slice none 0 0,.slice none 0 0)] SliceX.nil rfl ?_ ?_
 · obtain ⟨ao,cap,e,h1,h2,h3,h4⟩:=hl
   simp only [Value.slice.injEq] at e;obtain ⟨rfl,-,rfl⟩:=e;refine ⟨_,_,rfl,h1,h2,h3,fun i y hy=>?_⟩
   obtain ⟨g,o,e1,e2,e3⟩:=h4 i y hy;cases e1
   exact ⟨_,_,rfl,e2,hX,e3⟩
 · intro y hy
   obtain rfl:=List.mem_singleton.1 hy;exact .mk [] SliceX.nil rfl SliceX.nil (by simp)
end Go.Proofs.YtecffghcpknmjaaGreatDoor
namespace Go.Proofs.YtecffghcpknmjaaGreatDoor
open Go Go.RowKit
theorem wtL_le {t:Tr} : ∀ {l:List Tr},t ∈ l→t.wt≤Tr.wtL l
 | u::l,h=>by
  rw [Tr.wtL];rcases List.mem_cons.1 h with rfl | h
  · omega
  · have:=wtL_le h; omega
mutual
theorem cnt_wt : ∀ t:Tr,30*t.cnt≤t.wt
 | .mk n a ks x=>by rw [Tr.cnt,Tr.wt]; have:=cntL_wt ks; omega
theorem cntL_wt : ∀ l:List Tr,30*Tr.cntL l≤Tr.wtL l
 | []=>by simp [Tr.cntL]
 | t::l=>by rw [Tr.cntL,Tr.wtL]; have:=cnt_wt t; have:=cntL_wt l; omega
end
theorem att_le {a:At2} : ∀ {l:List At2},a ∈ l→a.1.length≤attsW l∧a.2.length≤attsW l
 | b::l,h=>by
  have e:attsW (b::l)=b.1.length+6*b.2.length+4+attsW l:=by simp [attsW]
  rcases List.mem_cons.1 h with rfl | h
  · omega
  · have:=att_le h; omega
theorem fine_wt : ∀ (n:Nat) (t:Tr),SizeOf.sizeOf t≤n→t.wt≤1000000000→FineT t
 | 0,.mk n a ks x,h,_=>by simp at h
 | n+1,.mk nm a ks x,h,hw=>by
  rw [Tr.wt] at hw;refine .mk (by omega) (by omega) (fun b hb=>?_) (fun k hk=>fine_wt n k ?_ ?_)
  · have:=att_le hb; omega
  · have:=List.sizeOf_lt_of_mem hk; simp at h; omega
  · have:=wtL_le hk; omega
end Go.Proofs.YtecffghcpknmjaaGreatDoor
namespace Go.Proofs.YtecffghcpknmjaaGreatDoor
open Go Go.RowKit
variable {H:Type} {enc:TypeId × Value→H} {W:World} {sp:Nat→Bool} {held:Bool}
def Opens {α:Type} (enc:TypeId × Value→H) (W:World) (sp:Nat→Bool) (held:Bool) (t:TypeId) (C:α→List Value) (Ok:α→Prop):Prop :=
 ∀ fuel cs x,DataW.trod enc Tryz.prog W 0 sp held fuel t cs=some x → ∃ a,cs=C a∧Ok a
theorem opens_string:Opens enc W sp held 9 strC (fun s=>s.size≤maxLen):=fun _ _ _ h=>by
 obtain ⟨s,h1,-,h2⟩:=DataW.trod_string Tryz.underlying9 h;exact ⟨s,h1,h2⟩
theorem cells_of {w:World} {a:Addr} {n:Nat} {cs:List Value} (h:w.cells? 0 a n=some cs) (hn:0<n):cs.length=n∧a.spot=none∧a.block<w.heap.size ∧ ∀ j u,cs[j]? = some u→w.cell? ⟨a.block,a.off+j,none⟩=some u:=by
 unfold World.cells? at h;rw [if_pos (Nat.zero_le _)] at h;have hl:cs.length=n:=by simpa using mapM_some_length h
 have hg : ∀ j,j<n→w.cell? (a.add j)=cs[j]?:=fun j hj=>mapM_some_get h j j (by simp [hj])
 have h00:w.cell? a=some cs[0]:=by
  have:=hg 0 hn
  rw [show a.add 0=a from rfl] at this;rw [this]; simp
 have hsp:a.spot=none:=by
  cases hs:a.spot with
  | none=>rfl
  | some x =>
   exfalso
   simp only [World.cell?,hs,Option.isSome_some,if_true] at h00;split at h00 <;> cases h00
 obtain ⟨b,o,s⟩:=a;cases hsp
 refine ⟨hl,rfl,World.block_lt_of_cell? w _ h00,fun j u hu=>?_⟩
 have hj:j<n:=by rw [← hl]; exact (List.getElem?_eq_some_iff.1 hu).1
 have:=hg j hj
 rw [Addr.add_lit,hu] at this;exact this
theorem list_snoc {α:Type} {l:List α} {y:α} {i:Nat} {z:α} (h:(l ++ [y])[i]? = some z):(i<l.length∧l[i]? = some z)∨(i=l.length∧z=y):=by
 by_cases hi:i<l.length
 · left; rw [List.getElem?_append_left hi] at h; exact ⟨hi,h⟩
 · right
   rw [List.getElem?_append_right (by omega)] at h;by_cases h1:i - l.length=0
   · rw [h1] at h; simp at h; exact ⟨by omega,h.symm⟩
   · rw [List.getElem?_eq_none (by simp; omega)] at h; cases h
theorem list_of {α:Type} {len:Nat} {P:Nat→α→Prop} (h : ∀ i,i<len → ∃ y,P i y) : ∃ l:List α,l.length=len ∧ ∀ i y,l[i]? = some y→P i y:=by
 induction len with
 | zero=>exact ⟨[],rfl,fun i y h=>by simp at h⟩
 | succ len ih =>
  obtain ⟨l,hl,hP⟩:=ih (fun i hi=>h i (by omega));obtain ⟨y,hy⟩:=h len (by omega);refine ⟨l ++ [y],by simp [hl],fun i z hz=>?_⟩
  rcases list_snoc hz with ⟨-,h1⟩ | ⟨rfl,rfl⟩
  · exact hP i z h1
  · rw [hl]; exact hy
theorem opens_slice {α:Type} {t e n:Nat} {C:α→List Value} {Ok:α→Prop} (ht:Tryz.prog.underlying t=some (.slice e)) (hn:Tryz.prog.cellsOf e=n) (h0:0<n) (he:Opens enc W sp held e C Ok) :
    Opens enc W sp held t (fun v:Value=>[v]) (fun v=>∃ l,SliceOf n C W v l ∧ ∀ a ∈ l,Ok a):=fun fuel cs x h=>by
 rcases Deep.open_slice ht h with ⟨rfl,-⟩ | ⟨a,len,cap,m,n',D,Pl,rfl,-,hlc,hcm,hm,-,hel⟩
 · exact ⟨_,rfl,[],SliceOf.nil,by simp⟩
 · rw [hn] at hel
   have hlm:len≤m:=by rw [hm]; split <;> omega
   obtain ⟨l,hl,hP⟩:=list_of (len:=len) (P:=fun i y=>W.cells? 0 (a.add (i*n)) n=some (C y)∧Ok y) (fun i hi=>by
    obtain ⟨cs',h1,h2⟩:=hel i (by omega);obtain ⟨y,rfl,hy⟩:=he _ _ _ h2
    exact ⟨y,h1,hy⟩)
   refine ⟨_,rfl,l,⟨some a,cap,by rw [hl],by omega,hcm,by simp,fun i y hy=>?_⟩,fun y hy=>?_⟩
   · have hil:i<len:=by rw [← hl]; exact (List.getElem?_eq_some_iff.1 hy).1
     obtain ⟨y0,hy0⟩ : ∃ y0,l[0]? = some y0:=⟨l[0]'(by omega),by simp⟩;obtain ⟨-,hs,hb,-⟩:=cells_of (hP 0 y0 hy0).1 h0;rw [Nat.zero_mul,show a.add 0=a from rfl] at hs hb;obtain ⟨b,o,s⟩:=a;cases hs
     obtain ⟨-,-,-,hc⟩:=cells_of (hP i y hy).1 h0;rw [Addr.add_lit] at hc;exact ⟨b,o,rfl,hb,hc⟩
   · obtain ⟨i,hi,rfl⟩:=List.mem_iff_getElem.1 hy
     exact (hP i _ (by simp [hi])).2
theorem cellsOf_str:Tryz.prog.cellsOf 9=1:=by kernel_rfl
theorem cellsOf_id:Tryz.prog.cellsOf 23=2:=by kernel_rfl
theorem cellsOf_strs:Tryz.prog.cellsOf 24=1:=by kernel_rfl
theorem cellsOf_meta:Tryz.prog.cellsOf 26=5:=by kernel_rfl
theorem lenE2 {l:List Value} (h:l.length=2) : ∃ c0 c1,l=[c0,c1]:=by
 match l,h with
 | [c0,c1],_=>exact ⟨c0,c1,rfl⟩
theorem lenE5 {l:List Value} (h:l.length=5) : ∃ c0 c1 c2 c3 c4,l=[c0,c1,c2,c3,c4]:=by
 match l,h with
 | [c0,c1,c2,c3,c4],_=>exact ⟨c0,c1,c2,c3,c4,rfl⟩
theorem opens_id:Opens enc W sp held 23 idC (fun i=>i.group.size≤maxLen∧i.artifact.size≤maxLen):=fun fuel cs x h=>by
 obtain ⟨xs,n,-,-,hl,hxs,hf⟩:=DataW.trod_struct Tryz.underlying23 h;rw [cellsOf_id] at hl;obtain ⟨c0,c1,rfl⟩:=lenE2 hl;have f0:DataW.trod enc Tryz.prog W 0 sp held n 9 (([c0,c1].drop 0).take (Tryz.prog.cellsOf 9))=xs[0]?:=hf 0 _ rfl;rw [cellsOf_str,List.getElem?_eq_getElem (by rw [hxs]; decide)] at f0;have f1:DataW.trod enc Tryz.prog W 0 sp held n 9 (([c0,c1].drop 1).take (Tryz.prog.cellsOf 9))=xs[1]?:=hf 1 _ rfl;rw [cellsOf_str,List.getElem?_eq_getElem (by rw [hxs]; decide)] at f1;obtain ⟨a0,h0,k0⟩:=opens_string _ _ _ f0;obtain ⟨a1,h1,k1⟩:=opens_string _ _ _ f1;clear hf f0 f1;cases h0
 cases h1
 exact ⟨⟨a0,a1⟩,rfl,k0,k1⟩
theorem opens_strs:Opens enc W sp held 24 (fun v:Value=>[v]) (fun v=>∃ l,SliceOf 1 strC W v l ∧ ∀ a ∈ l,a.size≤maxLen):=opens_slice Tryz.underlying24 cellsOf_str (by decide) opens_string
theorem opens_meta:Opens enc W sp held 26 (fun q:MetaD × Value=>metaC q.1 q.2) (fun q=>SliceOf 1 strC W q.2 q.1.vers ∧ ∀ a ∈ q.1.vers,a.size≤maxLen):=fun fuel cs x h=>by
 obtain ⟨xs,n,-,-,hl,hxs,hf⟩:=DataW.trod_struct Tryz.underlying26 h;rw [cellsOf_meta] at hl;obtain ⟨c0,c1,c2,c3,c4,rfl⟩:=lenE5 hl;have f0:DataW.trod enc Tryz.prog W 0 sp held n 23 (([c0,c1,c2,c3,c4].drop 0).take (Tryz.prog.cellsOf 23))=xs[0]?:=hf 0 _ rfl;rw [cellsOf_id,List.getElem?_eq_getElem (by rw [hxs]; decide)] at f0;have f1:DataW.trod enc Tryz.prog W 0 sp held n 24 (([c0,c1,c2,c3,c4].drop 2).take (Tryz.prog.cellsOf 24))=xs[1]?:=hf 1 _ rfl;rw [cellsOf_strs,List.getElem?_eq_getElem (by rw [hxs]; decide)] at f1;have f2:DataW.trod enc Tryz.prog W 0 sp held n 9 (([c0,c1,c2,c3,c4].drop 3).take (Tryz.prog.cellsOf 9))=xs[2]?:=hf 2 _ rfl;rw [cellsOf_str,List.getElem?_eq_getElem (by rw [hxs]; decide)] at f2;have f3:DataW.trod enc Tryz.prog W 0 sp held n 9 (([c0,c1,c2,c3,c4].drop 4).take (Tryz.prog.cellsOf 9))=xs[3]?:=hf 3 _ rfl;rw [cellsOf_str,List.getElem?_eq_getElem (by rw [hxs]; decide)] at f3;obtain ⟨a0,h0,k0⟩:=opens_id _ _ _ f0;obtain ⟨a1,h1,k1⟩:=opens_strs _ _ _ f1;obtain ⟨a2,h2,k2⟩:=opens_string _ _ _ f2;obtain ⟨a3,h3,k3⟩:=opens_string _ _ _ f3;clear hf f0 f1 f2 f3;cases h0
 cases h1
 cases h2
 cases h3
 exact ⟨(⟨a0,k1.choose,a2,a3⟩,_),rfl,k1.choose_spec⟩
set_option maxRecDepth 100000 in
theorem open_meta {H:Type} {enc:TypeId × Value→H} {W:World} {base:Nat} {v:Value} {d:DataW H} {p:List MemPlace} (hval:Value.okWide Tryz.prog W .any base 26 v)
    (h:DataW.Trod enc Tryz.prog W 0 (fun _=>true) true 26 v d p) : ∃ (m:MetaD) (mv:Value),v=metaAg m mv∧SliceOf 1 strC W mv m.vers ∧ ∀ a ∈ m.vers,a.size≤maxLen:=by
 obtain ⟨fuel,hf⟩:=h;obtain ⟨⟨q,mv⟩,hcs,hok⟩:=opens_meta _ _ _ hf;refine ⟨q,mv,?_,hok⟩
 simp only [Value.okWide,Tryz.underlying26] at hval;obtain ⟨cs,rfl,-⟩:=hval;simp only [Value.cells] at hcs;rw [metaAg,← hcs]
end Go.Proofs.YtecffghcpknmjaaGreatDoor
namespace Go.Proofs.YtecffghcpknmjaaGreatDoor
open Go Go.ChangeShapes Go.WideShapes Go.ChangeAt Go.RowKit
theorem own:ownKnob Tryz.prog.godebug=none:=by kernel_rfl
theorem laidOut:laidOutB Tryz.prog=true:=by kernel_rfl
theorem trodAll_below {H:Type} {enc:TypeId × Value→H} {W W':World} (hb:Below W.heap.size W W') : ∀ {ts:List TypeId} {vs:List Value} {ds:List (DataW H)} {ps:List MemPlace},
    (∀ t ∈ ts,Tryz.prog.readableRec t=true∧t<Tryz.prog.types.size)→DataW.TrodAll enc Tryz.prog W 0 (fun _=>true) true ts vs ds ps→(∀ x ∈ ps,x.block<W.heap.size) →
    DataW.TrodAll enc Tryz.prog W' 0 (fun b=>decide (b<W.heap.size)) true ts vs ds ps
 | [],[],[],_,_,h,_=>h
 | t::ts,v::vs,d::ds,ps,hr,h,hlt=>by
  obtain ⟨p,q,h1,h2,rfl⟩:=h
  exact ⟨p,q,Below.trod laidOut (hr t (by simp)).1 (hr t (by simp)).2 h1 hb (fun x hx=>hlt x (by simp [hx])),
   trodAll_below hb (fun u hu=>hr u (by simp [hu])) h2 (fun x hx=>hlt x (by simp [hx])),rfl⟩
 | [],[],_::_,_,_,h,_=>h.elim
 | [],_::_,_,_,_,h,_=>h.elim
 | _::_,[],_,_,_,h,_=>h.elim
 | _::_,_::_,[],_,_,h,_=>h.elim
def laidL : List (String × DataW Unit) := [("unicode/utf8.acceptRanges", Rows.laid_unicode_utf8_acceptRanges), ("unicode/utf8.first", Rows.laid_unicode_utf8_first)]
theorem handed_tied {H:Type} {enc:TypeId × Value→H} {a:Assume} {C:Checked} {os:Os} {f:FuncId} {fn:Func} {s:ChangeSpec} {conds:List PathCond} {apart fresh handsOn again:Bool} {X:World→Array Value→Prop}
    (own:ownKnob C.prog.godebug=none) (started:os.Started) (noInit:C.prog.inits.idxOf? f=none) (hfn:C.prog.funcs[f]? = some fn)
    (witness : ∃ (w:World) (tape:Tape) (i:Input),w.os=os∧(w.forCall tape i).Shaped C.prog∧i.vars=[]∧Input.okWide C.prog (w.forCall tape i) .any w.heap.size f i ∧
     ((s.pre enc C.prog fn conds apart (w.forCall tape i).memory i.args∧X (w.forCall tape i).memory i.args)∧sizedMet enc C.prog fn (OpenSpec.ofChange s) apart (w.forCall tape i).memory i.args)∧a.holds C.prog (lone (Frame.enter C.prog f i.args .normal) [] (w.forCall tape i)))
    (contract : ∀ (W:World) (base:Nat) (args:Array Value) (ds gs:List (DataW H)) (before:List MemPlace),
     (∀ (j:Nat) t v,fn.params[j]? = some t→args[j]? = some v→Value.okWide C.prog W .any base t v) →
     DataW.Whole enc C.prog fn.params.toList s.vars apart W args.toList ds gs before →
     conds.all (PathCond.test C.prog ⟨fn.params.toList,ds,s.plain.varTypes C.prog,gs⟩)=true →
     W.ShapedOpen C.prog →
     Calls C.prog f args W fun e W'=>∃ v,e = .returned v∧s.post enc C.prog fn apart fresh handsOn again W args v W') :
    ReturnsInHanded a C os f .any (fun w args=>(s.pre enc C.prog fn conds apart w args∧X w args)∧sizedMet enc C.prog fn (OpenSpec.ofChange s) apart w args) (s.post enc C.prog fn apart fresh handsOn again):=by
 refine returnsInHanded_of_calls own started noInit witness ?_
 intro w tape i _ hsh _ hok hpre hholds;obtain ⟨_,_,_,fn',hfn',_,_,_,_,hval⟩:=hok;have e:fn'=fn:=Option.some.inj (hfn'.symm.trans hfn);subst e;obtain ⟨⟨⟨ds,gs,before,hw,hc⟩,-⟩,-⟩:=hpre;have hw':=DataW.Whole.of_heap (w':=w.forCall tape i) (by rfl) hw;refine (contract (w.forCall tape i) w.heap.size i.args ds gs before hval hw' hc hsh).mono fun e W' ⟨v,he,hp⟩=>?_
 subst he;exact ChangeSpec.post_blind hp
end Go.Proofs.YtecffghcpknmjaaGreatDoor
namespace Go.Proofs.YtecffghcpknmjaaGreatDoor
open Go Go.RowKit
end Go.Proofs.YtecffghcpknmjaaGreatDoor
