/- The walk of the builder's letters where a text is added; its conditions stand in the theorem. -/
import Derived.Test.YtominiaohfjobaaGreatDoorPK03
import Derived.Deep.RegionLawGrows
import Derived.Deep.CutRange
import Derived.Deep.CutBlock
import Derived.Test.YtominiaohfjobaaGreatDoorPK01
import Derived.Test.YtominiaohfjobaaGreatDoorPK02
import Derived.Laws.IdiomStrings
import Derived.Deep.RegionHeld3
set_option maxRecDepth 100000
set_option maxHeartbeats 64000000
namespace Go.Proofs.YtominiaohfjobaaGreatDoor
open Go Go.RowKit
variable {lo:Nat}
theorem bD.step_kid {W:World} {B:Nat} {f:Fr} {fs:List Fr} {X:Nat→Prop} {ov:Value} {c d t:Value} {b o:Nat} {L:List iq} {av:Value} {ao:Option Addr} {cap:Nat} {qs:List (Nat × Nat)}
    (h:bD 114 212 lo W B (f::fs) none X ov (qs.reverse ++ [(b,o)]) c d t) (inn:eD 114 X W b o f L av (.slice ao L.length cap)) (up:Up 114 B X W b o fs qs) {U:World} (D:Below W.heap.size W U)
    {g A:Nat} {w8:World} (ho:aj (b+1) 114 4 fu w8 (.slice (some ⟨g,0,none⟩) (L.length+1) A) (L ++ [bq])) (hg:U.grownBy w8 (Value.slice ao L.length cap).ownBlock) (a4:(Value.slice ao L.length cap).ownBlock=some g∨g=U.heap.size)
    (J:Bs) (ats:List eE) (x:Bs) (I:Value) (hy:bJ 2 gJ X W I ats) :
    ∃ X',eD 114 X' (((((w8.setCell ⟨g,L.length*4,none⟩ (.string (bs J))).setCell ⟨g,L.length*4+1,none⟩ I).setCell ⟨g,L.length*4+2,none⟩ (.slice none 0 0)).setCell ⟨g,L.length*4+3,none⟩ (.string (bs x))).setCell ⟨b,o+2,none⟩ (.slice (some ⟨g,0,none⟩) (L.length+1) A)) b o (f.add (.mk J ats [] x)) (L ++ [((.mk J ats [] x:Tr),I,.slice none 0 0)]) av (.slice (some ⟨g,0,none⟩) (L.length+1) A) ∧
     Up 114 B X' (((((w8.setCell ⟨g,L.length*4,none⟩ (.string (bs J))).setCell ⟨g,L.length*4+1,none⟩ I).setCell ⟨g,L.length*4+2,none⟩ (.slice none 0 0)).setCell ⟨g,L.length*4+3,none⟩ (.string (bs x))).setCell ⟨b,o+2,none⟩ (.slice (some ⟨g,0,none⟩) (L.length+1) A)) b o fs qs ∧
     bD 114 212 lo (((((w8.setCell ⟨g,L.length*4,none⟩ (.string (bs J))).setCell ⟨g,L.length*4+1,none⟩ I).setCell ⟨g,L.length*4+2,none⟩ (.slice none 0 0)).setCell ⟨g,L.length*4+3,none⟩ (.string (bs x))).setCell ⟨b,o+2,none⟩ (.slice (some ⟨g,0,none⟩) (L.length+1) A)) B (f.add (.mk J ats [] x)::fs) none X' ov (qs.reverse ++ [(b,o)]) c d t ∧
     (∀ k,k<W.heap.size→X' k→X k)∧aK X W (((((w8.setCell ⟨g,L.length*4,none⟩ (.string (bs J))).setCell ⟨g,L.length*4+1,none⟩ I).setCell ⟨g,L.length*4+2,none⟩ (.slice none 0 0)).setCell ⟨g,L.length*4+3,none⟩ (.string (bs x))).setCell ⟨b,o+2,none⟩ (.slice (some ⟨g,0,none⟩) (L.length+1) A)) ∧
     Below B W (((((w8.setCell ⟨g,L.length*4,none⟩ (.string (bs J))).setCell ⟨g,L.length*4+1,none⟩ I).setCell ⟨g,L.length*4+2,none⟩ (.slice none 0 0)).setCell ⟨g,L.length*4+3,none⟩ (.string (bs x))).setCell ⟨b,o+2,none⟩ (.slice (some ⟨g,0,none⟩) (L.length+1) A)):=by
 have a8:=D.size;have a5:eD 114 X U b o f L av (.slice ao L.length cap):=inn.keep (aK.below D) (fun _ _ h=>h) (fun j _=>D.cell (p:=⟨b,o+j,none⟩) (h.xsize b inn.xb)) (fun k hk=>D.block k (h.xsize k (inn.blk k hk))) (fun k hk=>hk.elim (fun e=>e ▸ inn.xb) (fun e=>inn.blk k e));have a6:Up 114 B X U b o fs qs:=up.keep (aK.below D) (fun _ _ h=>h) (fun _ _ _ h=>h) (fun _ j _=>D.cell (p:=⟨B,j,none⟩) h.lt) (fun k n hk _ hr j=>D.cell (p:=⟨k,j,none⟩) hr.lt) (fun j _=>D.cell (p:=⟨b,j,none⟩) (h.xsize b inn.xb)) (fun k n _ _ hr=>hr.kept (D.block k hr.lt));have h1:=h.below D;have al:aK X W U:=aK.below D;have a7:bJ 2 gJ X U I ats:=hy.keep al (fun _ _ h=>h);have O:=uh (m:=L.length*4) hg a4 (.string (bs J)) I (.slice none 0 0) (.string (bs x));have a0 : ∀ k,(Value.slice ao L.length cap).ownBlock=some k→X k:=inn.blk
 have ac:(Value.slice (some ⟨g,0,none⟩) (L.length+1) A).ownBlock=(Value.slice ao L.length cap).ownBlock ∨ ∀ k,(Value.slice (some ⟨g,0,none⟩) (L.length+1) A).ownBlock=some k→U.heap.size≤k:=by
  rcases a4 with e | e
  · exact .inl (by rw [e]; rfl)
  · exact .inr fun k hk=>by cases hk; exact Nat.le_of_eq e.symm
 have ag:bj X U (.mk J ats [] x) I (.slice none 0 0):=.mk [] a7 rfl bJ.nil (by simp);obtain ⟨r1,r2,r3⟩:=bD.kid ju h1 a5 a6 (y:=((.mk J ats [] x:Tr),I,.slice none 0 0)) ag (ho.nodeSt J ats x I) O ac;refine ⟨_,r1,r2,r3,fun k hk hx=>?_,?_,?_⟩
 · exact jh.old (w:=U) a0 ac (Nat.lt_of_lt_of_le hk a8) hx
 · exact al.trans ((aK.grown O a0).trans (aZ _ b (o+2) _ inn.xb))
 · refine bf ?_ b (o+2) _ up.ge
   have Z:Below B W U:=D.mono (Nat.le_of_lt h.lt);refine ⟨O.os.trans Z.os,O.tape.trans Z.tape,O.output.trans Z.output,Nat.le_trans Z.size O.size,fun k hk=>(O.block k ?_ (fun e=>?_)).trans (Z.block k hk)⟩
   · have:=h.lt; omega
   · have:=(inn.own.rowOf e.symm).1; have:=up.ge; omega
theorem pT {I A:World} {b o g D:Nat} {L:List iq} {v:Value} {row:Option Nat} (J:b<I.heap.size) (c2:I.cell? ⟨b,o+2,none⟩=some v) (f2:I.frozen? ⟨b,o+2,none⟩=false) (O : ∀ k,row=some k→b<k)
    (ho:aj (b+1) 114 4 fu A (.slice (some ⟨g,0,none⟩) (L.length+1) D) (L ++ [bq])) (U:I.grownBy A row) :
    b<A.heap.size∧A.cell? ⟨b,o+2,none⟩=some v∧A.frozen? ⟨b,o+2,none⟩=false∧b≠g∧g<A.heap.size∧L.length+1≤D∧D≤maxLen:=by
 have Z:A.heap[b]? = I.heap[b]?:=U.block b J (fun e=>by have:=O b e.symm; omega);obtain ⟨-,h2,h3,-,h5,h6⟩:=ho.row;exact ⟨Nat.lt_of_lt_of_le J U.size,(World.cell?_of_block (by exact Z)).trans c2,(World.frozen?_of_block (by exact Z)).trans f2,by omega,h3.lt,by simpa using h5,h6⟩
theorem oZ (w:World) (B n:Nat) (f:Fr) (fs:List Fr) (r:Option Tr) (c:Nat) (X:Nat→Prop) (ov:Value) (ps:List (Nat × Nat)) (s:Bs) (h:gT lo w B ⟨f::fs,r,c,false⟩ n X ov ps) (A:s≠[]) (hn:n≤1000000) (hc:4096<c+1) :
    Calls Tryz.prog 123 #[.pointer (some ⟨B,0,none⟩),.string (bs s)] w (cA lo w B (n+1) (bU ⟨f::fs,r,c,false⟩ s)):=by
 have hlt:=h.core.lt;have c4:=h.core.c4;obtain ⟨ao,cap,D⟩:=h.shape;rw [D] at c4;simp only [List.length_cons] at c4;obtain ⟨b,o,L,av,a5,al,qs,-,J,-⟩:=h.core.data;have Z:=zH (jQ (by have:=h.core; rw [J] at this; exact this));have a0:((fs.length+1:Nat):Int)≠0:=by omega
 have H:=zH h;have a4:c≤n:=h.cn;clear h D;have he:(bs s:S).toList.isEmpty=false:=by rw [bH,ax]; simpa using A
 have O:bU ⟨f::fs,r,c,false⟩ s = .bad 2:=by
  cases s with
  | nil=>exact absurd rfl A
  | cons x s=>simp [bU,hc]
 rw [O];have U:decide (c+1≤4096)=false:=by rw [decide_eq_false_iff_not]; omega
 generalize (bs s:S)=S1 at *;clear O;go_enter Tryz.func123,Tryz.ntmps123
 go_wp2_with fail
 refine Z.out.mono ?_
 rintro e w' ⟨rfl,k,rfl⟩;have c7:=(H.out.drewN k).core.c7;have HO:=zH (ls (w.drewN k) B c (H.out.drewN k).core.c5 ((H.out.drewN k).core.f 5) (by omega));rw [U] at HO;have I:Below B w (w.drewN k):=aY (Below.refl _ _) k;have ad:=zH I;have ac:=zH (aX w k (some B));have ag:B<(w.drewN k).heap.size:=hlt;clear I hlt Z c4 U;generalize w.drewN k=W at *;go_wp2_with fail
 refine HO.out.mono ?_
 rintro e w' ⟨rfl,rfl⟩;go_wp2
 go_ret
 exact ⟨rfl,ac.out.trans (ab _ _ _ _),bf ad.out B _ _ (Nat.le_refl _)⟩
theorem qR (w:World) (B n:Nat) (f:Fr) (fs:List Fr) (r:Option Tr) (c:Nat) (X:Nat→Prop) (ov:Value) (ps:List (Nat × Nat)) (s:Bs) (h:gT lo w B ⟨f::fs,r,c,false⟩ n X ov ps) (ba:s≠[]) (hs:s.length≤2000000) (hn:n≤1000000) (hc : ¬ 4096<c+1) :
    Calls Tryz.prog 123 #[.pointer (some ⟨B,0,none⟩),.string (bs s)] w (cA lo w B (n+1) (bU ⟨f::fs,r,c,false⟩ s)):=by
 have hlt:=h.core.lt;have c4:=h.core.c4;obtain ⟨ao,cap,bb⟩:=h.shape;rw [bb] at c4;simp only [List.length_cons] at c4;obtain ⟨b,o,L0,g9,hb,fv,gc,-,ad,-⟩:=h.core.data;have HT:=zH (jQ (by have:=h.core; rw [ad] at this; exact this));have gv:((fs.length+1:Nat):Int)≠0:=by omega
 have H:=zH h;have g0:c≤n:=h.cn;clear h bb;have he:(bs s:S).toList.isEmpty=false:=by rw [bH,ax]; simpa using ba
 have hl:bU ⟨f::fs,r,c,false⟩ s = .ok ⟨f.add (.mk [] [] [] s)::fs,r,c+1,true⟩:=by
  cases s with
  | nil=>exact absurd rfl ba
  | cons x s=>simp [bU,hc]
 rw [hl];have hd:decide (c+1≤4096)=true:=by rw [decide_eq_true_iff]; omega
 obtain ⟨S1,a4⟩ : ∃ S1:S,S1=bs s:=⟨_,rfl⟩;have d2:=zH a4;rw [← a4] at he ⊢;clear hl a4;go_enter Tryz.func123,Tryz.ntmps123
 go_wp2_with fail
 refine HT.out.mono ?_
 rintro e w' ⟨rfl,k,rfl⟩;have c7:=(H.out.drewN k).core.c7;have HO:=zH (ls (w.drewN k) B c (H.out.drewN k).core.c5 ((H.out.drewN k).core.f 5) (by omega));rw [hd] at HO;have bv:Below B w (w.drewN k):=aY (Below.refl _ _) k;have b0:=zH bv;have ag:B<(w.drewN k).heap.size:=hlt;have hC:=(H.out.drewN k).core.set5 (.int .i64 (c+1:Nat));have HC:=zH hC;clear bv hlt HT c4 hd hC;generalize w.drewN k=W at *;go_wp2_with fail
 refine HO.out.mono ?_
 rintro e w' ⟨rfl,rfl⟩;have cm:=zH (bf b0.out B 5 (.int .i64 (c+1:Nat)) (Nat.le_refl _));have d9:B<(W.setCell ⟨B,5,none⟩ (.int .i64 (c+1:Nat))).heap.size:=by simpa [World.setCell] using ag
 clear b0 ag HO c7;generalize W.setCell ⟨B,5,none⟩ (.int .i64 (c+1:Nat))=D at *;obtain ⟨b',o',L,av,a5,Z,qs,hr,J,inn,up,bl,g7,g1,-,q2,f2⟩:=HC.out.data
 obtain ⟨rfl,rfl⟩:b=b'∧o=o':=by
  rw [ad] at J;have:=(List.append_inj' J rfl).2
  simpa using this
 have ah:=HC.out;subst hr;rw [J] at ah
 have g4:L.length≤n:=by
  have h1:=H.out.kd f (by simp);rw [← inn.is,List.length_map] at h1; exact h1
 have g5:((L.length:Int):Int)<(L.length:Int)+1:=by omega
 have g6:(0:Int)≤(L.length:Int):=by omega
 have HK:=zH fun (W1:World) (dk:Below D.heap.size D W1)=>@bD.step_kid lo D B f fs X ov _ _ _ b o L av a5 Z qs ah inn up W1 dk;have d7:Hid (∀ k,(Value.slice a5 L.length Z).ownBlock=some k→b<k):=fun k hk=>(inn.own.rowOf hk).1;have d5:=zH inn.own;clear ad J ah inn up HC;have a6:=zH ((d5.out.alloc (.cells (fu bq).toArray 114)).drew);have b6:Hid (b<((D.alloc (.cells (fu bq).toArray 114)).drew).heap.size):=by show _<_; simp; omega
 have al:Hid (Below D.heap.size D ((D.alloc (.cells (fu bq).toArray 114)).drew)):=aY ((Below.refl _ D).alloc (Nat.le_refl _) _) 1;have d6:Hid (∀ j u,(fu bq)[j]? = some u→((D.alloc (.cells (fu bq).toArray 114)).drew).cell? ⟨D.heap.size,j,none⟩=some u):=fun j u hu=>(ak.new D (fu bq) 114 _ rfl).cell j u hu;have dg:Hid (b+1≤((D.alloc (.cells (fu bq).toArray 114)).drew).heap.size):=by show _≤_; simp; omega
 have ac:Hid (((D.alloc (.cells (fu bq).toArray 114)).drew).heap.size=D.heap.size+1):=by show _=_; simp
 have b5:Hid ((L.length+1)*80≤140737488355328):=by show _≤_; omega
 have d4:=zH (((al.out.cell (p:=⟨b,o+2,none⟩) bl).trans q2));have d8:=zH (((al.out.frozen (p:=⟨b,o+2,none⟩) bl).trans f2));go_wp2
 go_region_law (first | (refine aW rfl (.tmp 20) (.tmp 24) 112 rfl (b+1) 114 Tryz.underlying112 lX rfl (by decide) bY (.slice a5 L.length Z) L (by simp [Act.eval,Act.put]) a6.out D.heap.size bq (by simp [Act.eval,Act.put]) d6.out kO b5.out (by decide) dg.out (D.heap.size+1) ac.out ?_; intro U b7 w8 A I a0 b4; obtain ⟨x1,x2,x3,x4,x5,x6,x7⟩:=pT b6.out d4.out d8.out d7.out A I; obtain ⟨y0,z0,t0⟩:=A.nodeCells 0 (by decide); obtain ⟨y1,z1,t1⟩:=A.nodeCells 1 (by decide); obtain ⟨y2,z2,t2⟩:=A.nodeCells 2 (by decide); obtain ⟨y3,z3,t3⟩:=A.nodeCells 3 (by decide); rw [Nat.add_zero] at y0 t0; have bc:=zH A; have bg:=zH I; have bo:=zH a0; clear A I a0))
 all_goals
  obtain ⟨X',-,-,r3,-,-,r6⟩:=HK.out _ al.out bc.out bg.out (by rw [ac.out]; exact bo.out) [] [] s (.slice none 0 0) bJ.nil;rw [← d2.out] at r3 r6;have a9 : ∀ (W:World) (j:Nat) (u v:Value),(W.setCell ⟨b,o+2,none⟩ u).setCell ⟨U,j,none⟩ v=(W.setCell ⟨U,j,none⟩ v).setCell ⟨b,o+2,none⟩ u:=fun W j u v=>kZ W _ _ _ _ x4;try simp only [a9]
  obtain ⟨W9,aa⟩ : ∃ W9,W9=((((w8.setCell ⟨U,L.length*4,none⟩ (.string ⟨#[]⟩)).setCell ⟨U,L.length*4+1,none⟩ (.slice none 0 0)).setCell ⟨U,L.length*4+2,none⟩ (.slice none 0 0)).setCell ⟨U,L.length*4+3,none⟩ (.string S1)).setCell ⟨b,o+2,none⟩ (.slice (some ⟨U,0,none⟩) (L.length+1) b7):=⟨_,rfl⟩;rw [← aa];have O:bD 114 212 lo W9 B (f.add (.mk [] [] [] s)::fs) none X' ov (qs.reverse ++ [(b,o)]) (.int .i64 (c+1:Nat)) (.bool (none:Option Tr).isSome) (.bool false):=by rw [aa]; exact r3
  have a8:Below B D W9:=by rw [aa]; exact r6
  clear r3 r6 aa a9 x1 x2 x3 x4 x5 x6 x7 y0 z0 t0 y1 z1 t1 y2 z2 t2 y3 z3 t3 bc bg bo q2 f2 b4;have c7:=O.c7;have f7:=O.f 7;have e7:=O.lt;have HR:=zH O;have d3:=zH a8;clear O a8;go_wp2
  go_ret
  refine ⟨rfl,⟨X',ov,_,HR.out.set7 (.bool true),fun _=>⟨_,_,f.kids,.mk [] [] [] s,rfl,rfl,?_⟩,fun f' hf'=>?_,?_,?_⟩,bf (cm.out.trans d3.out) B 7 _ (Nat.le_refl _)⟩
  · show s.length≤_
    rw [pw]; omega
  · rcases List.mem_cons.1 hf' with rfl | hf'
    · have:=H.out.kd f (by simp)
      simp [Fr.add]; omega
    · have:=H.out.kd f' (by simp [hf']); omega
  · show c+1≤n+1
    omega
  · have:=H.out.sn
    simp at this ⊢; omega
theorem qQ (w:World) (B n:Nat) (st:lM) (X:Nat→Prop) (ov:Value) (ps:List (Nat × Nat)) (s:Bs) (h:gT lo w B st n X ov ps) (A:s.length≤2000000) (hn:n≤1000000) :
    Calls Tryz.prog 123 #[.pointer (some ⟨B,0,none⟩),.string (bs s)] w (cA lo w B (n+1) (bU st s)):=by
 obtain ⟨stack,r,c,tx⟩:=st;cases stack with
 | nil=>exact qP w B n r c tx X ov ps s h A
 | cons f fs =>
  by_cases h0:s=[]
  · subst h0
    exact oY w B n f fs r c tx X ov ps h
  · cases tx with
    | true=>exact oX w B n f fs r c X ov ps s h h0 A hn
    | false =>
     by_cases D:4096<c+1
     · exact oZ w B n f fs r c X ov ps s h h0 hn D
     · exact qR w B n f fs r c X ov ps s h h0 A hn D
end Go.Proofs.YtominiaohfjobaaGreatDoor
namespace Go.Proofs.YtominiaohfjobaaGreatDoor
open Go Go.RowKit
variable {lo:Nat}
theorem sJ:(Tryz.prog.info? 212).map (fun i=>(i.zero,i.size,i.bytes))=some (some (.pointer none),1,8):=by kernel_rfl
theorem uR (p:Nat × Nat) : ∀ u ∈ td p,u.oneCell'=true:=by intro u A; simp [td] at A; subst A; rfl
theorem gX {ops:Array Oper} {o:Oper} {a:Act} {w:World} {K:Act→World→Prop} {Q:Exit→Act→World→Prop} {E:Prop} (U:o.guard=none) (s x:Operand)
    (ho:o.op = .call { callee:=.builtin .append,args:=#[s,x],argTypes:=#[158,158] }) {B:Nat} (ov:Value) (ps:List (Nat × Nat)) (hs:a.eval s=ov) (aa:dy 212 B w ov ps) (H:Nat) (p:Nat × Nat) (hx:a.eval x = .slice (some ⟨H,0,none⟩) 1 1)
    (ac:w.cell? ⟨H,0,none⟩=some (.pointer (some ⟨p.1,p.2,none⟩))) (hl:ps.length≤1000000) (hB:B+1≤w.heap.size) (N:Nat) (hN:w.heap.size=N)
    (h : ∀ g cap w',aj (B+1) 212 1 td w' (.slice (some ⟨g,0,none⟩) (ps.length+1) cap) (ps ++ [p])→w.grownBy w' ov.ownBlock→(ov.ownBlock=some g∨N≤g)→K (a.put o.dst (.slice (some ⟨g,0,none⟩) (ps.length+1) cap)) w') :
    if Region.wanted o (yielded ops a.tmps)=true then Oper.wp Tryz.prog o a w K Q else E:=by
 have I : ∀ j u,(td p)[j]? = some u→w.cell? ⟨H,j,none⟩=some u:=fun j u D=>by
  cases j with
  | zero=>simp [td] at D; subst D; exact ac
  | succ j=>simp [td] at D
 rcases aa.owns with Z | ⟨g,rfl,al⟩
 · exact aW U s x 158 ho (B+1) 212 Tryz.underlying158 sJ rfl (by decide) m0 ov ps hs Z H p hx I (uR p) (by omega) (by decide) hB N hN (fun g cap w' h1 h2 h3 _=>h g cap w' h1 h2 (h3.imp id fun e=>by omega))
 · obtain ⟨i,hi,hz,O,ag⟩:=info_parts sJ
   refine step_append_grows U s x 158 ho 212 i _ 1 8 Tryz.underlying158 hi hz O ag rfl (by decide) (some ⟨g,0,none⟩) ps.length ps.length (ps.flatMap td) hs (by simp) (bG m0 ps) (fun b hb j u D=>by cases hb; rw [Addr.add_lit]; exact al j u D)
    ⟨H,0,none⟩ 1 1 (td p) hx rfl (fun j u D=>by rw [Addr.add_lit,Nat.zero_add]; exact I j u D) (uR p) (by omega) (by unfold maxLen; omega) (by omega) ?_
   intro v' w' h1 h2;rcases h1.2 with ⟨-,h0⟩ | ⟨g2,J,a0,rfl,hb,hg,A⟩
   · omega
   · refine h g2 J w' ⟨by rw [bG m0],?_⟩ ⟨h2.os,h2.tape,h2.output,h2.size,fun k hk _=>h2.block k hk (by simp)⟩ (.inr ?_)
     · refine .inr ⟨g2,J,a0,by simp,by omega,hg,by simpa using A.1,A.2.1,A.2.2.1,?_⟩
       rw [List.flatMap_append]; simpa using A.2.2.2
     · omega
def ir (lo:Nat) (X:Nat→Prop) (w:World) (B n:Nat):zx→Ending→World→Prop
 | .ok st=>fun e w'=>cA lo w B n (.ok st) e w'∧aK X w w'
 | .bad x=>cA lo w B n (.bad x)
def fA (t:Tk) (av:Value) (p q r:Int):Value:=.agg #[.int .i64 t.kind,.string (bs t.name),av,.string (bs t.text),.int .i64 p,.int .i64 q,.int .i64 r]
def jO (lo B:Nat) (w:World) (av:Value) (l:List eE):Prop:=bJ 2 gJ (fun k=>B≤k∨k<lo) w av l
theorem jO.x {B:Nat} {w w':World} {av:Value} {l:List eE} {X:Nat→Prop} (h:jO lo B w av l) (A:Below B w w') (D : ∀ k,X k→B≤k∨k<lo):bJ 2 gJ X w' av l :=
 bJ.keep h ⟨A.size,fun k j _ hn=>A.cell (p:=⟨k,j,none⟩) (by exact Nat.lt_of_not_le (fun e=>hn (.inl e)))⟩ (fun k _ h=>D k h)
theorem jO.below {B:Nat} {w w':World} {av:Value} {l:List eE} (h:jO lo B w av l) (A:Below B w w'):jO lo B w' av l:=h.x A (fun _ h=>h)
theorem jO.shape {B:Nat} {w:World} {av:Value} {l:List eE} (h:jO lo B w av l) : ∃ ao cap,av = .slice ao l.length cap:=bJ.shape h
theorem ux (w:World) (B n:Nat) (st:lM) (X:Nat→Prop) (ov:Value) (ps:List (Nat × Nat)) (h:gT lo w B st n X ov ps) (t:Tk) (av:Value) (p q r:Int) (A:st.root.isSome=true) :
    Calls Tryz.prog 124 #[.pointer (some ⟨B,0,none⟩),fA t av p q r] w (ir lo X w B (n+1) (cb st t)):=by
 have hlt:=h.core.lt;have c6:=h.core.c6;rw [A] at c6;have D:cb st t = .bad 16:=by unfold cb; rw [if_pos A]
 rw [D];unfold fA;go_enter Tryz.func124,Tryz.ntmps124
 go_wp2
 go_ret
 exact ⟨rfl,World.grownBy_alloc _ _ _,(Below.refl _ _).alloc (by omega) _⟩
theorem uy (w:World) (B n:Nat) (st:lM) (X:Nat→Prop) (ov:Value) (ps:List (Nat × Nat)) (h:gT lo w B st n X ov ps) (t:Tk) (av:Value) (p q r:Int) (A:st.root.isSome=false) (J:64≤st.stack.length) :
    Calls Tryz.prog 124 #[.pointer (some ⟨B,0,none⟩),fA t av p q r] w (ir lo X w B (n+1) (cb st t)):=by
 have hlt:=h.core.lt;have c6:=h.core.c6;rw [A] at c6;have c4:=h.core.c4;obtain ⟨ao,cap,rfl⟩:=h.shape;have I:cb st t = .bad 2:=by unfold cb; rw [A,if_neg (by simp),if_pos J]
 rw [I];have O:(64:Int)≤(st.stack.length:Int):=by omega
 have D:B<(w.heap.size+1):=by omega
 clear h;unfold fA;go_enter Tryz.func124,Tryz.ntmps124
 go_wp2
 go_ret
 exact ⟨rfl,World.grownBy_alloc _ _ _,(Below.refl _ _).alloc (by omega) _⟩
theorem uw (w:World) (B n:Nat) (st:lM) (X:Nat→Prop) (ov:Value) (ps:List (Nat × Nat)) (h:gT lo w B st n X ov ps) (t:Tk) (av:Value) (p q r:Int) (D:st.root.isSome=false) (U : ¬ 64≤st.stack.length) (Z:4096<st.count+1) (hn:n≤1000000) :
    Calls Tryz.prog 124 #[.pointer (some ⟨B,0,none⟩),fA t av p q r] w (ir lo X w B (n+1) (cb st t)):=by
 have hlt:=h.core.lt;have c6:=h.core.c6;rw [D] at c6;have c4:=h.core.c4;have ac:=h.cn;obtain ⟨ao,cap,rfl⟩:=h.shape;have O:cb st t = .bad 2:=by unfold cb; rw [D,if_neg (by simp),if_neg U,if_pos Z]
 rw [O];have aa : ¬ (64:Int)≤(st.stack.length:Int):=by omega
 have I:decide (st.count+1≤4096)=false:=by rw [decide_eq_false_iff_not]; omega
 have A:=fun o=>h.core.below ((Below.refl _ w).alloc (Nat.le_refl _) o);have J:=zH fun o=>ls (w.alloc o) B st.count (A o).c5 ((A o).f 5) (by omega);rw [I] at J;clear h A;unfold fA;go_enter Tryz.func124,Tryz.ntmps124
 go_wp2_with fail
 refine (J.out _).mono ?_
 rintro e w' ⟨rfl,rfl⟩;go_wp2
 go_ret
 exact ⟨rfl,(ab _ _ _ _).trans (World.grownBy_alloc _ _ _),(bf (Below.refl B w) B _ _ (Nat.le_refl _)).alloc (by simp; omega) _⟩
end Go.Proofs.YtominiaohfjobaaGreatDoor
namespace Go.Proofs.YtominiaohfjobaaGreatDoor
open Go Go.RowKit
variable {lo:Nat}
theorem cD.below {NT:TypeId} {B:Nat} {X:Nat→Prop} {w w':World} {st:List Fr} {r:Option Tr} {ps:List (Nat × Nat)} (h:cD NT B X w st r ps) (A:Below w.heap.size w w') (hB:B<w.heap.size):cD NT B X w' st r ps :=
 h.keep (aK.below A) (fun _ _ h=>h) (fun _ _ h=>h) (fun j _=>A.cell (p:=⟨B,j,none⟩) hB) (fun k _ _ D=>A.block k D.lt)
def AZ (lo:Nat) (W:World) (U:Nat→Prop) (B b o g J:Nat) (f:Fr) (fs:List Fr) (L:List iq) (av:Value) (I:Bs) (ats:List eE) (O ov:Value) (qs:List (Nat × Nat)) (c d t:Value) (A:World):Prop :=
 ∃ D,eD 114 D A b o (f.add (.mk I ats [] [])) (L ++ [((.mk I ats [] []:Tr),O,.slice none 0 0)]) av (.slice (some ⟨g,0,none⟩) (L.length+1) J)∧Up 114 B D A b o fs qs ∧
  bD 114 212 lo A B (f.add (.mk I ats [] [])::fs) none D ov (qs.reverse ++ [(b,o)]) c d t∧bJ 2 gJ D A O ats∧Below B W A∧aK U W A
theorem zh (w:World) (B n:Nat) (f:Fr) (fs:List Fr) (r0:Option Tr) (c:Nat) (tx:Bool) (X:Nat→Prop) (ov:Value) (ps:List (Nat × Nat)) (h:gT lo w B ⟨f::fs,r0,c,tx⟩ n X ov ps) (t:Tk) (av:Value) (p q r:Int) (dl:jO lo B w av t.attrs)
    (hr:r0.isSome=false) (hd : ¬ 64≤(f::fs).length) (hc : ¬ 4096<c+1) (hn:n≤1000000) :
    Calls Tryz.prog 124 #[.pointer (some ⟨B,0,none⟩),fA t av p q r] w (ir lo X w B (n+1) (cb ⟨f::fs,r0,c,tx⟩ t)):=by
 have hlt:=h.core.lt;have c6:=h.core.c6;rw [hr] at c6;have c4:=h.core.c4;have l3:c≤n:=h.cn;obtain ⟨ao,cap,rfl⟩:=h.shape;have hl:cb ⟨f::fs,r0,c,tx⟩ t = .ok ⟨⟨t.name,t.attrs,[]⟩::f::fs,r0,c+1,false⟩:=by simp only [cb]; rw [hr,if_neg (by simp),if_neg hd,if_neg hc]
 rw [hl];simp only [List.length_cons] at hd c4;have l2 : ¬ (64:Int)≤((fs.length+1:Nat):Int):=by omega
 have l1 : ¬ (64:Int)≤(fs.length:Int)+1:=by omega
 have lF:((fs.length+1:Nat):Int)≠0:=by omega
 have d7:decide (c+1≤4096)=true:=by rw [decide_eq_true_iff]; omega
 have b6:=fun o=>h.core.below ((Below.refl _ w).alloc (Nat.le_refl _) o);have gv:=zH b6;have d0:=zH h.core.xB;have hW:=zH h.core.xo;have HO:=zH fun o=>ls (w.alloc o) B c (b6 o).c5 ((b6 o).f 5) (by omega);rw [d7] at HO;have H:=zH h;clear h b6 hl d7;obtain ⟨U,A,hS⟩:=dl.shape;have kr:=zH dl;obtain ⟨N1,dn⟩ : ∃ N1:S,N1=bs t.name:=⟨_,rfl⟩;have ih:=zH dn;unfold fA;rw [← dn];clear dn dl;subst hS;go_enter Tryz.func124,Tryz.ntmps124
 go_wp2_with fail
 refine (HO.out _).mono ?_
 rintro e w' ⟨rfl,rfl⟩;have x0:=(ak.new w [.int .i64 t.kind,.string N1,.slice U t.attrs.length A,.string (bs t.text),.int .i64 p,.int .i64 q,.int .i64 r] 162 _ rfl);have x1:=x0.grownB (ab _ B 5 (.int .i64 (c+1:Nat))) (by omega);have b7:=(gv.out (.cells #[.int .i64 t.kind,.string N1,.slice U t.attrs.length A,.string (bs t.text),.int .i64 p,.int .i64 q,.int .i64 r] 162)).set5 (.int .i64 (c+1:Nat));have ex:Below B w ((w.alloc (.cells #[.int .i64 t.kind,.string N1,.slice U t.attrs.length A,.string (bs t.text),.int .i64 p,.int .i64 q,.int .i64 r] 162)).setCell ⟨B,5,none⟩ (.int .i64 (c+1:Nat))):=bf ((Below.refl B w).alloc (Nat.le_of_lt hlt) _) B _ _ (Nat.le_refl _);have e6:Hid (aK X w ((w.alloc (.cells #[.int .i64 t.kind,.string N1,.slice U t.attrs.length A,.string (bs t.text),.int .i64 p,.int .i64 q,.int .i64 r] 162)).setCell ⟨B,5,none⟩ (.int .i64 (c+1:Nat)))):=(aK.below ((Below.refl _ w).alloc (Nat.le_refl _) _)).trans (aZ _ B 5 _ d0.out);have d6:((w.alloc (.cells #[.int .i64 t.kind,.string N1,.slice U t.attrs.length A,.string (bs t.text),.int .i64 p,.int .i64 q,.int .i64 r] 162)).setCell ⟨B,5,none⟩ (.int .i64 (c+1:Nat))).heap.size=w.heap.size+1:=by simp
 obtain ⟨a0,a1,a2⟩:=ej x1;have e4:=b7.c4;have el:=b7.lt;have al:=x1.lt;have g1:=zH b7;have g6:=zH ex;clear x0 x1 b7 ex c4 c6 HO gv;generalize ((w.alloc (.cells #[.int .i64 t.kind,.string N1,.slice U t.attrs.length A,.string (bs t.text),.int .i64 p,.int .i64 q,.int .i64 r] 162)).setCell ⟨B,5,none⟩ (.int .i64 (c+1:Nat)))=W1 at *;go_wp2_with fail
 refine Calls.world ?_
 intro W2 a9;have ba:bD 114 212 lo W2 B (f::fs) r0 X (.slice ao (f::fs).length cap) ps (.int .i64 (c+1:Nat)) (.bool r0.isSome) (.bool tx):=by rw [a9]; exact g1.out.below ((Below.refl _ _).alloc (Nat.le_refl _) _)
 have xn:ak W2 (w.heap.size+1) [.string N1,.slice U t.attrs.length A,.slice none 0 0,.string ⟨#[]⟩]:=by rw [a9]; exact ak.new W1 _ _ _ d6
 have en:Below B w W2:=by rw [a9]; exact g6.out.alloc (Nat.le_of_lt el) _
 have e5:Hid (aK X w W2):=by show aK X w W2; rw [a9]; exact e6.out.trans (aK.below ((Below.refl _ _).alloc (Nat.le_refl _) _))
 clear a9 e6 g1 g6 a0 a1 a2 e4 el al d6;obtain ⟨b,o,L0,mn,mo,li,lp,-,cm,-⟩:=ba.data;have HT:=zH (jQ (by rw [cm] at ba; exact ba));have eU:=zH xn;have g0:=zH ba;have g5:=zH en;clear xn ba en;refine HT.out.mono ?_
 rintro e w' ⟨rfl,k,rfl⟩;have a5:=g0.out.drewN k;have xn:=eU.out.drewN k;have em:Below B w (W2.drewN k):=aY g5.out k;have h4:Hid (aK X w (W2.drewN k)):=e5.out.trans (aK.below (aY (Below.refl _ _) k));clear e5 g0 eU g5 HT;generalize W2.drewN k=O at *;have g4:=zH em;clear em;obtain ⟨n0,n1,n2,n3⟩:=xx xn;have nl:=xn.lt;obtain ⟨b',o',L,av,dr,bo,qs,hM,a6,inn,up,ed,mc,l5,-,q2,f2⟩:=a5.data
 obtain ⟨rfl,rfl⟩:b=b'∧o=o':=by
  rw [cm] at a6;have:=(List.append_inj' a6 rfl).2
  simpa using this
 subst hM;rw [a6] at a5
 have l6:L.length≤n:=by
  have h1:=H.out.kd f (by simp);rw [← inn.is,List.length_map] at h1; exact h1
 have hO:qs.length=fs.length:=up.len;have hL:=H.out.sn;simp only [List.length_cons] at hL;have l7:((L.length:Int):Int)<(L.length:Int)+1:=by omega
 have l9:(0:Int)≤(L.length:Int):=by omega
 have c9:bJ 2 gJ X O (.slice U t.attrs.length A) t.attrs:=kr.out.x g4.out (fun k hk=>(Nat.lt_or_ge k lo).elim .inr fun hl=>.inl (a5.xlt k hk hl).1);have g7:=zH c9;have m4:=zH a5;have HK:=zH fun (W1:World) (hR:Below O.heap.size O W1)=>@bD.step_kid lo O B f fs X _ _ _ _ b o L av dr bo qs a5 inn up W1 hR;have ga:Hid (∀ k,(Value.slice dr L.length bo).ownBlock=some k→b<k):=fun k hk=>(inn.own.rowOf hk).1;have fv:=zH inn.own;clear cm a6 inn up a5 c9 xn;have b0:=zH ((fv.out.alloc (.cells (fu bq).toArray 114)).drew);have c8:Hid (b<((O.alloc (.cells (fu bq).toArray 114)).drew).heap.size):=by show _<_; simp; omega
 have b4:Hid (Below O.heap.size O ((O.alloc (.cells (fu bq).toArray 114)).drew)):=aY ((Below.refl _ O).alloc (Nat.le_refl _) _) 1;have fz:Hid (∀ j u,(fu bq)[j]? = some u→((O.alloc (.cells (fu bq).toArray 114)).drew).cell? ⟨O.heap.size,j,none⟩=some u):=fun j u hu=>(ak.new O (fu bq) 114 _ rfl).cell j u hu;have d9:Hid (b+1≤((O.alloc (.cells (fu bq).toArray 114)).drew).heap.size):=by show _≤_; simp; omega
 have bg:Hid (((O.alloc (.cells (fu bq).toArray 114)).drew).heap.size=O.heap.size+1):=by show _=_; simp
 have cT:Hid ((L.length+1)*80≤140737488355328):=by show _≤_; omega
 have e8:=zH (((b4.out.cell (p:=⟨b,o+2,none⟩) ed).trans q2));have gc:=zH (((b4.out.frozen (p:=⟨b,o+2,none⟩) ed).trans f2));go_wp2
 go_cut [60] from 53 (fun v wx=>∃ g aa,v = .slice (some ⟨g,0,none⟩) (L.length+1) aa∧AZ lo O X B b o g aa f fs L av t.name t.attrs (.slice U t.attrs.length A) (.slice ao (f::fs).length cap) qs (.int .i64 (c+1:Nat)) (.bool (none:Option Tr).isSome) (.bool tx) wx)
 case first =>
  rename_i J K' hJ hK
  go_region_law (first | (refine aW rfl (.tmp 56) (.tmp 59) 112 rfl (b+1) 114 Tryz.underlying112 lX rfl (by decide) bY (.slice dr L.length bo) L (by simp [Act.eval,Act.put]) b0.out O.heap.size bq (by simp [Act.eval,Act.put]) fz.out kO cT.out (by decide) d9.out (O.heap.size+1) bg.out ?_; intro g8 aa w8 I ad dk k8; obtain ⟨x1,x2,x3,x4,x5,x6,x7⟩:=pT c8.out e8.out gc.out ga.out I ad; obtain ⟨y0,z0,t0⟩:=I.nodeCells 0 (by decide); obtain ⟨y1,z1,t1⟩:=I.nodeCells 1 (by decide); obtain ⟨y2,z2,t2⟩:=I.nodeCells 2 (by decide); obtain ⟨y3,z3,t3⟩:=I.nodeCells 3 (by decide); rw [Nat.add_zero] at y0 t0; have b2:=zH I; have a4:=zH ad; have b5:=zH dk; clear I ad dk))
  all_goals
   obtain ⟨X',r1,r2,r3,r4,r5,r6⟩:=HK.out _ b4.out b2.out a4.out (by rw [bg.out]; exact b5.out) t.name t.attrs [] (.slice U t.attrs.length A) g7.out;have r7:=g7.out.keep r5 r4;rw [← ih.out] at r1 r2 r3 r5 r6 r7;have hI : ∀ (W:World) (j:Nat) (u v:Value),(W.setCell ⟨b,o+2,none⟩ u).setCell ⟨g8,j,none⟩ v=(W.setCell ⟨g8,j,none⟩ v).setCell ⟨b,o+2,none⟩ u:=fun W j u v=>kZ W _ _ _ _ x4;try simp only [hI]
   first | refine hK _ _ (Met.intro (hJ _ _ ?_)) | refine Met.intro (hJ _ _ ?_)
   (repeat apply Exists.intro)
   exact ⟨⟨g8,aa,rfl,X',r1,r2,r3,r7,r6,r5⟩,rfl⟩
 case rest =>
  obtain ⟨g,aa,rfl,X',inn,up,ag,d4,ei,eg⟩:=hcut;have hZ:Hid (aK X w wc):=h4.out.trans eg;clear eg;have c4:=ag.c4;have hi:=ag.lt;have q2:=inn.cells 2 _ rfl;have la:b<wc.heap.size:=ag.xsize b inn.xb;obtain ⟨-,-,cf,-,b3,lV⟩:=inn.own.row;have l0:=cf.lt;have lx:IntKind.i64.wrap (L.length:Int)=(L.length:Int):=IntWalk.i64_in _ (by omega);have h5:=zH (cD.push inn up d4);have m3:=zH ag;have kn:=zH ei;have kE:L.length+1≤aa:=by simpa using b3
  simp only [List.length_cons] at c4;have bv:Below wc.heap.size wc ((wc.alloc (.cells #[.pointer (some ⟨g,L.length*4,none⟩)] 212)).drew):=aY ((Below.refl _ wc).alloc (Nat.le_refl _) _) 1;have Z:=zH (ag.below bv);have h6:=zH (h5.out.below bv ag.lt);have eV:=zH bv;have h9:Hid (((wc.alloc (.cells #[.pointer (some ⟨g,L.length*4,none⟩)] 212)).drew).cell? ⟨wc.heap.size,0,none⟩=some (.pointer (some ⟨g,L.length*4,none⟩))):=(ak.new wc [.pointer (some ⟨g,L.length*4,none⟩)] 212 _ rfl).cell 0 _ rfl;have h8:Hid ((qs.reverse ++ [(b,o)]).length≤1000000):=by show _≤_; simp; omega
  have e9:Hid ((qs.reverse ++ [(b,o)]).length=fs.length+1):=by show _=_; simp [hO]
  have kb:Hid (B+1≤((wc.alloc (.cells #[.pointer (some ⟨g,L.length*4,none⟩)] 212)).drew).heap.size):=by show _≤_; simp; omega
  have e7:Hid (((wc.alloc (.cells #[.pointer (some ⟨g,L.length*4,none⟩)] 212)).drew).heap.size=wc.heap.size+1):=by show _=_; simp
  have ko:Hid (∀ D:World,((wc.alloc (.cells #[.pointer (some ⟨g,L.length*4,none⟩)] 212)).drew).grownBy D (Value.slice ao (f::fs).length cap).ownBlock→D.cell? ⟨B,4,none⟩=some (.slice ao (fs.length+1) cap)∧D.frozen? ⟨B,4,none⟩=false∧B<D.heap.size):=by
   intro D hg;have ef:D.heap[B]? = ((wc.alloc (.cells #[.pointer (some ⟨g,L.length*4,none⟩)] 212)).drew).heap[B]?:=hg.block B Z.out.lt (fun e=>by have:=(Z.out.opn.rowOf e.symm).1; omega);exact ⟨(World.cell?_of_block (by exact ef)).trans Z.out.c4,(World.frozen?_of_block (by exact ef)).trans (Z.out.f 4),Nat.lt_of_lt_of_le Z.out.lt hg.size⟩
  have km:Hid (∀ D:World,((wc.alloc (.cells #[.pointer (some ⟨g,L.length*4,none⟩)] 212)).drew).grownBy D (Value.slice ao (f::fs).length cap).ownBlock→Below B w D):=by
   intro D hg;have h1:Below B w ((wc.alloc (.cells #[.pointer (some ⟨g,L.length*4,none⟩)] 212)).drew):=(g4.out.trans kn.out).trans (eV.out.mono (Nat.le_of_lt hi));exact ⟨hg.os.trans h1.os,hg.tape.trans h1.tape,hg.output.trans h1.output,Nat.le_trans h1.size hg.size,fun k hk=>(hg.block k (Nat.lt_trans hk Z.out.lt) (fun e=>by have:=(Z.out.opn.rowOf e.symm).1; omega)).trans (h1.block k hk)⟩
  have hY:Hid (∀ D:World,((wc.alloc (.cells #[.pointer (some ⟨g,L.length*4,none⟩)] 212)).drew).grownBy D (Value.slice ao (f::fs).length cap).ownBlock→aK X w D):=fun D hg=>hZ.out.trans ((aK.below eV.out).trans (aK.grown hg hW.out));clear inn up ag d4 ei cf b3 bv ga fv HK fz b0 c8 b4 d9 bg cT e8 gc n0 n1 n2 n3 nl;go_wp2
  go_region_law (first | (refine gX rfl (.tmp 68) (.tmp 80) rfl (.slice ao (f::fs).length cap) (qs.reverse ++ [(b,o)]) (by simp [Act.eval]) Z.out.opn wc.heap.size (g,L.length*4) (by simp [Act.eval]) h9.out h8.out kb.out (wc.heap.size+1) e7.out ?_; intro g9 bl D a7 ac dg; obtain ⟨z1,z2,z3⟩:=ko.out D ac; rw [e9.out] at a7; have b2:=zH a7; have a4:=zH ac; have b5:=zH dg; rw [e9.out]; clear a7 ac dg))
  all_goals
   have hp:=bD.point ju Z.out h6.out b2.out a4.out (b5.out.imp (fun e=>e.symm) (fun e k hk=>by cases hk; rw [e7.out]; exact e));have d8:=km.out D a4.out;have d5:=hY.out D a4.out;have b9:=d5.trans (aZ D B 4 (.slice (some ⟨g9,0,none⟩) (fs.length+1+1) bl) d0.out);have co:=bf d8 B 4 (.slice (some ⟨g9,0,none⟩) (fs.length+1+1) bl) (Nat.le_refl _);clear z1 z2 z3 b2 a4 b5 d8 d5;generalize D.setCell ⟨B,4,none⟩ (.slice (some ⟨g9,0,none⟩) (fs.length+1+1) bl)=ms at *;have c7:=hp.c7;have f7:=hp.f 7;have k6:=hp.lt;have hs:=zH hp;have ka:=zH co;have hX:=zH b9;clear hp co b9;go_wp2
   go_ret
   refine ⟨⟨rfl,⟨_,_,_,hs.out.set7 (.bool false),by simp,fun f' hf'=>?_,?_,?_⟩,bf ka.out B 7 _ (Nat.le_refl _)⟩,hX.out.trans (aZ _ B 7 _ d0.out)⟩
   · rcases List.mem_cons.1 hf' with rfl | hf'
     · simp
     · have:=H.out.kd f' hf'; omega
   · show c+1≤n+1
     omega
   · simp only [List.length_cons]; omega
end Go.Proofs.YtominiaohfjobaaGreatDoor
namespace Go.Proofs.YtominiaohfjobaaGreatDoor
open Go Go.RowKit
variable {lo:Nat}
theorem uv (w:World) (B n:Nat) (r0:Option Tr) (c:Nat) (tx:Bool) (X:Nat→Prop) (ov:Value) (ps:List (Nat × Nat)) (h:gT lo w B ⟨[],r0,c,tx⟩ n X ov ps) (t:Tk) (av:Value) (p q r:Int) (bl:jO lo B w av t.attrs)
    (hr:r0.isSome=false) (hc : ¬ 4096<c+1) :
    Calls Tryz.prog 124 #[.pointer (some ⟨B,0,none⟩),fA t av p q r] w (ir lo X w B (n+1) (cb ⟨[],r0,c,tx⟩ t)):=by
 have hlt:=h.core.lt;have c6:=h.core.c6;rw [hr] at c6;have c4:=h.core.c4;have ht:c≤n:=h.cn;obtain ⟨ao,cap,rfl⟩:=h.shape;obtain rfl:r0=none:=by cases r0 with | none=>rfl | some x=>simp at hr
 have d8:ps=[]:=List.eq_nil_of_length_eq_zero h.core.len;subst d8;have hl:cb ⟨[],none,c,tx⟩ t = .ok ⟨⟨t.name,t.attrs,[]⟩::[],none,c+1,false⟩:=by simp only [cb]; rw [if_neg (by simp),if_neg (by simp),if_neg hc]
 rw [hl];simp only [List.length_nil] at c4;have cf:decide (c+1≤4096)=true:=by rw [decide_eq_true_iff]; omega
 have a7:=fun o=>h.core.below ((Below.refl _ w).alloc (Nat.le_refl _) o);have dr:=zH a7;have O:=zH h.core.xB;have em:=zH h.core.xo;have HO:=zH fun o=>ls (w.alloc o) B c (a7 o).c5 ((a7 o).f 5) (by omega);rw [cf] at HO;have H:=zH h;clear h a7 hl cf;obtain ⟨aa,I,d9⟩:=bl.shape;have gv:=zH bl;obtain ⟨N1,bo⟩ : ∃ N1:S,N1=bs t.name:=⟨_,rfl⟩;have e8:=zH bo;unfold fA;rw [← bo];clear bo bl;subst d9;go_enter Tryz.func124,Tryz.ntmps124
 go_wp2_with fail
 refine (HO.out _).mono ?_
 rintro e w' ⟨rfl,rfl⟩;have x0:=(ak.new w [.int .i64 t.kind,.string N1,.slice aa t.attrs.length I,.string (bs t.text),.int .i64 p,.int .i64 q,.int .i64 r] 162 _ rfl);have x1:=x0.grownB (ab _ B 5 (.int .i64 (c+1:Nat))) (by omega);have a8:=(dr.out (.cells #[.int .i64 t.kind,.string N1,.slice aa t.attrs.length I,.string (bs t.text),.int .i64 p,.int .i64 q,.int .i64 r] 162)).set5 (.int .i64 (c+1:Nat));have c9:Below B w ((w.alloc (.cells #[.int .i64 t.kind,.string N1,.slice aa t.attrs.length I,.string (bs t.text),.int .i64 p,.int .i64 q,.int .i64 r] 162)).setCell ⟨B,5,none⟩ (.int .i64 (c+1:Nat))):=bf ((Below.refl B w).alloc (Nat.le_of_lt hlt) _) B _ _ (Nat.le_refl _);have dk:Hid (aK X w ((w.alloc (.cells #[.int .i64 t.kind,.string N1,.slice aa t.attrs.length I,.string (bs t.text),.int .i64 p,.int .i64 q,.int .i64 r] 162)).setCell ⟨B,5,none⟩ (.int .i64 (c+1:Nat)))):=(aK.below ((Below.refl _ w).alloc (Nat.le_refl _) _)).trans (aZ _ B 5 _ O.out);have d6:((w.alloc (.cells #[.int .i64 t.kind,.string N1,.slice aa t.attrs.length I,.string (bs t.text),.int .i64 p,.int .i64 q,.int .i64 r] 162)).setCell ⟨B,5,none⟩ (.int .i64 (c+1:Nat))).heap.size=w.heap.size+1:=by simp
 obtain ⟨a0,a1,a2⟩:=ej x1;have e4:=a8.c4;have el:=a8.lt;have al:=x1.lt;have a9:=zH a8;have bv:=zH c9;clear x0 x1 a8 c9 c4 c6 HO dr;generalize ((w.alloc (.cells #[.int .i64 t.kind,.string N1,.slice aa t.attrs.length I,.string (bs t.text),.int .i64 p,.int .i64 q,.int .i64 r] 162)).setCell ⟨B,5,none⟩ (.int .i64 (c+1:Nat)))=W1 at *;obtain ⟨u0,u1,u2,u3,Z⟩:=a9.out.box;obtain ⟨b0,b1,b2,b3⟩:=xx Z;have ei:=Z.free 0;have eg:=Z.free 1;have ef:=Z.free 2;have ed:=Z.free 3;clear Z;go_wp2
 refine ai fun wc ad=>?_
 have b6:=gv.out.x bv.out (fun k hk=>(Nat.lt_or_ge k lo).elim .inr fun hl=>.inl (a9.out.xlt k hk hl).1);obtain ⟨h5,h6⟩:=a9.out.rootCells (n:=t.name) b6;rw [← e8.out] at h5 h6;have ag:bD 114 212 lo wc B [] none X (.slice ao 0 cap) [] (.int .i64 (c+1:Nat)) (.bool (none:Option Tr).isSome) (.bool tx):=by rw [ad]; exact h5.below ((Below.refl _ _).alloc (Nat.le_refl _) _)
 have b8:cD 114 B X wc [⟨t.name,t.attrs,[]⟩] none ([] ++ [(B,0)]):=by rw [ad]; exact h6.below ((Below.refl _ _).alloc (Nat.le_refl _) _) h5.lt
 have c8:Below B w wc:=by rw [ad]; exact (bf (bf (bf (bf bv.out B 0 _ (Nat.le_refl _)) B 1 _ (Nat.le_refl _)) B 2 _ (Nat.le_refl _)) B 3 _ (Nat.le_refl _)).alloc (by simp; omega) _
 have eU:Hid (aK X w wc):=by show aK X w wc; rw [ad]; exact dk.out.trans (((((aZ _ B 0 _ O.out).trans (aZ _ B 1 _ O.out)).trans (aZ _ B 2 _ O.out)).trans (aZ _ B 3 _ O.out)).trans (aK.below ((Below.refl _ _).alloc (Nat.le_refl _) _)))
 clear ad dk h5 h6 b6 b0 b1 b2 b3 ei eg ef ed a0 a1 a2 e4 el al d6;have c4:=ag.c4;have d0:=ag.lt;have eV:=zH b8;have ga:=zH c8;have a5:Below wc.heap.size wc ((wc.alloc (.cells #[.pointer (some ⟨B,0,none⟩)] 212)).drew):=aY ((Below.refl _ wc).alloc (Nat.le_refl _) _) 1;have D:=zH (ag.below a5);have e5:=zH (eV.out.below a5 ag.lt);have dg:=zH a5;have e7:Hid (((wc.alloc (.cells #[.pointer (some ⟨B,0,none⟩)] 212)).drew).cell? ⟨wc.heap.size,0,none⟩=some (.pointer (some ⟨B,0,none⟩))):=(ak.new wc [.pointer (some ⟨B,0,none⟩)] 212 _ rfl).cell 0 _ rfl;have e6:Hid (([]:List (Nat × Nat)).length≤1000000):=by show _≤_; simp
 have dn:Hid (([]:List (Nat × Nat)).length=0):=by show _=_; simp
 have fv:Hid (B+1≤((wc.alloc (.cells #[.pointer (some ⟨B,0,none⟩)] 212)).drew).heap.size):=by show _≤_; simp; omega
 have dl:Hid (((wc.alloc (.cells #[.pointer (some ⟨B,0,none⟩)] 212)).drew).heap.size=wc.heap.size+1):=by show _=_; simp
 have gc:Hid (∀ A:World,((wc.alloc (.cells #[.pointer (some ⟨B,0,none⟩)] 212)).drew).grownBy A (Value.slice ao 0 cap).ownBlock→A.cell? ⟨B,4,none⟩=some (.slice ao 0 cap)∧A.frozen? ⟨B,4,none⟩=false∧B<A.heap.size):=by
  intro A U;have co:A.heap[B]? = ((wc.alloc (.cells #[.pointer (some ⟨B,0,none⟩)] 212)).drew).heap[B]?:=U.block B D.out.lt (fun e=>by have:=(D.out.opn.rowOf e.symm).1; omega);exact ⟨(World.cell?_of_block (by exact co)).trans D.out.c4,(World.frozen?_of_block (by exact co)).trans (D.out.f 4),Nat.lt_of_lt_of_le D.out.lt U.size⟩
 have fz:Hid (∀ A:World,((wc.alloc (.cells #[.pointer (some ⟨B,0,none⟩)] 212)).drew).grownBy A (Value.slice ao 0 cap).ownBlock→Below B w A):=by
  intro A U;have h1:Below B w ((wc.alloc (.cells #[.pointer (some ⟨B,0,none⟩)] 212)).drew):=ga.out.trans (dg.out.mono (Nat.le_of_lt d0));exact ⟨U.os.trans h1.os,U.tape.trans h1.tape,U.output.trans h1.output,Nat.le_trans h1.size U.size,fun k hk=>(U.block k (Nat.lt_trans hk D.out.lt) (fun e=>by have:=(D.out.opn.rowOf e.symm).1; omega)).trans (h1.block k hk)⟩
 have ex:Hid (∀ A:World,((wc.alloc (.cells #[.pointer (some ⟨B,0,none⟩)] 212)).drew).grownBy A (Value.slice ao 0 cap).ownBlock→aK X w A):=fun A U=>eU.out.trans ((aK.below dg.out).trans (aK.grown U em.out));clear ag b8 c8 a5 a9 bv;go_wp2
 go_region_law (first | (refine gX rfl (.tmp 43) (.tmp 47) rfl (.slice ao 0 cap) ([]:List (Nat × Nat)) (by simp [Act.eval]) D.out.opn wc.heap.size (B,0) (by simp [Act.eval]) e7.out e6.out fv.out (wc.heap.size+1) dl.out ?_; intro g9 a4 A ac J bg; obtain ⟨z1,z2,z3⟩:=gc.out A J; rw [dn.out] at ac; have b9:=zH ac; have a6:=zH J; have cT:=zH bg; rw [dn.out]; clear ac J bg))
 all_goals
  have hp:=bD.point ju D.out e5.out b9.out a6.out (cT.out.imp (fun e=>e.symm) (fun e k hk=>by cases hk; rw [dl.out]; exact e));have cm:=fz.out A a6.out;have b7:=ex.out A a6.out;have bb:=b7.trans (aZ A B 4 (.slice (some ⟨g9,0,none⟩) (0+1) a4) O.out);have bc:=bf cm B 4 (.slice (some ⟨g9,0,none⟩) (0+1) a4) (Nat.le_refl _);clear z1 z2 z3 b9 a6 cT cm b7;generalize A.setCell ⟨B,4,none⟩ (.slice (some ⟨g9,0,none⟩) (0+1) a4)=hu at *;have c7:=hp.c7;have f7:=hp.f 7;have g5:=hp.lt;have d4:=zH hp;have e9:=zH bc;have en:=zH bb;clear hp bc bb;go_wp2
  go_ret
  refine ⟨⟨rfl,⟨_,_,_,d4.out.set7 (.bool false),by simp,fun f' hf'=>?_,?_,?_⟩,bf e9.out B 7 _ (Nat.le_refl _)⟩,en.out.trans (aZ _ B 7 _ O.out)⟩
  · rcases List.mem_cons.1 hf' with rfl | hf'
    · simp
    · have:=H.out.kd f' hf'; omega
  · show c+1≤n+1
    omega
  · simp
end Go.Proofs.YtominiaohfjobaaGreatDoor
namespace Go.Proofs.YtominiaohfjobaaGreatDoor
open Go Go.RowKit
variable {lo:Nat}
theorem fJ (a b:Bs):((bs a:S).toList == (bs b:S).toList)=decide (a=b):=by
 rw [ByteArray.toList_eq,ByteArray.toList_eq,cH,cH,Bool.eq_iff_iff,beq_iff_eq,decide_eq_true_iff]
theorem qt (w:World) (B n:Nat) (st:lM) (X:Nat→Prop) (ov:Value) (ps:List (Nat × Nat)) (h:gT lo w B st n X ov ps) (t:Tk) (av:Value) (p q r:Int) (D:jO lo B w av t.attrs) (hn:n≤1000000) :
    Calls Tryz.prog 124 #[.pointer (some ⟨B,0,none⟩),fA t av p q r] w (ir lo X w B (n+1) (cb st t)):=by
 cases A:st.root.isSome with
 | true=>exact ux w B n st X ov ps h t av p q r A
 | false =>
  by_cases I:64≤st.stack.length
  · exact uy w B n st X ov ps h t av p q r A I
  · by_cases J:4096<st.count+1
    · exact uw w B n st X ov ps h t av p q r A I J hn
    · obtain ⟨stack,O,c,tx⟩:=st
      cases stack with
      | nil=>exact uv w B n O c tx X ov ps h t av p q r D A J
      | cons f fs=>exact zh w B n f fs O c tx X ov ps h t av p q r D A I J hn
theorem cA.back {w W:World} {B n:Nat} {R:zx} {e:Ending} {w':World} (D:w.grownBy W (some B)) (A:Below B w W) (h:cA lo W B n R e w'):cA lo w B n R e w':=by
 cases R with
 | ok st=>exact ⟨h.1,h.2.1,A.trans h.2.2⟩
 | bad x=>exact ⟨h.1,D.trans h.2.1,A.trans h.2.2⟩
theorem gT.close {w w':World} {B n:Nat} {f:Fr} {fs:List Fr} {r:Option Tr} {c:Nat} {tx:Bool} {X O:Nat→Prop} {ov D:Value} {ps A:List (Nat × Nat)} (h:gT lo w B ⟨f::fs,r,c,tx⟩ n X ov ps)
    (J:bD 114 212 lo w' B (cp f fs none 0).stack (cp f fs none 0).root O D A (.int .i64 c) (.bool (cp f fs none 0).root.isSome) (.bool false)):gT lo w' B (cp f fs r c) (n+1) O D A:=by
 obtain ⟨b,o,L,av,ao,cap,qs,rfl,-⟩:=h.core.data;have Z:c≤n:=h.cn;have I:=h.sn;simp only [List.length_cons] at I;cases fs with
 | nil=>exact ⟨J,by simp [cp],by simp [cp],by simp only [cp]; omega,by simp [cp]⟩
 | cons g fs =>
  refine ⟨J,by simp [cp],fun U hf'=>?_,by simp only [cp]; omega,?_⟩
  · simp only [cp] at hf'
    rcases List.mem_cons.1 hf' with rfl | hf'
    · have:=h.kd g (by simp)
      simp [Fr.add]; omega
    · have:=h.kd U (by simp [hf']); omega
  · simp only [cp,List.length_cons] at I ⊢; omega
theorem vm {w:World} {B n:Nat} {f:Fr} {fs:List Fr} {r:Option Tr} {c:Nat} {tx:Bool} {X:Nat→Prop} {ov:Value} {ps:List (Nat × Nat)} (h:gT lo w B ⟨f::fs,r,c,tx⟩ n X ov ps) :
    Calls Tryz.prog 125 #[.pointer (some ⟨B,0,none⟩)] w fun e w'=>e = .returned (.tuple #[])∧(∃ I D A,gT lo w' B (cp f fs r c) (n+1) I D A)∧Below B w w':=by
 have O:=h.core;obtain ⟨b,o,L,av,ao,cap,qs,J,-⟩:=h.core.data;simp only at J;subst J;refine (AB O).mono ?_
 rintro e w' ⟨rfl,I,D,A,h1,h2⟩;exact ⟨rfl,⟨I,D,A,h.close h1⟩,h2⟩
theorem kK {st:lM} {t:Tk} {x:Int} (h:cb st t = .bad x):x=16∨x=2:=by
 unfold cb at h;split at h
 · cases h; exact .inl rfl
 · split at h
   · cases h; exact .inr rfl
   · split at h
     · cases h; exact .inr rfl
     · cases h
theorem qu {st A:lM} {t:Tk} (h:cb st t = .ok A):A=⟨⟨t.name,t.attrs,[]⟩::st.stack,st.root,st.count+1,false⟩:=by
 unfold cb at h;split at h
 · cases h
 · split at h
   · cases h
   · split at h
     · cases h
     · cases h; rfl
theorem tw (w:World) (B n:Nat) (st:lM) (X:Nat→Prop) (ov:Value) (ps:List (Nat × Nat)) (h:gT lo w B st n X ov ps) (O:Bs) (ats:List eE) (tx:Bs) (av:Value) (p q r:Int) (J:jO lo B w av ats) (Z:tx.length≤2000000) (hn:n≤1000000) :
    Calls Tryz.prog 83 #[.pointer (some ⟨B,0,none⟩),fA ⟨4,O,ats,tx⟩ av p q r] w (cA lo w B (n+1) (dQ st ⟨4,O,ats,tx⟩)):=by
 have U:dQ st ⟨4,O,ats,tx⟩=bU st tx:=by unfold dQ; rw [if_pos rfl]
 rw [U];have hlt:=h.core.lt;obtain ⟨ag,aa,rfl⟩:=J.shape;have HL:=zH fun o=>qQ (w.alloc o) B n st X ov ps tx (h.below ((Below.refl _ w).alloc (Nat.le_refl _) o)) Z hn;clear h J U;unfold fA;go_enter Tryz.func83,Tryz.ntmps83
 go_wp2_with fail
 refine (HL.out _).mono ?_
 intro e w1 A;replace A:=cA.back (World.grownBy_alloc _ _ _) ((Below.refl B w).alloc (Nat.le_of_lt hlt) _) A;have I:=zH A;cases D:bU st tx with
 | ok ad =>
  rw [D] at A I;obtain ⟨rfl,-⟩:=A;go_wp2
  go_ret
  rw [D];exact I.out
 | bad x =>
  rw [D] at A I;obtain ⟨rfl,-⟩:=A;go_wp2
  go_ret
  rw [D];exact I.out
theorem mm (w:World) (B n:Nat) (st:lM) (X:Nat→Prop) (ov:Value) (ps:List (Nat × Nat)) (h:gT lo w B st n X ov ps) (k:Int) (hk:k=5∨k=6) (D:Bs) (ats:List eE) (tx:Bs) (av:Value) (p q r:Int) (A:jO lo B w av ats) :
    Calls Tryz.prog 83 #[.pointer (some ⟨B,0,none⟩),fA ⟨k,D,ats,tx⟩ av p q r] w (cA lo w B (n+1) (dQ st ⟨k,D,ats,tx⟩)):=by
 have I:dQ st ⟨k,D,ats,tx⟩ = .ok st:=by
  unfold dQ;rcases hk with rfl | rfl <;> rfl
 rw [I];have hlt:=h.core.lt;obtain ⟨U,J,rfl⟩:=A.shape;have O:=zH fun o=>(h.below ((Below.refl _ w).alloc (Nat.le_refl _) o)).mono (Nat.le_succ n);clear h A I;unfold fA;rcases hk with rfl | rfl
 all_goals
  go_enter Tryz.func83,Tryz.ntmps83
  go_wp2
  go_ret
  exact ⟨rfl,⟨X,ov,ps,O.out _⟩,(Below.refl B w).alloc (Nat.le_of_lt hlt) _⟩
theorem tz (w:World) (B n:Nat) (st:lM) (X:Nat→Prop) (ov:Value) (ps:List (Nat × Nat)) (h:gT lo w B st n X ov ps) (A:Bs) (ats:List eE) (tx:Bs) (av:Value) (p q r:Int) (I:jO lo B w av ats) (hn:n≤1000000) :
    Calls Tryz.prog 83 #[.pointer (some ⟨B,0,none⟩),fA ⟨1,A,ats,tx⟩ av p q r] w (cA lo w B (n+1) (dQ st ⟨1,A,ats,tx⟩)):=by
 have hl:dQ st ⟨1,A,ats,tx⟩=cb st ⟨1,A,ats,tx⟩:=by
  unfold dQ;rw [if_neg (by show ¬ (1:Int)=4; decide)];exact if_pos rfl
 rw [hl];have hlt:=h.core.lt;have aa : ¬ X w.heap.size:=fun e=>by have:=h.core.xsize _ e; omega
 obtain ⟨O,D,rfl⟩:=I.shape;have HL:=zH fun o=>qt (w.alloc o) B n st X ov ps (h.below ((Below.refl _ w).alloc (Nat.le_refl _) o)) ⟨1,A,ats,tx⟩ (.slice O ats.length D) p q r (I.below ((Below.refl B w).alloc (Nat.le_of_lt hlt) o)) hn;have ag : ∀ x,cb st ⟨1,A,ats,tx⟩ = .bad x→(x == 0)=false:=fun x hx=>by rcases kK hx with rfl | rfl <;> rfl
 have a5:=zH aa;clear h I hl aa;unfold fA at HL ⊢;go_enter Tryz.func83,Tryz.ntmps83
 go_wp2_with fail
 refine (HL.out _).mono ?_
 intro e w1 Z;have x0:=ak.new w [.int .i64 1,.string (bs A),.slice O ats.length D,.string (bs tx),.int .i64 p,.int .i64 q,.int .i64 r] 162 _ rfl;have HX:=zH x0;have ad:Hid (Below B w (w.alloc (.cells #[.int .i64 1,.string (bs A),.slice O ats.length D,.string (bs tx),.int .i64 p,.int .i64 q,.int .i64 r] 162))):=(Below.refl B w).alloc (Nat.le_of_lt hlt) _;clear x0;cases J:cb st ⟨1,A,ats,tx⟩ with
 | ok bb =>
  rw [J] at Z;obtain ⟨⟨rfl,⟨X',a0,al,ac⟩,U⟩,hk⟩:=Z;have k0:=(hk.cell w.heap.size 0 HX.out.lt a5.out).trans (HX.out.cell 0 _ rfl);have kl:=Nat.lt_of_lt_of_le HX.out.lt hk.size;have a8:=zH (ad.out.trans U);have a7:=zH ac;clear U hk ac;go_wp2
  go_ret
  rw [J];exact ⟨rfl,⟨X',a0,al,a7.out⟩,a8.out⟩
 | bad x =>
  have hx:=ag x J;rw [J] at Z;obtain ⟨rfl,hg,U⟩:=Z;go_wp2
  go_ret
  rw [J];exact ⟨rfl,(World.grownBy_alloc _ _ _).trans hg,ad.out.trans U⟩
theorem rL (w:World) (B n:Nat) (st:lM) (X:Nat→Prop) (ov:Value) (ps:List (Nat × Nat)) (h:gT lo w B st n X ov ps) (A:Bs) (ats:List eE) (tx:Bs) (av:Value) (p q r:Int) (J:jO lo B w av ats) (hn:n≤1000000) :
    Calls Tryz.prog 83 #[.pointer (some ⟨B,0,none⟩),fA ⟨2,A,ats,tx⟩ av p q r] w (cA lo w B (n+2) (dQ st ⟨2,A,ats,tx⟩)):=by
 have hl:dQ st ⟨2,A,ats,tx⟩=(cb st ⟨2,A,ats,tx⟩).close:=by
  unfold dQ;rw [if_neg (by show ¬ (2:Int)=4; decide),if_neg (by show ¬ (2:Int)=1; decide)];exact if_pos rfl
 rw [hl];have hlt:=h.core.lt;have aa : ¬ X w.heap.size:=fun e=>by have:=h.core.xsize _ e; omega
 obtain ⟨O,D,rfl⟩:=J.shape;have HL:=zH fun o=>qt (w.alloc o) B n st X ov ps (h.below ((Below.refl _ w).alloc (Nat.le_refl _) o)) ⟨2,A,ats,tx⟩ (.slice O ats.length D) p q r (J.below ((Below.refl B w).alloc (Nat.le_of_lt hlt) o)) hn;have ag : ∀ x,cb st ⟨2,A,ats,tx⟩ = .bad x→(x == 0)=false:=fun x hx=>by rcases kK hx with rfl | rfl <;> rfl
 have a6:=zH aa;clear h J hl aa;unfold fA at HL ⊢;go_enter Tryz.func83,Tryz.ntmps83
 go_wp2_with fail
 refine (HL.out _).mono ?_
 intro e w1 Z;have x0:=ak.new w [.int .i64 2,.string (bs A),.slice O ats.length D,.string (bs tx),.int .i64 p,.int .i64 q,.int .i64 r] 162 _ rfl;have HX:=zH x0;have ad:Hid (Below B w (w.alloc (.cells #[.int .i64 2,.string (bs A),.slice O ats.length D,.string (bs tx),.int .i64 p,.int .i64 q,.int .i64 r] 162))):=(Below.refl B w).alloc (Nat.le_of_lt hlt) _;clear x0;cases I:cb st ⟨2,A,ats,tx⟩ with
 | ok bc =>
  rw [I] at Z;obtain ⟨⟨rfl,⟨X',bl,bg,ac⟩,U⟩,hk⟩:=Z;have k0:=(hk.cell w.heap.size 0 HX.out.lt a6.out).trans (HX.out.cell 0 _ rfl);have kl:=Nat.lt_of_lt_of_le HX.out.lt hk.size;have ba:=zH (ad.out.trans U);have a9:=zH ac;clear U hk ac;have al:=qu I;subst al;have a8:=zH (vm a9.out);go_wp2_with fail
  refine a8.out.mono ?_
  rintro e w2 ⟨rfl,a5,a4⟩;go_wp2
  go_ret
  rw [I];exact ⟨rfl,a5,ba.out.trans a4⟩
 | bad x =>
  have hx:=ag x I;rw [I] at Z;obtain ⟨rfl,hg,U⟩:=Z;go_wp2
  go_ret
  rw [I];exact ⟨rfl,(World.grownBy_alloc _ _ _).trans hg,ad.out.trans U⟩
theorem rM (w:World) (B n:Nat) (st:lM) (X:Nat→Prop) (ov:Value) (ps:List (Nat × Nat)) (h:gT lo w B st n X ov ps) (A:Bs) (ats:List eE) (tx:Bs) (av:Value) (p q r:Int) (aa:jO lo B w av ats) :
    Calls Tryz.prog 83 #[.pointer (some ⟨B,0,none⟩),fA ⟨3,A,ats,tx⟩ av p q r] w (cA lo w B (n+1) (dQ st ⟨3,A,ats,tx⟩)):=by
 have I:dQ st ⟨3,A,ats,tx⟩=ul st ⟨3,A,ats,tx⟩:=by
  unfold dQ;rw [if_neg (by show ¬ (3:Int)=4; decide),if_neg (by show ¬ (3:Int)=1; decide),if_neg (by show ¬ (3:Int)=2; decide)];exact if_pos rfl
 rw [I];have hlt:=h.core.lt;obtain ⟨a7,ac,rfl⟩:=aa.shape;have H:=zH fun o=>h.below ((Below.refl _ w).alloc (Nat.le_refl _) o);obtain ⟨stack,r0,c,a0⟩:=st;obtain ⟨ao,cap,U⟩:=h.shape;have c4:=h.core.c4;rw [U] at c4;cases stack with
 | nil =>
  simp only [List.length_nil] at c4;clear h aa I U;unfold fA;go_enter Tryz.func83,Tryz.ntmps83
  go_wp2
  go_ret
  exact ⟨rfl,World.grownBy_alloc _ _ _,(Below.refl B w).alloc (Nat.le_of_lt hlt) _⟩
 | cons f fs =>
  simp only [List.length_cons] at c4;have b3:((fs.length+1:Nat):Int)≠0:=by omega
  obtain ⟨b,o,L,b5,b6,b0,qs,a5,bc,-,-,a6,-,-,n0,-⟩:=h.core.data;simp only at a5;subst a5 bc;have b4:=h.core.lt;clear h aa I U;unfold fA;go_enter Tryz.func83,Tryz.ntmps83
  go_wp2
  refine ai fun W O=>?_
  have hB:=H.out (.cells #[.int .i64 3,.string (bs A),.slice a7 ats.length ac,.string (bs tx),.int .i64 p,.int .i64 q,.int .i64 r] 162);have a8:Hid (w.grownBy W (some B)):=by show w.grownBy W (some B); rw [O]; exact World.grownBy_alloc _ _ _
  have J:Hid (Below B w W):=by show Below B w W; rw [O]; exact (Below.refl B w).alloc (Nat.le_of_lt hlt) _
  have x0:=ak.new w [.int .i64 3,.string (bs A),.slice a7 ats.length ac,.string (bs tx),.int .i64 p,.int .i64 q,.int .i64 r] 162 _ rfl;have Z:b<W.heap.size:=by rw [O]; simp; omega
  have a4:W.cell? ⟨b,o,none⟩=some (.string (bs f.name)):=by rw [O]; exact ((Below.refl w.heap.size w).alloc (Nat.le_refl _) _ |>.cell (by exact a6)).trans n0
  rw [← O] at hB x0;have k1:=x0.cell 1 _ rfl;have kl:=x0.lt;have HT:=zH fun k=>jQ (hB.drewN k).core;have ad:=zH hB;clear O hB x0 n0 a6 c4;have hE:((bs f.name:S).toList == (bs A:S).toList)=decide (f.name=A):=fJ _ _;by_cases D:f.name=A
  · have I:ul ⟨f::fs,none,c,a0⟩ ⟨3,A,ats,tx⟩ = .ok (cp f fs none c):=by simp only [ul]; rw [if_pos D]
    have HL:=zH I;rw [decide_eq_true D] at hE;clear D I;go_quiet ((go_at_call 126; exact Qt.quiet (HT.out _)))
    have bv:=zH (vm (ad.out.drewN nq));have ag:Hid (Below B w (W.drewN nq)):=aY J.out nq;clear HT hE k1 kl Z a4 ad J;generalize W.drewN nq=W2 at *;go_wp2_with fail
    refine bv.out.mono ?_
    rintro e w2 ⟨rfl,bl,bg⟩;go_wp2
    go_ret
    rw [HL.out];exact ⟨rfl,bl,ag.out.trans bg⟩
  · have I:ul ⟨f::fs,none,c,a0⟩ ⟨3,A,ats,tx⟩ = .bad 14:=by simp only [ul]; rw [if_neg D]
    have HL:=zH I;rw [decide_eq_false D] at hE;clear D I;go_quiet ((go_at_call 126; exact Qt.quiet (HT.out _)))
    have ag:Hid (Below B w (W.drewN nq)):=aY J.out nq;have bo:Hid (w.grownBy (W.drewN nq) (some B)):=a8.out.trans (aX W nq _);clear HT hE k1 kl Z a4 ad J a8;generalize W.drewN nq=W2 at *;go_wp2
    go_ret
    rw [HL.out];exact ⟨rfl,bo.out,ag.out⟩
theorem tB (w:World) (B n:Nat) (st:lM) (X:Nat→Prop) (ov:Value) (ps:List (Nat × Nat)) (h:gT lo w B st n X ov ps) (t:Tk) (av:Value) (p q r:Int) (A:jO lo B w av t.attrs) (hk:t.kind=1∨t.kind=2∨t.kind=3∨t.kind=4∨t.kind=5∨t.kind=6) (O:t.text.length≤2000000) (hn:n≤1000000) :
    Calls Tryz.prog 83 #[.pointer (some ⟨B,0,none⟩),fA t av p q r] w (cA lo w B (n+2) (dQ st t)):=by
 have up : ∀ {R:zx} {e:Ending} {w':World},cA lo w B (n+1) R e w'→cA lo w B (n+2) R e w':=by
  intro R e w' h;cases R with
  | ok Z=>obtain ⟨h1,⟨U,J,I,h2⟩,h3⟩:=h; exact ⟨h1,⟨U,J,I,h2.mono (by omega)⟩,h3⟩
  | bad x=>exact h
 obtain ⟨k,D,ats,tx⟩:=t;simp only at hk O A;rcases hk with rfl | rfl | rfl | rfl | rfl | rfl
 · exact (tz w B n st X ov ps h D ats tx av p q r A hn).mono fun _ _=>up
 · exact rL w B n st X ov ps h D ats tx av p q r A hn
 · exact (rM w B n st X ov ps h D ats tx av p q r A).mono fun _ _=>up
 · exact (tw w B n st X ov ps h D ats tx av p q r A O hn).mono fun _ _=>up
 · exact (mm w B n st X ov ps h 5 (.inl rfl) D ats tx av p q r A).mono fun _ _=>up
 · exact (mm w B n st X ov ps h 6 (.inr rfl) D ats tx av p q r A).mono fun _ _=>up
end Go.Proofs.YtominiaohfjobaaGreatDoor
namespace Go.Proofs.YtominiaohfjobaaGreatDoor
open Go Go.RowKit
theorem kz {til l s r:Bs} (h:plain til l = .ok s r):r.length+til.length≤l.length:=by
 induction l generalizing s with
 | nil =>
  simp only [plain] at h;split at h
  · rename_i h1
    have:=(List.isPrefixOf_iff_prefix.1 h1).length_le
    cases h; simpa using this
  · cases h
 | cons c l A =>
  simp only [plain] at h;split at h
  · rename_i h1
    have:=(List.isPrefixOf_iff_prefix.1 h1).length_le
    cases h; rw [List.length_drop]; omega
  · split at h
    · cases hp:plain til l with
      | bad e r'=>rw [hp] at h; cases h
      | ok D r'=>rw [hp] at h; cases h; have:=A hp; simp only [List.length_cons]; omega
    · cases h
theorem fO {α:Type} {x:cO α} {l:Bs} {a:α} {r:Bs} (A:x.Suf l) (h:x = .ok a r):r <:+ l:=by rw [h] at A; exact A
theorem qO {stop c:UInt8} {l s r:Bs} (h:bA stop (c::l) = .ok s r) (J:c≠stop):r.length≤l.length:=by
 simp only [bA,bu] at h;rw [if_neg J] at h;split at h
 · cases D:bP (c::l) with
   | bad e=>rw [D] at h; cases h
   | ok t n =>
    rw [D] at h;cases A:bu stop (n - 1) l with
    | bad e r'=>simp only [A,cO.map] at h; cases h
    | ok I r'=>simp only [A,cO.map] at h; cases h; exact List.IsSuffix.length_le (fO (gO stop (n - 1) l) A)
 · split at h
   · cases h
   · cases A:bu stop 0 l with
     | bad e r'=>simp only [A,cO.map] at h; cases h
     | ok I r'=>simp only [A,cO.map] at h; cases h; exact List.IsSuffix.length_le (fO (gO stop 0 l) A)
theorem dH {α β:Type} {x:cO α} {f:α→β} {b:β} {r:Bs} (h:x.map f = .ok b r) : ∃ a,x = .ok a r∧b=f a:=by
 cases x with
 | ok a r'=>simp only [cO.map] at h; cases h; exact ⟨a,rfl,rfl⟩
 | bad e r'=>cases h
theorem fK {α β:Type} {x:cO α} {f:α→Bs→cO β} {b:β} {r:Bs} (h:x.bind f = .ok b r) : ∃ a r',x = .ok a r'∧f a r' = .ok b r:=by
 cases x with
 | ok a r'=>exact ⟨a,r',rfl,h⟩
 | bad e r'=>cases h
theorem sT {l:Bs} {t:Tk} {r:Bs} (h:dw l = .ok t r):r.length≤l.length:=List.IsSuffix.length_le (fO (oF l) h)
theorem tU {l:Bs} {t:Tk} {r:Bs} (h:cL l = .ok t r):r.length≤l.length:=List.IsSuffix.length_le (fO (pL l) h)
theorem gw {first:Bool} {l:Bs} {t:Tk} {r:Bs} (h:cF first l = .ok t r) (A:l≠[]):r.length<l.length:=by
 have D:0<l.length:=List.length_pos_iff.2 A;unfold cF at h;split at h
 · obtain ⟨a,h1,-⟩:=dH h
   have:=kz h1
   rw [List.length_drop] at this;simp [mE] at this; omega
 · split at h
   · obtain ⟨a,h1,-⟩:=dH h
     have:=kz h1
     rw [List.length_drop] at this;simp [qj] at this; omega
   · split at h
     · obtain ⟨a,h1,-⟩:=dH h
       have:=kz h1
       rw [List.length_drop] at this;simp [mF] at this; omega
     · split at h
       · have:=sT h; simp only [List.length_cons]; omega
       · have:=tU h; simp only [List.length_cons]; omega
       · rename_i hx hy
         obtain ⟨a,h1,-⟩:=dH h;cases l with
         | nil=>exact absurd rfl A
         | cons c l =>
          have:=qO h1 (fun e=>hy l (by rw [e]))
          simp only [List.length_cons]; omega
def jM (T:Bs) (acc:List (Tk × Bs)) (l:Bs):Prop:=acc.Pairwise (fun a b=>b.2 <:+ a.2∧b.2.length<a.2.length) ∧ ∀ a ∈ acc,l <:+ a.2∧l.length<a.2.length∧a.2 <:+ T
theorem jM.nil (T l:Bs):jM T [] l:=⟨List.Pairwise.nil,by simp⟩
theorem jM.snoc {T:Bs} {acc:List (Tk × Bs)} {l r:Bs} (h:jM T acc l) (I:l <:+ T) (A:r <:+ l) (hlt:r.length<l.length) (t:Tk):jM T (acc ++ [(t,l)]) r:=by
 refine ⟨?_,?_⟩
 · rw [List.pairwise_append]
   refine ⟨h.1,List.pairwise_singleton _ _,fun a ha b D=>?_⟩
   simp at D; subst D;exact ⟨(h.2 a ha).1,(h.2 a ha).2.1⟩
 · intro a ha
   rcases List.mem_append.1 ha with ha | ha
   · obtain ⟨h1,h2,h3⟩:=h.2 a ha
     exact ⟨A.trans h1,by omega,h3⟩
   · simp at ha; subst ha; exact ⟨A,hlt,I⟩
theorem s9 {T:Bs} (f:Nat) (first:Bool) (acc:List (Tk × Bs)) (l:Bs) (O:l <:+ T) (h:jM T acc l) {I:List (Tk × Bs)} {r:Bs} (A:eR f first acc l = .ok I r):jM T I []∧r=[]:=by
 induction f generalizing first acc l with
 | zero =>
  cases l with
  | nil=>simp only [eR] at A; cases A; exact ⟨h,rfl⟩
  | cons c l=>cases A
 | succ f U =>
  cases l with
  | nil=>simp only [eR] at A; cases A; exact ⟨h,rfl⟩
  | cons c l =>
   simp only [eR] at A;cases D:cF first (c::l) with
   | bad e r'=>rw [D] at A; cases A
   | ok t r' =>
    rw [D] at A;have J:=fO (nw first (c::l)) D;exact U false _ r' (J.trans O) (h.snoc O J (gw D (by simp)) t) A
theorem nN {l:Bs} {t:Tk} {r:Bs} (h:cL l = .ok t r):t.kind=1∨t.kind=2:=by
 unfold cL at h;obtain ⟨I,D,-,h⟩:=fK h;obtain ⟨ats,A,-,h⟩:=fK h;split at h
 · obtain ⟨_,-,rfl⟩:=dH h; exact .inr rfl
 · obtain ⟨_,-,rfl⟩:=dH h; exact .inl rfl
theorem sU {l:Bs} {t:Tk} {r:Bs} (h:dw l = .ok t r):t.kind=3:=by
 unfold dw at h;obtain ⟨D,A,-,h⟩:=fK h;obtain ⟨_,-,rfl⟩:=dH h; rfl
def Bp (acc:List (Tk × Bs)):Prop:=∀ p ∈ acc,p.2≠[] ∧ ∃ first r,cF first p.2 = .ok p.1 r
theorem uD (f:Nat) (first:Bool) (acc:List (Tk × Bs)) (l:Bs) (h:Bp acc) {D:List (Tk × Bs)} {r:Bs} (A:eR f first acc l = .ok D r):Bp D∧(∃ more,D=acc ++ more)∧(l≠[] → ∃ t,D[acc.length]? = some (t,l)):=by
 induction f generalizing first acc l with
 | zero =>
  cases l with
  | nil=>simp only [eR] at A; cases A; exact ⟨h,⟨[],by simp⟩,fun h=>absurd rfl h⟩
  | cons c l=>cases A
 | succ f J =>
  cases l with
  | nil=>simp only [eR] at A; cases A; exact ⟨h,⟨[],by simp⟩,fun h=>absurd rfl h⟩
  | cons c l =>
   simp only [eR] at A;cases I:cF first (c::l) with
   | bad e r'=>rw [I] at A; cases A
   | ok t r' =>
    rw [I] at A
    obtain ⟨h1,⟨more,h2⟩,-⟩:=J false _ r' (fun p hp=>by
     rcases List.mem_append.1 hp with hp | hp
     · exact h p hp
     · simp at hp; subst hp; exact ⟨by simp,first,r',I⟩) A
    refine ⟨h1,⟨(t,c::l)::more,by rw [h2]; simp⟩,fun _=>⟨t,by rw [h2]; simp⟩⟩
theorem uC {T:Bs} {acc:List (Tk × Bs)} {r:Bs} (h:jI T = .ok acc r):jM T acc []∧r=[]∧Bp acc∧(T=[]→acc=[])∧(T≠[] → ∃ t,acc[0]? = some (t,T)):=by
 unfold jI at h;obtain ⟨h1,h2⟩:=s9 T.length true [] T (List.suffix_refl _) (jM.nil _ _) h;obtain ⟨h3,-,D⟩:=uD T.length true [] T (by intro p hp; cases hp) h;refine ⟨h1,h2,h3,fun A=>?_,D⟩
 subst A;simp only [List.length_nil,eR] at h;cases h; rfl
def cO.NZ {α:Type}:cO α→Prop
 | .ok _ _=>True
 | .bad e _=>e≠0
theorem cO.NZ.map {α β:Type} {x:cO α} (f:α→β) (h:x.NZ):(x.map f).NZ:=by cases x <;> exact h
theorem cO.NZ.bind {α β:Type} {x:cO α} {f:α→Bs→cO β} (h:x.NZ) (hf : ∀ a r,(f a r).NZ):(x.bind f).NZ:=by
 cases x with
 | ok a r=>exact hf a r
 | bad e r=>exact h
theorem kQ (c:UInt8) (l:Bs):(dd c l).NZ:=by
 cases l with
 | nil=>show (13:Int)≠0; decide
 | cons x l=>simp only [dd]; split; trivial; show (10:Int)≠0; decide
theorem nS {e:Int} (he:e≠0) (l:Bs):(dB e l).NZ:=by
 cases l with
 | nil=>show (13:Int)≠0; decide
 | cons x l=>simp only [dB]; split; exact he; trivial
theorem nG (til l:Bs):(plain til l).NZ:=by
 induction l with
 | nil=>simp only [plain]; split; trivial; show (13:Int)≠0; decide
 | cons c l A =>
  simp only [plain];split
  · trivial
  · split
    · exact A.map _
    · show (10:Int)≠0; decide
theorem vT {s:Bs} {e:Int} (h:bP s = .bad e):e≠0:=by
 have hn : ∀ A a d,cg A a d = .bad e→e≠0:=by
  intro A a d h;unfold cg at h;by_cases h1:8<aI (bE A) d
  · rw [if_pos h1] at h; cases h; decide
  · rw [if_neg h1] at h
    by_cases h2:aI (bE A) d=d.length
    · rw [if_pos h2] at h; cases h; decide
    · rw [if_neg h2] at h
      by_cases h3:aI (bE A) d=0∨d[aI (bE A) d]?≠some 59
      · rw [if_pos h3] at h; cases h; decide
      · rw [if_neg h3] at h
        split at h
        · cases h
        · cases h; decide
 cases s with
 | nil=>cases h; decide
 | cons c r =>
  simp only [bP] at h;by_cases I:c=38
  · rw [if_neg (by simp [I])] at h
    split at h
    · split at h
      · exact hn _ _ _ h
      · exact hn _ _ _ h
    · by_cases D:aI ca r=r.length
      · rw [if_pos D] at h
        split at h <;> (cases h; decide)
      · rw [if_neg D] at h
        split at h
        · split at h
          · cases h
          · cases h; decide
        · cases h; decide
  · rw [if_pos I] at h; cases h; decide
theorem ly (stop:UInt8) (k:Nat) (l:Bs):(bu stop k l).NZ:=by
 induction l generalizing k with
 | nil=>cases k <;> trivial
 | cons c l A =>
  cases k with
  | succ k=>exact A k
  | zero =>
   simp only [bu];split
   · trivial
   · split
     · cases D:bP (c::l) with
       | ok t n=>exact (A _).map _
       | bad e=>exact vT D
     · split
       · show (10:Int)≠0; decide
       · exact (A 0).map _
theorem vE (l:Bs):(eu l).NZ:=by
 cases l with
 | nil=>show (13:Int)≠0; decide
 | cons q l =>
  simp only [eu];split
  · refine cO.NZ.bind (ly q 0 l) fun s r=>?_
    cases r with
    | nil=>show (13:Int)≠0; decide
    | cons x r=>trivial
  · show (10:Int)≠0; decide
theorem zj (acc:List eE) (l:Bs):(ec acc l).NZ:=by
 refine cO.NZ.bind (nS (by decide) l) fun A r=>?_
 split
 · show (15:Int)≠0; decide
 · exact cO.NZ.bind (kQ _ _) fun _ r'=>(vE _).map _
theorem uA (f:Nat) (acc:List eE) (l:Bs):(et f acc l).NZ:=by
 induction f generalizing acc l with
 | zero=>show (13:Int)≠0; decide
 | succ f A =>
  simp only [et];split
  · trivial
  · have:=zj acc (aC l)
    cases h:ec acc (aC l) with
    | ok a r=>exact A _ r
    | bad e r=>rw [h] at this; exact this
theorem vG (first:Bool) (l:Bs):(cF first l).NZ:=by
 unfold cF;split
 · exact (nG _ _).map _
 · split
   · exact (nG _ _).map _
   · split
     · exact (nG _ _).map _
     · split
       · exact cO.NZ.bind (nS (by decide) _) fun _ r=>(kQ _ _).map _
       · refine cO.NZ.bind (nS (by decide) _) fun A r=>cO.NZ.bind (uA _ _ r) fun ats r'=>?_
         split
         · exact (kQ _ _).map _
         · exact (kQ _ _).map _
       · exact (ly _ _ _).map _
theorem zs (f:Nat) (first:Bool) (acc:List (Tk × Bs)) (l:Bs):(eR f first acc l).NZ:=by
 induction f generalizing first acc l with
 | zero =>
  cases l with
  | nil=>trivial
  | cons c l=>show (13:Int)≠0; decide
 | succ f A =>
  cases l with
  | nil=>trivial
  | cons c l =>
   simp only [eR];have:=vG first (c::l)
   cases h:cF first (c::l) with
   | ok t r=>exact A _ _ r
   | bad e r=>rw [h] at this; exact this
theorem s8 {T:Bs} {x:Int} {r:Bs} (h:jI T = .bad x r):x≠0:=by
 have:=zs T.length true [] T
 unfold jI at h;rw [h] at this; exact this
def Ay (A:Bool) (c:UInt8):Bs :=
 if c=38 then [38,97,109,112,59] else if c=60 then [38,108,116,59] else if c=62 then [38,103,116,59]
 else if c=13 then [38,35,49,51,59] else if A && c == 34 then [38,113,117,111,116,59]
 else if A && c == 9 then [38,35,57,59] else if A && c == 10 then [38,35,49,48,59] else [c]
def Bf (A:Bool) (l:Bs):Bs:=l.flatMap (Ay A)
def BF (c:UInt8):Bs:=if c=39 then [38,97,112,111,115,59] else [c]
def BE (l:Bs):Bs:=l.flatMap BF
theorem yM (A:Bool) (c:UInt8):1≤(Ay A c).length∧(Ay A c).length≤6:=by
 unfold Ay; repeat' split
 all_goals simp
theorem qZ (A:Bool) (l:Bs):l.length≤(Bf A l).length∧(Bf A l).length≤6*l.length:=by
 induction l with
 | nil=>exact ⟨Nat.le_refl _,Nat.le_refl _⟩
 | cons c l D =>
  have:=yM A c
  unfold Bf at *;rw [List.flatMap_cons,List.length_append,List.length_cons];omega
theorem vL (s:S) (k:Nat) (h:k<s.size):s.data.toList.take (k+1)=s.data.toList.take k ++ [s[k]]:=by
 rw [List.take_succ_eq_append_getElem (by rw [au]; exact h)]; rfl
def ew (w:World) (s:S):Nat:=grownCap w s.size 0 5
def kH (w:World) (s:S):World:=w.drew.alloc (.cells (bytesRow s (ew w s)) 5 ((bytesRow s (ew w s)).size,(bytesRow s (ew w s)).size+1))
theorem iG (w:World) (s:S):(convert 9 120 (.string s)).run Tryz.prog w = .ok (.slice (some ⟨w.heap.size,0,none⟩) s.size (ew w s)) (kH w s) :=
 run_bytes_of_string w 9 120 5 s Tryz.underlying9 Tryz.underlying120 Tryz.underlying5
theorem fI (w:World) (s:S) (B:Nat) (hB:B≤w.heap.size):Below B w (kH w s):=(aY (Below.refl _ _) 1).alloc hB _
theorem gG (w:World) (s:S):(kH w s).heap.size=w.heap.size+1:=by show (w.heap.push _).size=_; simp
theorem gH (w:World) (s:S) (j:Nat) (h:j<s.size):(kH w s).cell? ⟨w.heap.size,j,none⟩=some (.int .u8 (s[j].toNat:Nat)):=by
 have hh:(kH w s).heap[w.heap.size]? = some (.cells (bytesRow s (ew w s)) 5 ((bytesRow s (ew w s)).size,(bytesRow s (ew w s)).size+1)):=by
  show (w.heap.push _)[w.heap.size]? = _
  simp
 have A:j<s.data.size:=h;simp only [World.cell?,hh];unfold bytesRow;rw [Array.getElem?_append_left (by simpa using A),Array.getElem?_map,Array.getElem?_eq_getElem A];rfl
theorem uT {p u:Bs} (h:p.length≤u.length) (x:Bs):p.isPrefixOf (u ++ x)=p.isPrefixOf u:=by
 induction p generalizing u with
 | nil=>cases u <;> simp [List.isPrefixOf]
 | cons a p A =>
  cases u with
  | nil=>simp at h
  | cons c u=>simp only [List.cons_append,List.isPrefixOf]; rw [A (by simpa using h)]
theorem tW {A:Bool} {a n:Nat} {l t:Bs} (h:cg A a l = .ok t n):a+2≤n:=by
 unfold cg at h;split at h
 · cases h
 split at h
 · cases h
 split at h
 · cases h
 rename_i h3
 split at h
 · simp only [not_or] at h3
   cases h; omega
 · cases h
def A1 (A:Bs) (r:Bs):cO eE:=(dd 61 (aC r)).bind fun _ r'=>(eu (aC r')).map fun v=>(A,v)
theorem zk (acc:List eE) (l:Bs):ec acc l=(dB 10 l).bind fun A r=>if acc.any (fun a=>a.1 == A) then .bad 15 l else A1 A r:=rfl
def AE (D:Bs) (ats:List eE) (r':Bs):cO Tk:=match r' with
 | 47::A=>(dd 62 A).map fun _=>⟨2,D,ats,[]⟩
 | _=>(dd 62 r').map fun _=>⟨1,D,ats,[]⟩
theorem AD (A:Bs) (ats:List eE) (r:Bs):AE A ats (47::r)=(dd 62 r).map fun _=>⟨2,A,ats,[]⟩:=rfl
theorem AC (A:Bs) (ats:List eE) {c:UInt8} (r:Bs) (h:c≠47):AE A ats (c::r)=(dd 62 (c::r)).map fun _=>⟨1,A,ats,[]⟩:=by
 unfold AE;split
 · rename_i h1; cases h1; exact absurd rfl h
 · rfl
theorem ys (l:Bs):cL l=(dB 11 l).bind fun A r=>(iM r).bind fun ats r'=>AE A ats r':=rfl
def AT (q:Bool) (a:eE):Bs:=if q then 10::(a.1 ++ (32::61::9::39::(BE (Bf true a.2) ++ [39]))) else 32::(a.1 ++ (61::34::(Bf true a.2 ++ [34])))
def zi (l:List eE):Bs:=l.flatMap (AT false)
def vM (t:Tk) (fin:Bs):Bs:=60::(t.name ++ (zi t.attrs ++ fin))
def jX (t:Tk):Bs :=
 if t.kind=5 then iT ++ (t.text ++ mE) else if t.kind=6 then nC ++ (t.text ++ mF) else if t.kind=3 then [60,47] ++ (t.name ++ [62])
 else if t.kind=1 then vM t [62] else if t.kind=2 then vM t [47,62] else if t.kind=4 then Bf false t.text else []
def fS (ts:List Tk):Bs:=ts.flatMap jX
def ja (l:List eE):Nat:=(l.map fun a=>a.1.length+6*a.2.length+4).sum
theorem zm (a:eE):(AT false a).length≤a.1.length+6*a.2.length+4:=by
 have:=(qZ true a.2).2
 unfold AT;simp only [Bool.false_eq_true,if_false,List.length_cons,List.length_append,List.length_nil]; omega
theorem xq (l:List eE):(zi l).length≤ja l:=by
 induction l with
 | nil=>exact Nat.le_refl _
 | cons a l A =>
  have:=zm a
  show (AT false a ++ zi l).length≤_
  unfold ja at *;rw [List.length_append,List.map_cons,List.sum_cons]; omega
theorem jt {til l s r:Bs} (h:plain til l = .ok s r):(∀ c ∈ s,cE c=true)∧l=s ++ til ++ r ∧ ∀ y,plain til (s ++ til ++ y) = .ok s y:=by
 induction l generalizing s with
 | nil =>
  simp only [plain] at h;split at h
  · rename_i A
    cases h
    have:til=[]:=by cases til with
     | nil=>rfl
     | cons a b=>simp [List.isPrefixOf] at A
    subst this;refine ⟨by simp,by simp,fun y=>?_⟩
    cases y <;> simp [plain]
  · cases h
 | cons c l J =>
  simp only [plain] at h;split at h
  · rename_i A
    cases h
    obtain ⟨z,hz⟩:=List.isPrefixOf_iff_prefix.1 A;refine ⟨by simp,?_,fun y=>?_⟩
    · rw [← hz]; simp
    · show plain til (til ++ y)=_
      cases D:til ++ y with
      | nil =>
       have h1:til=[]:=(List.append_eq_nil_iff.1 D).1;have h2:y=[]:=(List.append_eq_nil_iff.1 D).2;subst h1; subst h2; rfl
      | cons a b =>
       simp only [plain];rw [if_pos (by rw [← D]; exact List.isPrefixOf_iff_prefix.2 ⟨y,rfl⟩),← D,List.drop_left]
  · rename_i A
    split at h
    · rename_i I
      obtain ⟨a,h1,rfl⟩:=dH h;obtain ⟨i1,i2,i3⟩:=J h1;refine ⟨?_,by rw [i2]; simp,fun y=>?_⟩
      · intro x hx
        rcases List.mem_cons.1 hx with rfl | hx
        · exact I
        · exact i1 x hx
      · show plain til (c::(a ++ til ++ y))=_
        simp only [plain]
        have hp:til.isPrefixOf (c::(a ++ til ++ y))=false:=by
         rw [i2] at A;have e1:c::(a ++ til ++ r)=(c::(a ++ til)) ++ r:=by simp
         have e2:c::(a ++ til ++ y)=(c::(a ++ til)) ++ y:=by simp
         rw [e1,uT (by simp; omega)] at A;rw [e2,uT (by simp; omega)];exact Bool.eq_false_iff.2 A
        rw [hp,if_neg (by decide),if_pos I,i3 y]; rfl
    · cases h
theorem xP {t:Tk} (h:t.kind=4):jX t=Bf false t.text:=by
 unfold jX; rw [h]; simp
theorem tP (l m:List Tk):fS (l ++ m)=fS l ++ fS m:=by unfold fS; rw [List.flatMap_append]
theorem af.drewN {α:Type} {n:Nat} {C:α→List Value} {w:World} {v:Value} {l:List α} (h:af n C w v l) (k:Nat):af n C (w.drewN k) v l :=
 h.below (aY (Below.refl _ _) k)
theorem Bl (a b:Bs):((bs a).toList == (bs b).toList)=decide (a=b):=by
 rw [ByteArray.toList_eq,ByteArray.toList_eq,cH,cH,Bool.eq_iff_iff]; simp
def xA (t:Tk):Nat:=t.name.length+t.text.length+ja t.attrs+20
def lO (l:List Tk):Nat:=(l.map xA).sum
theorem xQ {l:List Tk} {k:Nat} (h:k<l.length):xA l[k]≤lO l:=by
 induction l generalizing k with
 | nil=>simp at h
 | cons a l A =>
  cases k with
  | zero=>unfold lO; simp only [List.map_cons,List.sum_cons,List.getElem_cons_zero]; omega
  | succ k=>have:=A (k:=k) (by simpa using h); unfold lO at *; simp only [List.map_cons,List.sum_cons,List.getElem_cons_succ]; omega
theorem qI {s t:Bs} {n:Nat} (h:bP s = .ok t n):t.length≤n:=by
 have D:=mu h
 have hn : ∀ A a d,cg A a d = .ok t n→2≤a→t.length≤n:=by
  intro A a d h ha;have:=tW h
  omega
 cases s with
 | nil=>cases h
 | cons c r =>
  simp only [bP] at h;split at h
  · cases h
  · split at h
    · split at h
      · exact hn _ _ _ h (by decide)
      · exact hn _ _ _ h (by decide)
    · split at h
      · split at h <;> cases h
      · split at h
        · split at h
          · cases h; simp
          · cases h
        · cases h
theorem mA {stop:UInt8} (n:Nat) : ∀ {l s r:Bs},l.length≤n→bu stop 0 l = .ok s r→s.length+r.length≤l.length:=by
 induction n with
 | zero =>
  intro l s r hn h;have:l=[]:=List.eq_nil_of_length_eq_zero (by omega)
  subst this;cases h; simp
 | succ n D =>
  intro l s r hn h;cases l with
  | nil=>cases h; simp
  | cons c l =>
   simp only [List.length_cons] at hn;simp only [bu] at h;split at h
   · cases h; simp
   · split at h
     · cases A:bP (c::l) with
       | bad e=>rw [A] at h; cases h
       | ok t k =>
        rw [A] at h;obtain ⟨a,h1,rfl⟩:=dH h;obtain ⟨O,I⟩:=lj A;have J:=qI A;rw [jw] at h1;have:=D (by rw [List.length_drop]; omega) h1
        rw [List.length_drop] at this;simp only [List.length_cons,List.length_append] at I ⊢;omega
     · split at h
       · cases h
       · obtain ⟨a,h1,rfl⟩:=dH h
         have:=D (by omega) h1
         simp only [List.length_cons]; omega
theorem lS {e:Int} {l A r:Bs} (h:dB e l = .ok A r):A.length+r.length=l.length:=by
 cases l with
 | nil=>cases h
 | cons c l =>
  simp only [dB] at h;split at h
  · cases h
  · cases h
    have:=nU (c::l)
    rw [List.length_take,List.length_drop]; omega
theorem jP {c:UInt8} {l r:Bs} {u:Unit} (h:dd c l = .ok u r):r.length+1=l.length:=by
 cases l with
 | nil=>cases h
 | cons x l=>simp only [dd] at h; split at h <;> cases h; simp
theorem tr {l s r:Bs} (h:eu l = .ok s r):s.length+r.length+2≤l.length:=by
 cases l with
 | nil=>cases h
 | cons q l =>
  simp only [eu] at h;split at h
  · obtain ⟨a,A,h1,h2⟩:=fK h
    have:=mA l.length (Nat.le_refl _) h1
    split at h2
    · cases h2
    · cases h2; simp only [List.length_cons] at this ⊢; omega
  · cases h
def jb (l:List eE):Nat:=(l.map fun a=>a.1.length+a.2.length+4).sum
theorem xr (l m:List eE):jb (l ++ m)=jb l+jb m:=by unfold jb; rw [List.map_append,List.sum_append]
theorem AS (l:List eE):ja l≤6*jb l:=by
 induction l with
 | nil=>exact Nat.le_refl _
 | cons a l A=>unfold ja jb at *; simp only [List.map_cons,List.sum_cons]; omega
theorem xt {acc:List eE} {l r:Bs} {a:eE} (h:ec acc l = .ok a r):a.1.length+a.2.length+3+r.length≤l.length:=by
 rw [zk] at h;obtain ⟨O,D,h1,h2⟩:=fK h;split at h2
 · cases h2
 · unfold A1 at h2
   obtain ⟨_,A,h3,J⟩:=fK h2;obtain ⟨v,I,rfl⟩:=dH J;have e1:=lS h1;have e2:=jP h3;have e3:=tr I;have Z:=dm D;have U:=dm A;simp only; omega
theorem s5 (f:Nat) (acc:List eE) (l:Bs) {A:List eE} {r:Bs} (h:et f acc l = .ok A r):jb A+r.length≤jb acc+l.length:=by
 induction f generalizing acc l with
 | zero=>cases h
 | succ f D =>
  simp only [et] at h;split at h
  · cases h; have:=dm l; omega
  · rename_i I
    cases ha:ec acc (aC l) with
    | bad e r'=>rw [ha] at h; cases h
    | ok a r' =>
     rw [ha] at h;have e1:=xt ha;have e2:=D _ _ h;have e3:=dm l
     have O:(aC l).length≠l.length:=by
      intro e;apply I
      unfold kT;rw [e]; simp
     rw [xr] at e2;have J:jb [a]=a.1.length+a.2.length+4:=by simp [jb]
     omega
theorem wu {l r:Bs} {t:Tk} (h:cL l = .ok t r):t.name.length+jb t.attrs+1+r.length≤l.length∧t.text=[]:=by
 rw [ys] at h;obtain ⟨O,U,h1,h2⟩:=fK h;obtain ⟨ats,D,h3,A⟩:=fK h2;have e1:=lS h1;have e2:=s5 _ _ _ h3;have e0:jb []=0:=rfl;cases D with
 | nil=>cases A
 | cons c D =>
  by_cases J:c=47
  · subst J
    rw [AD] at A;obtain ⟨_,I,rfl⟩:=dH A;have:=jP I
    simp only [List.length_cons] at e2;exact ⟨by simp only; omega,rfl⟩
  · rw [AC O ats D J] at A
    obtain ⟨_,I,rfl⟩:=dH A;have:=jP I
    exact ⟨by simp only; omega,rfl⟩
theorem uq {l r:Bs} {t:Tk} (h:dw l = .ok t r):t.kind=3∧t.name.length+1+r.length≤l.length∧t.attrs=[]∧t.text=[]:=by
 obtain ⟨D,A,h1,h2⟩:=fK h;obtain ⟨_,h3,rfl⟩:=dH h2;have e1:=lS h1;have e2:=jP h3;have e3:=dm A;exact ⟨rfl,by simp only; omega,rfl,rfl⟩
theorem uN (t:Tk) (fin:Bs):(vM t fin).length≤1+t.name.length+ja t.attrs+fin.length:=by
 have:=xq t.attrs
 unfold vM;simp only [List.length_cons,List.length_append]; omega
theorem tA {f:Bool} {l r:Bs} {t:Tk} (h:cF f l = .ok t r) (J:l≠[]):(jX t).length+6*r.length≤6*l.length∧xA t+26*r.length≤26*l.length:=by
 have D:=gw h J;unfold cF at h;split at h
 · rename_i hp
   obtain ⟨s,h1,rfl⟩:=dH h;have e1:=congrArg List.length (jt h1).2.1;obtain ⟨z,hz⟩:=List.isPrefixOf_iff_prefix.1 hp;have e2:=congrArg List.length hz;have e0:jX ⟨5,[],[],s⟩=iT ++ (s ++ mE):=by unfold jX; rw [if_pos rfl]
   rw [e0];unfold xA;simp only [List.length_append,List.length_drop,iT,mE,List.length_cons,List.length_nil,ja,List.map_nil,List.sum_nil] at *;omega
 · split at h
   · rename_i hp
     obtain ⟨s,h1,rfl⟩:=dH h;have e1:=congrArg List.length (jt h1).2.1;obtain ⟨z,hz⟩:=List.isPrefixOf_iff_prefix.1 hp;have e2:=congrArg List.length hz;have e3:=(qZ false s).2;rw [xP rfl];unfold xA;simp only [List.length_append,List.length_drop,ld,qj,List.length_cons,List.length_nil,ja,List.map_nil,List.sum_nil] at *;omega
   · split at h
     · rename_i hh
       obtain ⟨s,h1,rfl⟩:=dH h;have e1:=congrArg List.length (jt h1).2.1;rw [Bool.and_eq_true] at hh;have A:=hh.2;unfold da at A;rw [Bool.and_eq_true] at A;obtain ⟨z,hz⟩:=List.isPrefixOf_iff_prefix.1 A.1;have e2:=congrArg List.length hz;have e0:jX ⟨6,[],[],s⟩=nC ++ (s ++ mF):=by unfold jX; rw [if_neg (by simp),if_pos rfl]
       rw [e0];unfold xA;simp only [List.length_append,List.length_drop,nC,mF,List.length_cons,List.length_nil,ja,List.map_nil,List.sum_nil] at *;omega
     · split at h
       · obtain ⟨hk,e1,e2,e3⟩:=uq h
         have e0:jX t=[60,47] ++ (t.name ++ [62]):=by unfold jX; rw [hk]; simp
         rw [e0];unfold xA;rw [e2,e3];simp only [List.length_append,List.length_cons,List.length_nil,ja,List.map_nil,List.sum_nil];omega
       · obtain ⟨e1,e2⟩:=wu h
         have O:=AS t.attrs
         have I:(jX t).length≤3+t.name.length+ja t.attrs:=by
          rcases nN h with hk | hk
          · have e0:jX t=vM t [62]:=by unfold jX; rw [hk]; simp
            have:=uN t [62]
            rw [e0]; simp at this; omega
          · have e0:jX t=vM t [47,62]:=by unfold jX; rw [hk]; simp
            have:=uN t [47,62]
            rw [e0]; simp at this; omega
         unfold xA;rw [e2];simp only [List.length_cons,List.length_nil] at *;omega
       · obtain ⟨s,h1,rfl⟩:=dH h
         have e1:=mA l.length (Nat.le_refl _) h1;have e3:=(qZ false s).2;rw [xP rfl];unfold xA;simp only [List.length_nil,ja,List.map_nil,List.sum_nil] at *;omega
theorem xu (n:Nat) (f:Bool) (acc:List (Tk × Bs)) (l:Bs) {A:List (Tk × Bs)} {r:Bs} (h:eR n f acc l = .ok A r):(fS (A.map (·.1))).length≤(fS (acc.map (·.1))).length+6*l.length∧lO (A.map (·.1))≤lO (acc.map (·.1))+26*l.length:=by
 induction n generalizing f acc l with
 | zero=>cases l with
  | nil=>cases h; exact ⟨by omega,by omega⟩
  | cons c l=>cases h
 | succ n O =>
  cases l with
  | nil=>cases h; exact ⟨by omega,by omega⟩
  | cons c l =>
   simp only [eR] at h;cases D:cF f (c::l) with
   | bad e r'=>rw [D] at h; cases h
   | ok t r' =>
    rw [D] at h;obtain ⟨i1,i2⟩:=O _ _ _ h;obtain ⟨j1,j2⟩:=tA D (by simp)
    have J:(fS ((acc ++ [(t,c::l)]).map (·.1))).length=(fS (acc.map (·.1))).length+(jX t).length:=by
     rw [List.map_append,tP,List.length_append]; simp [fS]
    have I:lO ((acc ++ [(t,c::l)]).map (·.1))=lO (acc.map (·.1))+xA t:=by
     unfold lO; rw [List.map_append,List.map_append,List.sum_append]; simp
    rw [J] at i1;rw [I] at i2;omega
theorem zr {T:Bs} {acc:List (Tk × Bs)} {r:Bs} (h:jI T = .ok acc r):(fS (acc.map (·.1))).length≤6*T.length∧lO (acc.map (·.1))≤26*T.length:=by
 have:=xu _ _ _ _ h
 simpa [fS,lO] using this
end Go.Proofs.YtominiaohfjobaaGreatDoor
