/- The walk of the builder's begin where an element begins inside of another one; its conditions stand in the theorem. -/
import Derived.Test.YtecffghcpknmjaaGreatDoorJK07
import Derived.Deep.CutRange
import Derived.Deep.CutBlock
import Derived.Test.YtecffghcpknmjaaGreatDoorJK04
import Derived.Test.YtecffghcpknmjaaGreatDoorJK05
import Derived.Test.YtecffghcpknmjaaGreatDoorJK06
import Derived.Test.YtecffghcpknmjaaGreatDoorOwn2
import Derived.Test.YtecffghcpknmjaaGreatDoorQB
import Derived.Test.YtecffghcpknmjaaGreatDoorG2
import Derived.Test.YtecffghcpknmjaaGreatDoorK19
import Derived.Test.YtecffghcpknmjaaGreatDoorK4
import Derived.Test.YtecffghcpknmjaaGreatDoorR0
import Derived.Test.YtecffghcpknmjaaGreatDoorL0
import Derived.Test.YtecffghcpknmjaaGreatDoorSB
import Derived.Laws.IdiomStrings
namespace Go.Proofs.YtecffghcpknmjaaGreatDoor
open Go Go.RowKit
variable {lo:Nat}
theorem TreeOf.below {NT:TypeId} {B:Nat} {X:Nat→Prop} {w w':World} {st:List Fr} {r:Option Tr} {ps:List (Nat × Nat)} (h:TreeOf NT B X w st r ps) (hb:Below w.heap.size w w') (hB:B<w.heap.size):TreeOf NT B X w' st r ps :=
 h.keep (KeptX.below hb) (fun _ _ h=>h) (fun _ _ h=>h) (fun j _=>hb.cell (p:=⟨B,j,none⟩) hB) (fun k _ _ hr=>hb.block k hr.lt)
def KidPost (lo:Nat) (W:World) (X0:Nat→Prop) (B b o g cap8:Nat) (f:Fr) (fs:List Fr) (L:List TrV) (av:Value) (nm:Bs) (ats:List At2) (ya ov:Value) (qs:List (Nat × Nat)) (c d t:Value) (wx:World):Prop :=
 ∃ X',Inner 32 X' wx b o (f.add (.mk nm ats [] [])) (L ++ [((.mk nm ats [] []:Tr),ya,.slice none 0 0)]) av (.slice (some ⟨g,0,none⟩) (L.length+1) cap8)∧Up 32 B X' wx b o fs qs ∧
  Core 32 133 lo wx B (f.add (.mk nm ats [] [])::fs) none X' ov (qs.reverse ++ [(b,o)]) c d t∧SliceX 2 atC X' wx ya ats∧Below B W wx∧KeptX X0 W wx
set_option maxRecDepth 100000 in
set_option maxHeartbeats 8000000 in
theorem begin_in (w:World) (B n:Nat) (f:Fr) (fs:List Fr) (r0:Option Tr) (c:Nat) (tx:Bool) (X:Nat→Prop) (ov:Value) (ps:List (Nat × Nat)) (h:BOf lo w B ⟨f::fs,r0,c,tx⟩ n X ov ps) (t:Tk) (av:Value) (p q r:Int) (hat:AttB lo B w av t.attrs)
    (hr:r0.isSome=false) (hd : ¬ 64≤(f::fs).length) (hc : ¬ 4096<c+1) (hn:n≤1000000) :
    Calls Tryz.prog 56 #[.pointer (some ⟨B,0,none⟩),tokV t av p q r] w (BeginOut lo X w B (n+1) (beginB ⟨f::fs,r0,c,tx⟩ t)):=by
 have hlt:=h.core.lt;have c6:=h.core.c6;rw [hr] at c6;have c4:=h.core.c4;have hcn:c≤n:=h.cn;obtain ⟨ao,cap,rfl⟩:=h.shape;have hl:beginB ⟨f::fs,r0,c,tx⟩ t = .ok ⟨⟨t.name,t.attrs,[]⟩::f::fs,r0,c+1,false⟩:=by simp only [beginB]; rw [hr,if_neg (by simp),if_neg hd,if_neg hc]
 rw [hl];simp only [List.length_cons] at hd c4;have hdI : ¬ (64:Int)≤((fs.length+1:Nat):Int):=by omega
 have hdJ : ¬ (64:Int)≤(fs.length:Int)+1:=by omega
 have hn1:((fs.length+1:Nat):Int)≠0:=by omega
 have hdd:decide (c+1≤4096)=true:=by rw [decide_eq_true_iff]; omega
 have hCW:=fun o=>h.core.below ((Below.refl _ w).alloc (Nat.le_refl _) o);have HCW:=Lib.hid hCW;have HXB:=Lib.hid h.core.xB;have HXO:=Lib.hid h.core.xo;have HO:=Lib.hid fun o=>one_any (w.alloc o) B c (hCW o).c5 ((hCW o).f 5) (by omega);rw [hdd] at HO;have H:=Lib.hid h;clear h hCW hl hdd;obtain ⟨ao3,cap3,hav⟩:=hat.shape;have HAT:=Lib.hid hat;obtain ⟨N1,hN1⟩ : ∃ N1:S,N1=bs t.name:=⟨_,rfl⟩;have HN1:=Lib.hid hN1;unfold tokV;rw [← hN1];clear hN1 hat;subst hav;go_enter Tryz.func56,Tryz.ntmps56
 go_wp2_with fail
 refine (HO.out _).mono ?_
 rintro e w' ⟨rfl,rfl⟩;have x0:=(Box.new w [.int .i64 t.kind,.string N1,.slice ao3 t.attrs.length cap3,.string (bs t.text),.int .i64 p,.int .i64 q,.int .i64 r] 68 _ rfl);have x1:=x0.grownB (setCell_grown _ B 5 (.int .i64 (c+1:Nat))) (by omega);have hC1:=(HCW.out (.cells #[.int .i64 t.kind,.string N1,.slice ao3 t.attrs.length cap3,.string (bs t.text),.int .i64 p,.int .i64 q,.int .i64 r] 68)).set5 (.int .i64 (c+1:Nat));have hB1:Below B w ((w.alloc (.cells #[.int .i64 t.kind,.string N1,.slice ao3 t.attrs.length cap3,.string (bs t.text),.int .i64 p,.int .i64 q,.int .i64 r] 68)).setCell ⟨B,5,none⟩ (.int .i64 (c+1:Nat))):=below_set ((Below.refl B w).alloc (Nat.le_of_lt hlt) _) B _ _ (Nat.le_refl _);have HV1:Hid (KeptX X w ((w.alloc (.cells #[.int .i64 t.kind,.string N1,.slice ao3 t.attrs.length cap3,.string (bs t.text),.int .i64 p,.int .i64 q,.int .i64 r] 68)).setCell ⟨B,5,none⟩ (.int .i64 (c+1:Nat)))):=(KeptX.below ((Below.refl _ w).alloc (Nat.le_refl _) _)).trans (keptX_set _ B 5 _ HXB.out);have hs1:((w.alloc (.cells #[.int .i64 t.kind,.string N1,.slice ao3 t.attrs.length cap3,.string (bs t.text),.int .i64 p,.int .i64 q,.int .i64 r] 68)).setCell ⟨B,5,none⟩ (.int .i64 (c+1:Nat))).heap.size=w.heap.size+1:=by simp
 have a0:=x1.cell 0 _ rfl;have a1:=x1.cell 1 _ rfl;have a2:=x1.cell 2 _ rfl;have e4:=hC1.c4;have el:=hC1.lt;have al:=x1.lt;have HC1:=Lib.hid hC1;have HB1:=Lib.hid hB1;clear x0 x1 hC1 hB1 c4 c6 HO HCW;generalize ((w.alloc (.cells #[.int .i64 t.kind,.string N1,.slice ao3 t.attrs.length cap3,.string (bs t.text),.int .i64 p,.int .i64 q,.int .i64 r] 68)).setCell ⟨B,5,none⟩ (.int .i64 (c+1:Nat)))=W1 at *;go_wp2_with fail
 refine Calls.world ?_
 intro W2 hW2;have hC2:Core 32 133 lo W2 B (f::fs) r0 X (.slice ao (f::fs).length cap) ps (.int .i64 (c+1:Nat)) (.bool r0.isSome) (.bool tx):=by rw [hW2]; exact HC1.out.below ((Below.refl _ _).alloc (Nat.le_refl _) _)
 have xn:Box W2 (w.heap.size+1) [.string N1,.slice ao3 t.attrs.length cap3,.slice none 0 0,.string ⟨#[]⟩]:=by rw [hW2]; exact Box.new W1 _ _ _ hs1
 have hB2:Below B w W2:=by rw [hW2]; exact HB1.out.alloc (Nat.le_of_lt el) _
 have HV2:Hid (KeptX X w W2):=by show KeptX X w W2; rw [hW2]; exact HV1.out.trans (KeptX.below ((Below.refl _ _).alloc (Nat.le_refl _) _))
 clear hW2 HV1 HC1 HB1 a0 a1 a2 e4 el al hs1;obtain ⟨b,o,L0,av0,ao0,cap0,qs0,-,hps,-⟩:=hC2.data;have HT:=Lib.hid (top_any (by rw [hps] at hC2; exact hC2));have HXN:=Lib.hid xn;have HC2:=Lib.hid hC2;have HB2:=Lib.hid hB2;clear xn hC2 hB2;refine HT.out.mono ?_
 rintro e w' ⟨rfl,k,rfl⟩;have hC3:=HC2.out.drewN k;have xn:=HXN.out.drewN k;have hB3:Below B w (W2.drewN k):=belowN HB2.out k;have HV3:Hid (KeptX X w (W2.drewN k)):=HV2.out.trans (KeptX.below (belowN (Below.refl _ _) k));clear HV2 HC2 HXN HB2 HT;generalize W2.drewN k=W3 at *;have HB3:=Lib.hid hB3;clear hB3;have n0:=xn.cell 0 _ rfl;have n1:=xn.cell 1 _ rfl;have n2:=xn.cell 2 _ rfl;have n3:=xn.cell 3 _ rfl;have nl:=xn.lt;obtain ⟨b',o',L,av,ao2,cap2,qs,hr0,hps',inn,up,hbl,hBb,hbo,-,q2,f2⟩:=hC3.data
 obtain ⟨rfl,rfl⟩:b=b'∧o=o':=by
  rw [hps] at hps';have:=(List.append_inj' hps' rfl).2
  simpa using this
 subst hr0;rw [hps'] at hC3
 have hLn:L.length≤n:=by
  have h1:=H.out.kd f (by simp);rw [← inn.is,List.length_map] at h1; exact h1
 have hqs:qs.length=fs.length:=up.len;have hsn:=H.out.sn;simp only [List.length_cons] at hsn;have hLi:((L.length:Int):Int)<(L.length:Int)+1:=by omega
 have hL0:(0:Int)≤(L.length:Int):=by omega
 have hatX:SliceX 2 atC X W3 (.slice ao3 t.attrs.length cap3) t.attrs:=HAT.out.x HB3.out (fun k hk=>(Nat.lt_or_ge k lo).elim .inr fun hl=>.inl (hC3.xlt k hk hl).1);have HAX:=Lib.hid hatX;have HC3:=Lib.hid hC3;have HK:=Lib.hid fun (W1:World) (hb1:Below W3.heap.size W3 W1)=>@Core.step_kid lo W3 B f fs X _ _ _ _ b o L av ao2 cap2 qs hC3 inn up W1 hb1;have HKB:Hid (∀ k,(Value.slice ao2 L.length cap2).ownBlock=some k→b<k):=fun k hk=>(inn.own.rowOf hk).1;have HOW:=Lib.hid inn.own;clear hps hps' inn up hC3 hatX xn;have hown4:=Lib.hid ((HOW.out.alloc (.cells (trC zeroNode).toArray 32)).drew);have hbl4:Hid (b<((W3.alloc (.cells (trC zeroNode).toArray 32)).drew).heap.size):=by show _<_; simp; omega
 have hb4:Hid (Below W3.heap.size W3 ((W3.alloc (.cells (trC zeroNode).toArray 32)).drew)):=belowN ((Below.refl _ W3).alloc (Nat.le_refl _) _) 1;have HNW:Hid (∀ j u,(trC zeroNode)[j]? = some u→((W3.alloc (.cells (trC zeroNode).toArray 32)).drew).cell? ⟨W3.heap.size,j,none⟩=some u):=fun j u hu=>(Box.new W3 (trC zeroNode) 32 _ rfl).cell j u hu;have hbs:Hid (b+1≤((W3.alloc (.cells (trC zeroNode).toArray 32)).drew).heap.size):=by show _≤_; simp; omega
 have hsz4:Hid (((W3.alloc (.cells (trC zeroNode).toArray 32)).drew).heap.size=W3.heap.size+1):=by show _=_; simp
 have hbl5:Hid ((L.length+1)*80≤140737488355328):=by show _≤_; omega
 have HQ2:=Lib.hid (((hb4.out.cell (p:=⟨b,o+2,none⟩) hbl).trans q2));have HF2:=Lib.hid (((hb4.out.frozen (p:=⟨b,o+2,none⟩) hbl).trans f2));go_wp2
 go_cut [60] from 53 (fun v wx=>∃ g cap8,v = .slice (some ⟨g,0,none⟩) (L.length+1) cap8∧KidPost lo W3 X B b o g cap8 f fs L av t.name t.attrs (.slice ao3 t.attrs.length cap3) (.slice ao (f::fs).length cap) qs (.int .i64 (c+1:Nat)) (.bool (none:Option Tr).isSome) (.bool tx) wx)
 case first =>
  rename_i J K' hJ hK
  go_region_law (first | (refine step_append_one rfl (.tmp 56) (.tmp 59) 30 rfl (b+1) 32 Tryz.underlying30 info_node rfl (by decide) trC_len (.slice ao2 L.length cap2) L (by simp [Act.eval,Act.put]) hown4.out W3.heap.size zeroNode (by simp [Act.eval,Act.put]) HNW.out zeroNode_one hbl5.out (by decide) hbs.out (W3.heap.size+1) hsz4.out ?_; intro g8 cap8 w8 hown8 hgrow8 hat8 hlt8; obtain ⟨x1,x2,x3,x4,x5,x6,x7⟩:=kid_facts hbl4.out HQ2.out HF2.out HKB.out hown8 hgrow8; obtain ⟨y0,z0,t0⟩:=hown8.nodeCells 0 (by decide); obtain ⟨y1,z1,t1⟩:=hown8.nodeCells 1 (by decide); obtain ⟨y2,z2,t2⟩:=hown8.nodeCells 2 (by decide); obtain ⟨y3,z3,t3⟩:=hown8.nodeCells 3 (by decide); rw [Nat.add_zero] at y0 t0; have ho9:=Lib.hid hown8; have hg9:=Lib.hid hgrow8; have ha9:=Lib.hid hat8; clear hown8 hgrow8 hat8))
  all_goals
   obtain ⟨X',r1,r2,r3,r4,r5,r6⟩:=HK.out _ hb4.out ho9.out hg9.out (by rw [hsz4.out]; exact ha9.out) t.name t.attrs [] (.slice ao3 t.attrs.length cap3) HAX.out;have r7:=HAX.out.keep r5 r4;rw [← HN1.out] at r1 r2 r3 r5 r6 r7;have hsw : ∀ (W:World) (j:Nat) (u v:Value),(W.setCell ⟨b,o+2,none⟩ u).setCell ⟨g8,j,none⟩ v=(W.setCell ⟨g8,j,none⟩ v).setCell ⟨b,o+2,none⟩ u:=fun W j u v=>setCell_comm W _ _ _ _ x4;try simp only [hsw]
   first | refine hK _ _ (Met.intro (hJ _ _ ?_)) | refine Met.intro (hJ _ _ ?_)
   (repeat apply Exists.intro)
   exact ⟨⟨g8,cap8,rfl,X',r1,r2,r3,r7,r6,r5⟩,rfl⟩
 case rest =>
  obtain ⟨g,cap8,rfl,X',inn,up,hcr,hyX,hB9,hV9⟩:=hcut;have HV9:Hid (KeptX X w wc):=HV3.out.trans hV9;clear hV9;have c4:=hcr.c4;have hlt9:=hcr.lt;have q2:=inn.cells 2 _ rfl;have hbl9:b<wc.heap.size:=hcr.xsize b inn.xb;obtain ⟨-,-,hrow,-,hcap8,hm8⟩:=inn.own.row;have hgl:=hrow.lt;have hw8:IntKind.i64.wrap (L.length:Int)=(L.length:Int):=IntWalk.i64_in _ (by omega);have HTP:=Lib.hid (TreeOf.push inn up hyX);have HCR:=Lib.hid hcr;have HB9:=Lib.hid hB9;have hcapL:L.length+1≤cap8:=by simpa using hcap8
  simp only [List.length_cons] at c4;have hwB:Below wc.heap.size wc ((wc.alloc (.cells #[.pointer (some ⟨g,L.length*4,none⟩)] 133)).drew):=belowN ((Below.refl _ wc).alloc (Nat.le_refl _) _) 1;have HC4:=Lib.hid (hcr.below hwB);have HT4:=Lib.hid (HTP.out.below hwB hcr.lt);have HWB:=Lib.hid hwB;have HNP:Hid (((wc.alloc (.cells #[.pointer (some ⟨g,L.length*4,none⟩)] 133)).drew).cell? ⟨wc.heap.size,0,none⟩=some (.pointer (some ⟨g,L.length*4,none⟩))):=(Box.new wc [.pointer (some ⟨g,L.length*4,none⟩)] 133 _ rfl).cell 0 _ rfl;have HPL:Hid ((qs.reverse ++ [(b,o)]).length≤1000000):=by show _≤_; simp; omega
  have HPQ:Hid ((qs.reverse ++ [(b,o)]).length=fs.length+1):=by show _=_; simp [hqs]
  have HBS:Hid (B+1≤((wc.alloc (.cells #[.pointer (some ⟨g,L.length*4,none⟩)] 133)).drew).heap.size):=by show _≤_; simp; omega
  have HSZ:Hid (((wc.alloc (.cells #[.pointer (some ⟨g,L.length*4,none⟩)] 133)).drew).heap.size=wc.heap.size+1):=by show _=_; simp
  have HB4:Hid (∀ w9:World,((wc.alloc (.cells #[.pointer (some ⟨g,L.length*4,none⟩)] 133)).drew).grownBy w9 (Value.slice ao (f::fs).length cap).ownBlock→w9.cell? ⟨B,4,none⟩=some (.slice ao (fs.length+1) cap)∧w9.frozen? ⟨B,4,none⟩=false∧B<w9.heap.size):=by
   intro w9 hg;have hbk:w9.heap[B]? = ((wc.alloc (.cells #[.pointer (some ⟨g,L.length*4,none⟩)] 133)).drew).heap[B]?:=hg.block B HC4.out.lt (fun e=>by have:=(HC4.out.opn.rowOf e.symm).1; omega);exact ⟨(World.cell?_of_block (by exact hbk)).trans HC4.out.c4,(World.frozen?_of_block (by exact hbk)).trans (HC4.out.f 4),Nat.lt_of_lt_of_le HC4.out.lt hg.size⟩
  have HBG:Hid (∀ w9:World,((wc.alloc (.cells #[.pointer (some ⟨g,L.length*4,none⟩)] 133)).drew).grownBy w9 (Value.slice ao (f::fs).length cap).ownBlock→Below B w w9):=by
   intro w9 hg;have h1:Below B w ((wc.alloc (.cells #[.pointer (some ⟨g,L.length*4,none⟩)] 133)).drew):=(HB3.out.trans HB9.out).trans (HWB.out.mono (Nat.le_of_lt hlt9));exact ⟨hg.os.trans h1.os,hg.tape.trans h1.tape,hg.output.trans h1.output,Nat.le_trans h1.size hg.size,fun k hk=>(hg.block k (Nat.lt_trans hk HC4.out.lt) (fun e=>by have:=(HC4.out.opn.rowOf e.symm).1; omega)).trans (h1.block k hk)⟩
  have HVG:Hid (∀ w9:World,((wc.alloc (.cells #[.pointer (some ⟨g,L.length*4,none⟩)] 133)).drew).grownBy w9 (Value.slice ao (f::fs).length cap).ownBlock→KeptX X w w9):=fun w9 hg=>HV9.out.trans ((KeptX.below HWB.out).trans (KeptX.grown hg HXO.out));clear inn up hcr hyX hB9 hrow hcap8 hwB HKB HOW HK HNW hown4 hbl4 hb4 hbs hsz4 hbl5 HQ2 HF2 n0 n1 n2 n3 nl;go_wp2
  go_region_law (first | (refine step_append_open rfl (.tmp 68) (.tmp 80) rfl (.slice ao (f::fs).length cap) (qs.reverse ++ [(b,o)]) (by simp [Act.eval]) HC4.out.opn wc.heap.size (g,L.length*4) (by simp [Act.eval]) HNP.out HPL.out HBS.out (wc.heap.size+1) HSZ.out ?_; intro g9 cap9 w9 hown9 hgrow9 hat9; obtain ⟨z1,z2,z3⟩:=HB4.out w9 hgrow9; rw [HPQ.out] at hown9; have ho9:=Lib.hid hown9; have hg9:=Lib.hid hgrow9; have ha9:=Lib.hid hat9; rw [HPQ.out]; clear hown9 hgrow9 hat9))
  all_goals
   have hp:=Core.point node_ptr HC4.out HT4.out ho9.out hg9.out (ha9.out.imp (fun e=>e.symm) (fun e k hk=>by cases hk; rw [HSZ.out]; exact e));have hbw:=HBG.out w9 hg9.out;have hvw:=HVG.out w9 hg9.out;have hvw2:=hvw.trans (keptX_set w9 B 4 (.slice (some ⟨g9,0,none⟩) (fs.length+1+1) cap9) HXB.out);have hbw2:=below_set hbw B 4 (.slice (some ⟨g9,0,none⟩) (fs.length+1+1) cap9) (Nat.le_refl _);clear z1 z2 z3 ho9 hg9 ha9 hbw hvw;generalize w9.setCell ⟨B,4,none⟩ (.slice (some ⟨g9,0,none⟩) (fs.length+1+1) cap9)=W10 at *;have c7:=hp.c7;have f7:=hp.f 7;have lt10:=hp.lt;have HP10:=Lib.hid hp;have HBW:=Lib.hid hbw2;have HVW:=Lib.hid hvw2;clear hp hbw2 hvw2;go_wp2
   go_ret
   refine ⟨⟨rfl,⟨_,_,_,HP10.out.set7 (.bool false),by simp,fun f' hf'=>?_,?_,?_⟩,below_set HBW.out B 7 _ (Nat.le_refl _)⟩,HVW.out.trans (keptX_set _ B 7 _ HXB.out)⟩
   · rcases List.mem_cons.1 hf' with rfl | hf'
     · simp
     · have:=H.out.kd f' hf'; omega
   · show c+1≤n+1
     omega
   · simp only [List.length_cons]; omega
end Go.Proofs.YtecffghcpknmjaaGreatDoor
namespace Go.Proofs.YtecffghcpknmjaaGreatDoor
open Go Go.RowKit
variable {lo:Nat}
set_option maxRecDepth 100000 in
set_option maxHeartbeats 8000000 in
theorem begin_root (w:World) (B n:Nat) (r0:Option Tr) (c:Nat) (tx:Bool) (X:Nat→Prop) (ov:Value) (ps:List (Nat × Nat)) (h:BOf lo w B ⟨[],r0,c,tx⟩ n X ov ps) (t:Tk) (av:Value) (p q r:Int) (hat:AttB lo B w av t.attrs)
    (hr:r0.isSome=false) (hc : ¬ 4096<c+1) :
    Calls Tryz.prog 56 #[.pointer (some ⟨B,0,none⟩),tokV t av p q r] w (BeginOut lo X w B (n+1) (beginB ⟨[],r0,c,tx⟩ t)):=by
 have hlt:=h.core.lt;have c6:=h.core.c6;rw [hr] at c6;have c4:=h.core.c4;have hcn:c≤n:=h.cn;obtain ⟨ao,cap,rfl⟩:=h.shape;obtain rfl:r0=none:=by cases r0 with | none=>rfl | some x=>simp at hr
 have hps:ps=[]:=List.eq_nil_of_length_eq_zero h.core.len;subst hps;have hl:beginB ⟨[],none,c,tx⟩ t = .ok ⟨⟨t.name,t.attrs,[]⟩::[],none,c+1,false⟩:=by simp only [beginB]; rw [if_neg (by simp),if_neg (by simp),if_neg hc]
 rw [hl];simp only [List.length_nil] at c4;have hdd:decide (c+1≤4096)=true:=by rw [decide_eq_true_iff]; omega
 have hCW:=fun o=>h.core.below ((Below.refl _ w).alloc (Nat.le_refl _) o);have HCW:=Lib.hid hCW;have HXB:=Lib.hid h.core.xB;have HXO:=Lib.hid h.core.xo;have HO:=Lib.hid fun o=>one_any (w.alloc o) B c (hCW o).c5 ((hCW o).f 5) (by omega);rw [hdd] at HO;have H:=Lib.hid h;clear h hCW hl hdd;obtain ⟨ao3,cap3,hav⟩:=hat.shape;have HAT:=Lib.hid hat;obtain ⟨N1,hN1⟩ : ∃ N1:S,N1=bs t.name:=⟨_,rfl⟩;have HN1:=Lib.hid hN1;unfold tokV;rw [← hN1];clear hN1 hat;subst hav;go_enter Tryz.func56,Tryz.ntmps56
 go_wp2_with fail
 refine (HO.out _).mono ?_
 rintro e w' ⟨rfl,rfl⟩;have x0:=(Box.new w [.int .i64 t.kind,.string N1,.slice ao3 t.attrs.length cap3,.string (bs t.text),.int .i64 p,.int .i64 q,.int .i64 r] 68 _ rfl);have x1:=x0.grownB (setCell_grown _ B 5 (.int .i64 (c+1:Nat))) (by omega);have hC1:=(HCW.out (.cells #[.int .i64 t.kind,.string N1,.slice ao3 t.attrs.length cap3,.string (bs t.text),.int .i64 p,.int .i64 q,.int .i64 r] 68)).set5 (.int .i64 (c+1:Nat));have hB1:Below B w ((w.alloc (.cells #[.int .i64 t.kind,.string N1,.slice ao3 t.attrs.length cap3,.string (bs t.text),.int .i64 p,.int .i64 q,.int .i64 r] 68)).setCell ⟨B,5,none⟩ (.int .i64 (c+1:Nat))):=below_set ((Below.refl B w).alloc (Nat.le_of_lt hlt) _) B _ _ (Nat.le_refl _);have HV1:Hid (KeptX X w ((w.alloc (.cells #[.int .i64 t.kind,.string N1,.slice ao3 t.attrs.length cap3,.string (bs t.text),.int .i64 p,.int .i64 q,.int .i64 r] 68)).setCell ⟨B,5,none⟩ (.int .i64 (c+1:Nat)))):=(KeptX.below ((Below.refl _ w).alloc (Nat.le_refl _) _)).trans (keptX_set _ B 5 _ HXB.out);have hs1:((w.alloc (.cells #[.int .i64 t.kind,.string N1,.slice ao3 t.attrs.length cap3,.string (bs t.text),.int .i64 p,.int .i64 q,.int .i64 r] 68)).setCell ⟨B,5,none⟩ (.int .i64 (c+1:Nat))).heap.size=w.heap.size+1:=by simp
 have a0:=x1.cell 0 _ rfl;have a1:=x1.cell 1 _ rfl;have a2:=x1.cell 2 _ rfl;have e4:=hC1.c4;have el:=hC1.lt;have al:=x1.lt;have HC1:=Lib.hid hC1;have HB1:=Lib.hid hB1;clear x0 x1 hC1 hB1 c4 c6 HO HCW;generalize ((w.alloc (.cells #[.int .i64 t.kind,.string N1,.slice ao3 t.attrs.length cap3,.string (bs t.text),.int .i64 p,.int .i64 q,.int .i64 r] 68)).setCell ⟨B,5,none⟩ (.int .i64 (c+1:Nat)))=W1 at *;obtain ⟨u0,u1,u2,u3,hbx⟩:=HC1.out.box;have b0:=hbx.cell 0 _ rfl;have b1:=hbx.cell 1 _ rfl;have b2:=hbx.cell 2 _ rfl;have b3:=hbx.cell 3 _ rfl;have bf0:=hbx.free 0;have bf1:=hbx.free 1;have bf2:=hbx.free 2;have bf3:=hbx.free 3;clear hbx;go_wp2
 refine wp_world ?_
 intro wc hwc;have hyX:=HAT.out.x HB1.out (fun k hk=>(Nat.lt_or_ge k lo).elim .inr fun hl=>.inl (HC1.out.xlt k hk hl).1);obtain ⟨h5,h6⟩:=HC1.out.rootCells (n:=t.name) hyX;rw [← HN1.out] at h5 h6;have hcr:Core 32 133 lo wc B [] none X (.slice ao 0 cap) [] (.int .i64 (c+1:Nat)) (.bool (none:Option Tr).isSome) (.bool tx):=by rw [hwc]; exact h5.below ((Below.refl _ _).alloc (Nat.le_refl _) _)
 have htp:TreeOf 32 B X wc [⟨t.name,t.attrs,[]⟩] none ([] ++ [(B,0)]):=by rw [hwc]; exact h6.below ((Below.refl _ _).alloc (Nat.le_refl _) _) h5.lt
 have hB9:Below B w wc:=by rw [hwc]; exact (below_set (below_set (below_set (below_set HB1.out B 0 _ (Nat.le_refl _)) B 1 _ (Nat.le_refl _)) B 2 _ (Nat.le_refl _)) B 3 _ (Nat.le_refl _)).alloc (by simp; omega) _
 have HV9:Hid (KeptX X w wc):=by show KeptX X w wc; rw [hwc]; exact HV1.out.trans (((((keptX_set _ B 0 _ HXB.out).trans (keptX_set _ B 1 _ HXB.out)).trans (keptX_set _ B 2 _ HXB.out)).trans (keptX_set _ B 3 _ HXB.out)).trans (KeptX.below ((Below.refl _ _).alloc (Nat.le_refl _) _)))
 clear hwc HV1 h5 h6 hyX b0 b1 b2 b3 bf0 bf1 bf2 bf3 a0 a1 a2 e4 el al hs1;have c4:=hcr.c4;have hlt9:=hcr.lt;have HTP:=Lib.hid htp;have HB9:=Lib.hid hB9;have hwB:Below wc.heap.size wc ((wc.alloc (.cells #[.pointer (some ⟨B,0,none⟩)] 133)).drew):=belowN ((Below.refl _ wc).alloc (Nat.le_refl _) _) 1;have HC4:=Lib.hid (hcr.below hwB);have HT4:=Lib.hid (HTP.out.below hwB hcr.lt);have HWB:=Lib.hid hwB;have HNP:Hid (((wc.alloc (.cells #[.pointer (some ⟨B,0,none⟩)] 133)).drew).cell? ⟨wc.heap.size,0,none⟩=some (.pointer (some ⟨B,0,none⟩))):=(Box.new wc [.pointer (some ⟨B,0,none⟩)] 133 _ rfl).cell 0 _ rfl;have HPL:Hid (([]:List (Nat × Nat)).length≤1000000):=by show _≤_; simp
 have HPQ:Hid (([]:List (Nat × Nat)).length=0):=by show _=_; simp
 have HBS:Hid (B+1≤((wc.alloc (.cells #[.pointer (some ⟨B,0,none⟩)] 133)).drew).heap.size):=by show _≤_; simp; omega
 have HSZ:Hid (((wc.alloc (.cells #[.pointer (some ⟨B,0,none⟩)] 133)).drew).heap.size=wc.heap.size+1):=by show _=_; simp
 have HB4:Hid (∀ w9:World,((wc.alloc (.cells #[.pointer (some ⟨B,0,none⟩)] 133)).drew).grownBy w9 (Value.slice ao 0 cap).ownBlock→w9.cell? ⟨B,4,none⟩=some (.slice ao 0 cap)∧w9.frozen? ⟨B,4,none⟩=false∧B<w9.heap.size):=by
  intro w9 hg;have hbk:w9.heap[B]? = ((wc.alloc (.cells #[.pointer (some ⟨B,0,none⟩)] 133)).drew).heap[B]?:=hg.block B HC4.out.lt (fun e=>by have:=(HC4.out.opn.rowOf e.symm).1; omega);exact ⟨(World.cell?_of_block (by exact hbk)).trans HC4.out.c4,(World.frozen?_of_block (by exact hbk)).trans (HC4.out.f 4),Nat.lt_of_lt_of_le HC4.out.lt hg.size⟩
 have HBG:Hid (∀ w9:World,((wc.alloc (.cells #[.pointer (some ⟨B,0,none⟩)] 133)).drew).grownBy w9 (Value.slice ao 0 cap).ownBlock→Below B w w9):=by
  intro w9 hg;have h1:Below B w ((wc.alloc (.cells #[.pointer (some ⟨B,0,none⟩)] 133)).drew):=HB9.out.trans (HWB.out.mono (Nat.le_of_lt hlt9));exact ⟨hg.os.trans h1.os,hg.tape.trans h1.tape,hg.output.trans h1.output,Nat.le_trans h1.size hg.size,fun k hk=>(hg.block k (Nat.lt_trans hk HC4.out.lt) (fun e=>by have:=(HC4.out.opn.rowOf e.symm).1; omega)).trans (h1.block k hk)⟩
 have HVG:Hid (∀ w9:World,((wc.alloc (.cells #[.pointer (some ⟨B,0,none⟩)] 133)).drew).grownBy w9 (Value.slice ao 0 cap).ownBlock→KeptX X w w9):=fun w9 hg=>HV9.out.trans ((KeptX.below HWB.out).trans (KeptX.grown hg HXO.out));clear hcr htp hB9 hwB HC1 HB1;go_wp2
 go_region_law (first | (refine step_append_open rfl (.tmp 43) (.tmp 47) rfl (.slice ao 0 cap) ([]:List (Nat × Nat)) (by simp [Act.eval]) HC4.out.opn wc.heap.size (B,0) (by simp [Act.eval]) HNP.out HPL.out HBS.out (wc.heap.size+1) HSZ.out ?_; intro g9 cap9 w9 hown9 hgrow9 hat9; obtain ⟨z1,z2,z3⟩:=HB4.out w9 hgrow9; rw [HPQ.out] at hown9; have ho9:=Lib.hid hown9; have hg9:=Lib.hid hgrow9; have ha9:=Lib.hid hat9; rw [HPQ.out]; clear hown9 hgrow9 hat9))
 all_goals
  have hp:=Core.point node_ptr HC4.out HT4.out ho9.out hg9.out (ha9.out.imp (fun e=>e.symm) (fun e k hk=>by cases hk; rw [HSZ.out]; exact e));have hbw:=HBG.out w9 hg9.out;have hvw:=HVG.out w9 hg9.out;have hvw2:=hvw.trans (keptX_set w9 B 4 (.slice (some ⟨g9,0,none⟩) (0+1) cap9) HXB.out);have hbw2:=below_set hbw B 4 (.slice (some ⟨g9,0,none⟩) (0+1) cap9) (Nat.le_refl _);clear z1 z2 z3 ho9 hg9 ha9 hbw hvw;generalize w9.setCell ⟨B,4,none⟩ (.slice (some ⟨g9,0,none⟩) (0+1) cap9)=W10 at *;have c7:=hp.c7;have f7:=hp.f 7;have lt10:=hp.lt;have HP10:=Lib.hid hp;have HBW:=Lib.hid hbw2;have HVW:=Lib.hid hvw2;clear hp hbw2 hvw2;go_wp2
  go_ret
  refine ⟨⟨rfl,⟨_,_,_,HP10.out.set7 (.bool false),by simp,fun f' hf'=>?_,?_,?_⟩,below_set HBW.out B 7 _ (Nat.le_refl _)⟩,HVW.out.trans (keptX_set _ B 7 _ HXB.out)⟩
  · rcases List.mem_cons.1 hf' with rfl | hf'
    · simp
    · have:=H.out.kd f' hf'; omega
  · show c+1≤n+1
    omega
  · simp
end Go.Proofs.YtecffghcpknmjaaGreatDoor
namespace Go.Proofs.YtecffghcpknmjaaGreatDoor
open Go Go.RowKit
variable {lo:Nat}
theorem bs_beq2 (a b:Bs):((bs a:S).toList == (bs b:S).toList)=decide (a=b):=by
 rw [ByteArray.toList_eq,ByteArray.toList_eq,bs_data,bs_data,Bool.eq_iff_iff,beq_iff_eq,decide_eq_true_iff]
theorem begin_any (w:World) (B n:Nat) (st:BSt) (X:Nat→Prop) (ov:Value) (ps:List (Nat × Nat)) (h:BOf lo w B st n X ov ps) (t:Tk) (av:Value) (p q r:Int) (hat:AttB lo B w av t.attrs) (hn:n≤1000000) :
    Calls Tryz.prog 56 #[.pointer (some ⟨B,0,none⟩),tokV t av p q r] w (BeginOut lo X w B (n+1) (beginB st t)):=by
 cases hr:st.root.isSome with
 | true=>exact begin_done w B n st X ov ps h t av p q r hr
 | false =>
  by_cases hd:64≤st.stack.length
  · exact begin_deep w B n st X ov ps h t av p q r hr hd
  · by_cases hc:4096<st.count+1
    · exact begin_full w B n st X ov ps h t av p q r hr hd hc hn
    · obtain ⟨stack,r0,c,tx⟩:=st
      cases stack with
      | nil=>exact begin_root w B n r0 c tx X ov ps h t av p q r hat hr hc
      | cons f fs=>exact begin_in w B n f fs r0 c tx X ov ps h t av p q r hat hr hd hc hn
theorem StepOut.back {w W:World} {B n:Nat} {R:StR} {e:Ending} {w':World} (hg:w.grownBy W (some B)) (hb:Below B w W) (h:StepOut lo W B n R e w'):StepOut lo w B n R e w':=by
 cases R with
 | ok st=>exact ⟨h.1,h.2.1,hb.trans h.2.2⟩
 | bad x=>exact ⟨h.1,hg.trans h.2.1,hb.trans h.2.2⟩
theorem BOf.close {w w':World} {B n:Nat} {f:Fr} {fs:List Fr} {r:Option Tr} {c:Nat} {tx:Bool} {X X':Nat→Prop} {ov ov':Value} {ps ps':List (Nat × Nat)} (h:BOf lo w B ⟨f::fs,r,c,tx⟩ n X ov ps)
    (hc:Core 32 133 lo w' B (closeB f fs none 0).stack (closeB f fs none 0).root X' ov' ps' (.int .i64 c) (.bool (closeB f fs none 0).root.isSome) (.bool false)):BOf lo w' B (closeB f fs r c) (n+1) X' ov' ps':=by
 obtain ⟨b,o,L,av,ao,cap,qs,rfl,-⟩:=h.core.data;have hcn:c≤n:=h.cn;have hsn:=h.sn;simp only [List.length_cons] at hsn;cases fs with
 | nil=>exact ⟨hc,by simp [closeB],by simp [closeB],by simp only [closeB]; omega,by simp [closeB]⟩
 | cons g fs =>
  refine ⟨hc,by simp [closeB],fun f' hf'=>?_,by simp only [closeB]; omega,?_⟩
  · simp only [closeB] at hf'
    rcases List.mem_cons.1 hf' with rfl | hf'
    · have:=h.kd g (by simp)
      simp [Fr.add]; omega
    · have:=h.kd f' (by simp [hf']); omega
  · simp only [closeB,List.length_cons] at hsn ⊢; omega
theorem closing {w:World} {B n:Nat} {f:Fr} {fs:List Fr} {r:Option Tr} {c:Nat} {tx:Bool} {X:Nat→Prop} {ov:Value} {ps:List (Nat × Nat)} (h:BOf lo w B ⟨f::fs,r,c,tx⟩ n X ov ps) :
    Calls Tryz.prog 57 #[.pointer (some ⟨B,0,none⟩)] w fun e w'=>e = .returned (.tuple #[])∧(∃ X' ov' ps',BOf lo w' B (closeB f fs r c) (n+1) X' ov' ps')∧Below B w w':=by
 have hc:=h.core;obtain ⟨b,o,L,av,ao,cap,qs,hr,-⟩:=h.core.data;simp only at hr;subst hr;refine (end_any hc).mono ?_
 rintro e w' ⟨rfl,X',ov',ps',h1,h2⟩;exact ⟨rfl,⟨X',ov',ps',h.close h1⟩,h2⟩
theorem beginB_bad {st:BSt} {t:Tk} {x:Int} (h:beginB st t = .bad x):x=16∨x=2:=by
 unfold beginB at h;split at h
 · cases h; exact .inl rfl
 · split at h
   · cases h; exact .inr rfl
   · split at h
     · cases h; exact .inr rfl
     · cases h
theorem beginB_ok {st st':BSt} {t:Tk} (h:beginB st t = .ok st'):st'=⟨⟨t.name,t.attrs,[]⟩::st.stack,st.root,st.count+1,false⟩:=by
 unfold beginB at h;split at h
 · cases h
 · split at h
   · cases h
   · split at h
     · cases h
     · cases h; rfl
set_option maxRecDepth 100000 in
set_option maxHeartbeats 8000000 in
theorem token_text (w:World) (B n:Nat) (st:BSt) (X:Nat→Prop) (ov:Value) (ps:List (Nat × Nat)) (h:BOf lo w B st n X ov ps) (nm:Bs) (ats:List At2) (tx:Bs) (av:Value) (p q r:Int) (hat:AttB lo B w av ats) (hs:tx.length≤2000000) (hn:n≤1000000) :
    Calls Tryz.prog 27 #[.pointer (some ⟨B,0,none⟩),tokV ⟨4,nm,ats,tx⟩ av p q r] w (StepOut lo w B (n+1) (stepB st ⟨4,nm,ats,tx⟩)):=by
 have hl:stepB st ⟨4,nm,ats,tx⟩=lettersB st tx:=by unfold stepB; rw [if_pos rfl]
 rw [hl];have hlt:=h.core.lt;obtain ⟨ao3,cap3,rfl⟩:=hat.shape;have HL:=Lib.hid fun o=>lettersB_any (w.alloc o) B n st X ov ps tx (h.below ((Below.refl _ w).alloc (Nat.le_refl _) o)) hs hn;clear h hat hl;unfold tokV;go_enter Tryz.func27,Tryz.ntmps27
 go_wp2_with fail
 refine (HL.out _).mono ?_
 intro e w1 hO;replace hO:=StepOut.back (World.grownBy_alloc _ _ _) ((Below.refl B w).alloc (Nat.le_of_lt hlt) _) hO;have HO:=Lib.hid hO;cases hR:lettersB st tx with
 | ok st' =>
  rw [hR] at hO HO;obtain ⟨rfl,-⟩:=hO;go_wp2
  go_ret
  rw [hR];exact HO.out
 | bad x =>
  rw [hR] at hO HO;obtain ⟨rfl,-⟩:=hO;go_wp2
  go_ret
  rw [hR];exact HO.out
set_option maxRecDepth 100000 in
set_option maxHeartbeats 8000000 in
theorem token_other (w:World) (B n:Nat) (st:BSt) (X:Nat→Prop) (ov:Value) (ps:List (Nat × Nat)) (h:BOf lo w B st n X ov ps) (k:Int) (hk:k=5∨k=6) (nm:Bs) (ats:List At2) (tx:Bs) (av:Value) (p q r:Int) (hat:AttB lo B w av ats) :
    Calls Tryz.prog 27 #[.pointer (some ⟨B,0,none⟩),tokV ⟨k,nm,ats,tx⟩ av p q r] w (StepOut lo w B (n+1) (stepB st ⟨k,nm,ats,tx⟩)):=by
 have hl:stepB st ⟨k,nm,ats,tx⟩ = .ok st:=by
  unfold stepB;rcases hk with rfl | rfl <;> rfl
 rw [hl];have hlt:=h.core.lt;obtain ⟨ao3,cap3,rfl⟩:=hat.shape;have HL:=Lib.hid fun o=>(h.below ((Below.refl _ w).alloc (Nat.le_refl _) o)).mono (Nat.le_succ n);clear h hat hl;unfold tokV;rcases hk with rfl | rfl
 all_goals
  go_enter Tryz.func27,Tryz.ntmps27
  go_wp2
  go_ret
  exact ⟨rfl,⟨X,ov,ps,HL.out _⟩,(Below.refl B w).alloc (Nat.le_of_lt hlt) _⟩
set_option maxRecDepth 100000 in
set_option maxHeartbeats 8000000 in
theorem token_open (w:World) (B n:Nat) (st:BSt) (X:Nat→Prop) (ov:Value) (ps:List (Nat × Nat)) (h:BOf lo w B st n X ov ps) (nm:Bs) (ats:List At2) (tx:Bs) (av:Value) (p q r:Int) (hat:AttB lo B w av ats) (hn:n≤1000000) :
    Calls Tryz.prog 27 #[.pointer (some ⟨B,0,none⟩),tokV ⟨1,nm,ats,tx⟩ av p q r] w (StepOut lo w B (n+1) (stepB st ⟨1,nm,ats,tx⟩)):=by
 have hl:stepB st ⟨1,nm,ats,tx⟩=beginB st ⟨1,nm,ats,tx⟩:=by
  unfold stepB;rw [if_neg (by show ¬ (1:Int)=4; decide)];exact if_pos rfl
 rw [hl];have hlt:=h.core.lt;have hnx : ¬ X w.heap.size:=fun e=>by have:=h.core.xsize _ e; omega
 obtain ⟨ao3,cap3,rfl⟩:=hat.shape;have HL:=Lib.hid fun o=>begin_any (w.alloc o) B n st X ov ps (h.below ((Below.refl _ w).alloc (Nat.le_refl _) o)) ⟨1,nm,ats,tx⟩ (.slice ao3 ats.length cap3) p q r (hat.below ((Below.refl B w).alloc (Nat.le_of_lt hlt) o)) hn;have hbad : ∀ x,beginB st ⟨1,nm,ats,tx⟩ = .bad x→(x == 0)=false:=fun x hx=>by rcases beginB_bad hx with rfl | rfl <;> rfl
 have HNX:=Lib.hid hnx;clear h hat hl hnx;unfold tokV at HL ⊢;go_enter Tryz.func27,Tryz.ntmps27
 go_wp2_with fail
 refine (HL.out _).mono ?_
 intro e w1 hO;have x0:=Box.new w [.int .i64 1,.string (bs nm),.slice ao3 ats.length cap3,.string (bs tx),.int .i64 p,.int .i64 q,.int .i64 r] 68 _ rfl;have HX:=Lib.hid x0;have HB0:Hid (Below B w (w.alloc (.cells #[.int .i64 1,.string (bs nm),.slice ao3 ats.length cap3,.string (bs tx),.int .i64 p,.int .i64 q,.int .i64 r] 68))):=(Below.refl B w).alloc (Nat.le_of_lt hlt) _;clear x0;cases hR:beginB st ⟨1,nm,ats,tx⟩ with
 | ok st' =>
  rw [hR] at hO;obtain ⟨⟨rfl,⟨X',ov',ps',hB'⟩,hb⟩,hk⟩:=hO;have k0:=(hk.cell w.heap.size 0 HX.out.lt HNX.out).trans (HX.out.cell 0 _ rfl);have kl:=Nat.lt_of_lt_of_le HX.out.lt hk.size;have HBB:=Lib.hid (HB0.out.trans hb);have HBO:=Lib.hid hB';clear hb hk hB';go_wp2
  go_ret
  rw [hR];exact ⟨rfl,⟨X',ov',ps',HBO.out⟩,HBB.out⟩
 | bad x =>
  have hx:=hbad x hR;rw [hR] at hO;obtain ⟨rfl,hg,hb⟩:=hO;go_wp2
  go_ret
  rw [hR];exact ⟨rfl,(World.grownBy_alloc _ _ _).trans hg,HB0.out.trans hb⟩
set_option maxRecDepth 100000 in
set_option maxHeartbeats 8000000 in
theorem token_empty (w:World) (B n:Nat) (st:BSt) (X:Nat→Prop) (ov:Value) (ps:List (Nat × Nat)) (h:BOf lo w B st n X ov ps) (nm:Bs) (ats:List At2) (tx:Bs) (av:Value) (p q r:Int) (hat:AttB lo B w av ats) (hn:n≤1000000) :
    Calls Tryz.prog 27 #[.pointer (some ⟨B,0,none⟩),tokV ⟨2,nm,ats,tx⟩ av p q r] w (StepOut lo w B (n+2) (stepB st ⟨2,nm,ats,tx⟩)):=by
 have hl:stepB st ⟨2,nm,ats,tx⟩=(beginB st ⟨2,nm,ats,tx⟩).close:=by
  unfold stepB;rw [if_neg (by show ¬ (2:Int)=4; decide),if_neg (by show ¬ (2:Int)=1; decide)];exact if_pos rfl
 rw [hl];have hlt:=h.core.lt;have hnx : ¬ X w.heap.size:=fun e=>by have:=h.core.xsize _ e; omega
 obtain ⟨ao3,cap3,rfl⟩:=hat.shape;have HL:=Lib.hid fun o=>begin_any (w.alloc o) B n st X ov ps (h.below ((Below.refl _ w).alloc (Nat.le_refl _) o)) ⟨2,nm,ats,tx⟩ (.slice ao3 ats.length cap3) p q r (hat.below ((Below.refl B w).alloc (Nat.le_of_lt hlt) o)) hn;have hbad : ∀ x,beginB st ⟨2,nm,ats,tx⟩ = .bad x→(x == 0)=false:=fun x hx=>by rcases beginB_bad hx with rfl | rfl <;> rfl
 have HNX:=Lib.hid hnx;clear h hat hl hnx;unfold tokV at HL ⊢;go_enter Tryz.func27,Tryz.ntmps27
 go_wp2_with fail
 refine (HL.out _).mono ?_
 intro e w1 hO;have x0:=Box.new w [.int .i64 2,.string (bs nm),.slice ao3 ats.length cap3,.string (bs tx),.int .i64 p,.int .i64 q,.int .i64 r] 68 _ rfl;have HX:=Lib.hid x0;have HB0:Hid (Below B w (w.alloc (.cells #[.int .i64 2,.string (bs nm),.slice ao3 ats.length cap3,.string (bs tx),.int .i64 p,.int .i64 q,.int .i64 r] 68))):=(Below.refl B w).alloc (Nat.le_of_lt hlt) _;clear x0;cases hR:beginB st ⟨2,nm,ats,tx⟩ with
 | ok st' =>
  rw [hR] at hO;obtain ⟨⟨rfl,⟨X',ov',ps',hB'⟩,hb⟩,hk⟩:=hO;have k0:=(hk.cell w.heap.size 0 HX.out.lt HNX.out).trans (HX.out.cell 0 _ rfl);have kl:=Nat.lt_of_lt_of_le HX.out.lt hk.size;have HBB:=Lib.hid (HB0.out.trans hb);have HBO:=Lib.hid hB';clear hb hk hB';have hst:=beginB_ok hR;subst hst;have HCL:=Lib.hid (closing HBO.out);go_wp2_with fail
  refine HCL.out.mono ?_
  rintro e w2 ⟨rfl,hB2,hb2⟩;go_wp2
  go_ret
  rw [hR];exact ⟨rfl,hB2,HBB.out.trans hb2⟩
 | bad x =>
  have hx:=hbad x hR;rw [hR] at hO;obtain ⟨rfl,hg,hb⟩:=hO;go_wp2
  go_ret
  rw [hR];exact ⟨rfl,(World.grownBy_alloc _ _ _).trans hg,HB0.out.trans hb⟩
set_option maxRecDepth 100000 in
set_option maxHeartbeats 8000000 in
theorem token_close (w:World) (B n:Nat) (st:BSt) (X:Nat→Prop) (ov:Value) (ps:List (Nat × Nat)) (h:BOf lo w B st n X ov ps) (nm:Bs) (ats:List At2) (tx:Bs) (av:Value) (p q r:Int) (hat:AttB lo B w av ats) :
    Calls Tryz.prog 27 #[.pointer (some ⟨B,0,none⟩),tokV ⟨3,nm,ats,tx⟩ av p q r] w (StepOut lo w B (n+1) (stepB st ⟨3,nm,ats,tx⟩)):=by
 have hl:stepB st ⟨3,nm,ats,tx⟩=endB st ⟨3,nm,ats,tx⟩:=by
  unfold stepB;rw [if_neg (by show ¬ (3:Int)=4; decide),if_neg (by show ¬ (3:Int)=1; decide),if_neg (by show ¬ (3:Int)=2; decide)];exact if_pos rfl
 rw [hl];have hlt:=h.core.lt;obtain ⟨ao3,cap3,rfl⟩:=hat.shape;have H:=Lib.hid fun o=>h.below ((Below.refl _ w).alloc (Nat.le_refl _) o);obtain ⟨stack,r0,c,tx0⟩:=st;obtain ⟨ao,cap,hov⟩:=h.shape;have c4:=h.core.c4;rw [hov] at c4;cases stack with
 | nil =>
  simp only [List.length_nil] at c4;clear h hat hl hov;unfold tokV;go_enter Tryz.func27,Tryz.ntmps27
  go_wp2
  go_ret
  exact ⟨rfl,World.grownBy_alloc _ _ _,(Below.refl B w).alloc (Nat.le_of_lt hlt) _⟩
 | cons f fs =>
  simp only [List.length_cons] at c4;have hn1:((fs.length+1:Nat):Int)≠0:=by omega
  obtain ⟨b,o,L,av0,ao0,cap0,qs,hr0,hps,-,-,hbl,-,-,n0,-⟩:=h.core.data;simp only at hr0;subst hr0 hps;have hbw:=h.core.lt;clear h hat hl hov;unfold tokV;go_enter Tryz.func27,Tryz.ntmps27
  go_wp2
  refine wp_world ?_
  intro W hW;have hB:=H.out (.cells #[.int .i64 3,.string (bs nm),.slice ao3 ats.length cap3,.string (bs tx),.int .i64 p,.int .i64 q,.int .i64 r] 68);have HG0:Hid (w.grownBy W (some B)):=by show w.grownBy W (some B); rw [hW]; exact World.grownBy_alloc _ _ _
  have HB0:Hid (Below B w W):=by show Below B w W; rw [hW]; exact (Below.refl B w).alloc (Nat.le_of_lt hlt) _
  have x0:=Box.new w [.int .i64 3,.string (bs nm),.slice ao3 ats.length cap3,.string (bs tx),.int .i64 p,.int .i64 q,.int .i64 r] 68 _ rfl;have hbl2:b<W.heap.size:=by rw [hW]; simp; omega
  have n02:W.cell? ⟨b,o,none⟩=some (.string (bs f.name)):=by rw [hW]; exact ((Below.refl w.heap.size w).alloc (Nat.le_refl _) _ |>.cell (by exact hbl)).trans n0
  rw [← hW] at hB x0;have k1:=x0.cell 1 _ rfl;have kl:=x0.lt;have HT:=Lib.hid fun k=>top_any (hB.drewN k).core;have HBO:=Lib.hid hB;clear hW hB x0 n0 hbl c4;have hE:((bs f.name:S).toList == (bs nm:S).toList)=decide (f.name=nm):=bs_beq2 _ _;by_cases hnm:f.name=nm
  · have hl:endB ⟨f::fs,none,c,tx0⟩ ⟨3,nm,ats,tx⟩ = .ok (closeB f fs none c):=by simp only [endB]; rw [if_pos hnm]
    have HL:=Lib.hid hl;rw [decide_eq_true hnm] at hE;clear hnm hl;go_quiet ((go_at_call 58; exact Qt.quiet (HT.out _)))
    have HCL:=Lib.hid (closing (HBO.out.drewN nq));have HBN:Hid (Below B w (W.drewN nq)):=belowN HB0.out nq;clear HT hE k1 kl hbl2 n02 HBO HB0;generalize W.drewN nq=W2 at *;go_wp2_with fail
    refine HCL.out.mono ?_
    rintro e w2 ⟨rfl,hB2,hb2⟩;go_wp2
    go_ret
    rw [HL.out];exact ⟨rfl,hB2,HBN.out.trans hb2⟩
  · have hl:endB ⟨f::fs,none,c,tx0⟩ ⟨3,nm,ats,tx⟩ = .bad 14:=by simp only [endB]; rw [if_neg hnm]
    have HL:=Lib.hid hl;rw [decide_eq_false hnm] at hE;clear hnm hl;go_quiet ((go_at_call 58; exact Qt.quiet (HT.out _)))
    have HBN:Hid (Below B w (W.drewN nq)):=belowN HB0.out nq;have HGN:Hid (w.grownBy (W.drewN nq) (some B)):=HG0.out.trans (grownN W nq _);clear HT hE k1 kl hbl2 n02 HBO HB0 HG0;generalize W.drewN nq=W2 at *;go_wp2
    go_ret
    rw [HL.out];exact ⟨rfl,HGN.out,HBN.out⟩
theorem tokenB_any (w:World) (B n:Nat) (st:BSt) (X:Nat→Prop) (ov:Value) (ps:List (Nat × Nat)) (h:BOf lo w B st n X ov ps) (t:Tk) (av:Value) (p q r:Int) (hat:AttB lo B w av t.attrs) (hk:t.kind=1∨t.kind=2∨t.kind=3∨t.kind=4∨t.kind=5∨t.kind=6) (hs:t.text.length≤2000000) (hn:n≤1000000) :
    Calls Tryz.prog 27 #[.pointer (some ⟨B,0,none⟩),tokV t av p q r] w (StepOut lo w B (n+2) (stepB st t)):=by
 have up : ∀ {R:StR} {e:Ending} {w':World},StepOut lo w B (n+1) R e w'→StepOut lo w B (n+2) R e w':=by
  intro R e w' h;cases R with
  | ok st'=>obtain ⟨h1,⟨X',ov',ps',h2⟩,h3⟩:=h; exact ⟨h1,⟨X',ov',ps',h2.mono (by omega)⟩,h3⟩
  | bad x=>exact h
 obtain ⟨k,nm,ats,tx⟩:=t;simp only at hk hs hat;rcases hk with rfl | rfl | rfl | rfl | rfl | rfl
 · exact (token_open w B n st X ov ps h nm ats tx av p q r hat hn).mono fun _ _=>up
 · exact token_empty w B n st X ov ps h nm ats tx av p q r hat hn
 · exact (token_close w B n st X ov ps h nm ats tx av p q r hat).mono fun _ _=>up
 · exact (token_text w B n st X ov ps h nm ats tx av p q r hat hs hn).mono fun _ _=>up
 · exact (token_other w B n st X ov ps h 5 (.inl rfl) nm ats tx av p q r hat).mono fun _ _=>up
 · exact (token_other w B n st X ov ps h 6 (.inr rfl) nm ats tx av p q r hat).mono fun _ _=>up
end Go.Proofs.YtecffghcpknmjaaGreatDoor
namespace Go.Proofs.YtecffghcpknmjaaGreatDoor
open Go Go.RowKit
structure Bld (R b:Nat) (cs:List Value) (w:World):Prop where
 ex : ∃ p v,(p = .pointer none∨p = .pointer (some ⟨b,0,none⟩))∧w.heap[b]? = some (.cells #[p,v] 74 (0,0))∧w.ownsRow R 5 1 v cs.length cs∧v.ownBlock≠some b
 room:R≤w.heap.size
structure Kept (R b:Nat) (w w':World):Prop where
 os:w'.os=w.os
 tape:w'.tape=w.tape
 output:w'.output=w.output
 size:w.heap.size≤w'.heap.size
 block : ∀ g,g<R→g≠b→w'.heap[g]? = w.heap[g]?
 typed : ∀ g C T f,g≠b→T≠5→w.heap[g]? = some (.cells C T f)→w'.heap[g]? = some (.cells C T f)
theorem Kept.refl (R b:Nat) (w:World):Kept R b w w:=⟨rfl,rfl,rfl,Nat.le_refl _,fun _ _ _=>rfl,fun _ _ _ _ _ _ h=>h⟩
theorem Kept.trans {R b:Nat} {w w' w'':World} (h:Kept R b w w') (h':Kept R b w' w''):Kept R b w w'' :=
 ⟨h'.os.trans h.os,h'.tape.trans h.tape,h'.output.trans h.output,Nat.le_trans h.size h'.size,fun g hg hb=>(h'.block g hg hb).trans (h.block g hg hb),fun g C T f hb hT hg=>h'.typed g C T f hb hT (h.typed g C T f hb hT hg)⟩
theorem Kept.of_below {R b:Nat} {w w':World} (h:Below w.heap.size w w') (hR:R≤w.heap.size):Kept R b w w' :=
 ⟨h.os,h.tape,h.output,h.size,fun g hg _=>h.block g (by omega),fun g C T f _ _ hg=>(h.block g (Array.getElem?_eq_some_iff.1 hg).1).trans hg⟩
theorem Kept.var {R b:Nat} {w w':World} (h:Kept R b w w') {g:Nat} {C:Array Value} {T:TypeId} {f:Nat × Nat} (hb:g≠b) (hT:T≠5) (hg:w.heap[g]? = some (.cells C T f)) (o:Nat):w'.cell? ⟨g,o,none⟩=w.cell? ⟨g,o,none⟩ :=
 World.cell?_of_block ((h.typed g C T f hb hT hg).trans hg.symm)
theorem Kept.below {R b B:Nat} {w w':World} (h:Kept R b w w') (hB:B≤R) (hb:B≤b):Below B w w':=⟨h.os,h.tape,h.output,h.size,fun g hg=>h.block g (by omega) (by omega)⟩
theorem Kept.cell {R b:Nat} {w w':World} (h:Kept R b w w') {g o:Nat} (hg:g<R) (hb:g≠b):w'.cell? ⟨g,o,none⟩=w.cell? ⟨g,o,none⟩:=World.cell?_of_block (h.block g hg hb)
theorem Kept.drewN {R b:Nat} {w w':World} (h:Kept R b w w') (n:Nat):Kept R b w (w'.drewN n):=⟨h.os,h.tape,h.output,h.size,h.block,h.typed⟩
theorem Bld.lt {R b:Nat} {cs:List Value} {w:World} (h:Bld R b cs w):b<w.heap.size:=by obtain ⟨p,v,h1,h2,-⟩:=h.ex; exact (Array.getElem?_eq_some_iff.1 h2).1
theorem Bld.isB {R b:Nat} {cs:List Value} {w:World} (h:Bld R b cs w) (B:Nat) (h1:B≤R) (h2:B≤b):Lib.IsBuilder 74 5 B b cs w:=by
 obtain ⟨p,v,hp,hb,ho,hn⟩:=h.ex
 have ho':w.ownsRow B 5 1 v cs.length cs:=by
  refine ⟨ho.1,?_⟩
  rcases ho.2 with h | ⟨g,cap,cur,e1,e2,e3⟩
  · exact .inl h
  · exact .inr ⟨g,cap,cur,e1,Nat.le_trans h1 e2,e3⟩
 rcases hp with rfl | rfl
 · exact .inl ⟨h2,v,hb,ho',hn⟩
 · exact .inr ⟨h2,v,hb,ho',hn⟩
theorem Bld.fresh (w w':World) (hb:Below (w.heap.size+1) (w.alloc (.cells #[.pointer none,.slice none 0 0] 74)) w'):Bld w'.heap.size w.heap.size [] w':=by
 refine ⟨⟨_,_,.inl rfl,(hb.block _ (Nat.lt_succ_self _)).trans (heap_alloc_new w _),World.ownsRow_nil _ _ _ _,by simp [Value.ownBlock]⟩,Nat.le_refl _⟩
theorem Bld.keep {R b:Nat} {cs:List Value} {w w':World} (h:Bld R b cs w) (hb:Below w.heap.size w w'):Bld R b cs w':=by
 have hlt:=h.lt;obtain ⟨p,v,h1,h2,h3,h4⟩:=h.ex;exact ⟨⟨p,v,h1,(hb.block b hlt).trans h2,World.ownsRow.kept h3 (row:=none) ⟨hb.os,hb.tape,hb.output,hb.size,fun k hk _=>hb.block k hk⟩ (by cases v.ownBlock <;> simp),h4⟩,Nat.le_trans h.room hb.size⟩
theorem heap_set_other (w:World) (b j k:Nat) (u:Value) (h:k≠b):(w.setCell ⟨b,j,none⟩ u).heap[k]? = w.heap[k]?:=Below.heap_setCell w ⟨b,j,none⟩ u k (fun e=>h (by simp [e]))
theorem put_bld {R b:Nat} {v v':Value} {cs:List Value} {w:World} (hown:w.ownsRow R 5 1 v' cs.length cs) (hb:w.heap[b]? = some (.cells #[.pointer (some ⟨b,0,none⟩),v] 74 (0,0))) :
    ∃ p u,(p = .pointer none∨p = .pointer (some ⟨b,0,none⟩))∧(w.setCell ⟨b,1,none⟩ v').heap[b]? = some (.cells #[p,u] 74 (0,0))∧(w.setCell ⟨b,1,none⟩ v').ownsRow R 5 1 u cs.length cs∧u.ownBlock≠some b:=by
 have hne:=Lib.ownBlock_ne hown hb (by decide);refine ⟨_,v',.inr rfl,?_,?_,hne⟩
 · simp [World.setCell,Array.getElem?_modify,hb]
 · exact hown.kept (row:=some b) ⟨rfl,rfl,rfl,by simp [World.setCell],fun k _ hk=>Below.heap_setCell _ _ _ _ (fun e=>hk (by simp [e]))⟩ (Or.inr hne)
structure Checked1 (R b:Nat) (cs:List Value) (w w':World):Prop where
 kept:Kept R b w w'
 at_ : ∃ v,w'.heap[b]? = some (.cells #[.pointer (some ⟨b,0,none⟩),v] 74 (0,0))∧w'.ownsRow R 5 1 v cs.length cs∧v.ownBlock≠some b
theorem copyCheck_bld (R b:Nat) (cs:List Value) (w:World) (h:Bld R b cs w) :
    Calls Tryz.prog 61 #[.pointer (some ⟨b,0,none⟩)] w fun e w'=>e = .returned (.tuple #[])∧Checked1 R b cs w w':=by
 obtain ⟨p,v,h1,h2,h3,h4⟩:=h.ex;have hB0:=h.isB 0 (Nat.zero_le _) (Nat.zero_le _);rcases h1 with rfl | rfl
 · have h30:w.ownsRow 0 5 1 v cs.length cs:=by
    refine ⟨h3.1,?_⟩
    rcases h3.2 with h | ⟨g,cap,cur,e1,e2,e3⟩
    · exact .inl h
    · exact .inr ⟨g,cap,cur,e1,Nat.zero_le _,e3⟩
   have hB:Lib.BuilderAt 74 5 0 b (.pointer none) cs w:=⟨Nat.zero_le _,v,h2,h30,h4⟩;refine (copyCheck_fresh b w hB.cell0 hB.shape hB.frozen0).mono ?_
   rintro e w' ⟨rfl,rfl⟩;have hu:=hB.used (.pointer (some ⟨b,0,none⟩));obtain ⟨-,v',g1,g2,g3⟩:=hu
   have hv:v'=v:=by
    have e1:(w.setCell ⟨b,0,none⟩ (.pointer (some ⟨b,0,none⟩))).cell? ⟨b,1,none⟩=some v':=by rw [Lib.cell_of_heap g1]; rfl
    rw [World.cell?_setCell_other _ _ _ _ (by simp)] at e1;have e2:w.cell? ⟨b,1,none⟩=some v:=by rw [Lib.cell_of_heap h2]; rfl
    rw [e2] at e1;cases e1; rfl
   subst hv;refine ⟨rfl,⟨rfl,rfl,rfl,by simp [World.setCell],fun g _ hg=>heap_set_other w b 0 g _ hg,fun g C T f hb _ hg=>(heap_set_other w b 0 g _ hb).trans hg⟩,v',g1,?_,h4⟩
   refine World.ownsRow.kept h3 (setCell_grown w b 0 _) ?_
   cases hv:v'.ownBlock with
   | none=>exact .inl rfl
   | some k=>right; rw [← hv]; exact h4
 · have hB:Lib.BuilderAt 74 5 0 b (.pointer (some ⟨b,0,none⟩)) cs w:=by
    rcases hB0 with h | h
    · exfalso
      have e1:=h.cell0;rw [Lib.cell_of_heap h2] at e1;simp at e1
    · exact h
   refine (copyCheck_used b w hB.cell0).mono ?_
   rintro e w' ⟨rfl,rfl⟩;exact ⟨rfl,Kept.refl _ _ _,v,h2,h3,h4⟩
set_option maxHeartbeats 2000000 in
set_option maxRecDepth 100000 in
theorem writeString_bld (R b:Nat) (cs:List Value) (s:ByteArray) (w:World) (h:Bld R b cs w) (hlen:cs.length+s.size≤140737488355328) :
    Calls Tryz.prog 30 #[.pointer (some ⟨b,0,none⟩),.string s] w fun e w'=>e = .returned (.tuple #[.int .i64 s.size,.nilIface])∧(Bld R b (cs ++ Lib.strCells s) w'∧Kept R b w w'):=by
 obtain ⟨i0,hi,hz0,hz1,hz2⟩:=info_parts info_byte;have hroom:=h.room;go_enter Tryz.func30,Tryz.ntmps30
 go_wp2_with (go_at_call 61; refine (copyCheck_bld R b cs _ h).mono ?_)
 rintro e w1 ⟨rfl,hk1,v,hbk,hown,hne⟩;have c0:w1.cell? ⟨b,0,none⟩=some (.pointer (some ⟨b,0,none⟩)):=by rw [Lib.cell_of_heap hbk]; rfl
 have c1:w1.cell? ⟨b,1,none⟩=some v:=by rw [Lib.cell_of_heap hbk]; rfl
 go_wp2_with (at_builtin; refine Lib.wpList_append_own_string _ rfl _ _ 72 9 rfl R 5 i0 Tryz.underlying72 Tryz.underlying9 hi hz0 hz1 hz2 _ _ _ rfl hown s rfl ?c3 ?c4 ?c5 ?_)
 case c3=>unfold maxLen; omega
 case c4=>omega
 case c5=>have:=hk1.size; omega
 intro v' w2 hown' hgrow _
 have hlt:b<w1.heap.size:=by
  rcases Nat.lt_or_ge b w1.heap.size with h' | h'
  · exact h'
  · simp [Array.getElem?_eq_none h'] at hbk
 have hb2:w2.heap[b]? = some (.cells #[.pointer (some ⟨b,0,none⟩),v] 74 (0,0)):=by
  rw [hgrow.block b hlt (fun e=>hne e.symm)];exact hbk
 have d0:w2.cell? ⟨b,0,none⟩=some (.pointer (some ⟨b,0,none⟩)):=by rw [Lib.cell_of_heap hb2]; rfl
 have d1:w2.cell? ⟨b,1,none⟩=some v:=by rw [Lib.cell_of_heap hb2]; rfl
 have f1:w2.frozen? ⟨b,1,none⟩=false:=Lib.frozen_of_heap hb2 1
 obtain ⟨ao,n',cap,rfl⟩ : ∃ ao n' cap,v' = .slice ao n' cap:=by
  rcases hown'.2 with ⟨hv,_⟩ | ⟨g,cap,cur,hv,_⟩
  · exact ⟨_,_,_,hv⟩
  · exact ⟨_,_,_,hv⟩
 go_wp2
 go_ret2
 have hk2:Kept R b w1 w2:=⟨hgrow.os,hgrow.tape,hgrow.output,hgrow.size,fun g hg hgb=>hgrow.block g (by have:=hk1.size; omega) (fun e=>by have:=(hown.lt g e.symm).1; omega),fun g C T f _ hT hg=>(hgrow.block g (Array.getElem?_eq_some_iff.1 hg).1 (fun e=>(Lib.ownBlock_ne hown hg hT) e.symm)).trans hg⟩;have hk3:Kept R b w2 (w2.setCell ⟨b,1,none⟩ (.slice ao n' cap)):=⟨rfl,rfl,rfl,by simp [World.setCell],fun g _ hg=>heap_set_other w2 b 1 g _ hg,fun g C T f hb _ hg=>(heap_set_other w2 b 1 g _ hb).trans hg⟩;have hks:=(hk1.trans hk2).trans hk3;have hown2:w2.ownsRow R 5 1 (.slice ao n' cap) (cs ++ Lib.strCells s).length (cs ++ Lib.strCells s):=by simpa [Lib.strCells_length] using hown'
 exact ⟨rfl,⟨put_bld hown2 hb2,Nat.le_trans hroom hks.size⟩,hks⟩
set_option maxHeartbeats 2000000 in
set_option maxRecDepth 100000 in
theorem writeByte_bld (R b:Nat) (cs:List Value) (c:Int) (w:World) (h:Bld R b cs w) (hlen:cs.length+1≤140737488355328) :
    Calls Tryz.prog 62 #[.pointer (some ⟨b,0,none⟩),.int .u8 c] w fun e w'=>e = .returned .nilIface∧(Bld R b (cs ++ [.int .u8 c]) w'∧Kept R b w w'):=by
 obtain ⟨i0,hi,hz0,hz1,hz2⟩:=info_parts info_byte;have hroom:=h.room;go_enter Tryz.func62,Tryz.ntmps62
 go_wp2_with (go_at_call 61; refine (copyCheck_bld R b cs _ h).mono ?_)
 rintro e w1 ⟨rfl,hk1,v,hbk,hown,hne⟩;have c0:w1.cell? ⟨b,0,none⟩=some (.pointer (some ⟨b,0,none⟩)):=by rw [Lib.cell_of_heap hbk]; rfl
 have c1:w1.cell? ⟨b,1,none⟩=some v:=by rw [Lib.cell_of_heap hbk]; rfl
 go_wp2_with (at_builtin; refine wpList_append_own _ rfl _ _ 72 rfl R 5 i0 (.int .u8 0) 1 1 Tryz.underlying72 hi hz0 hz1 hz2 rfl (by decide) _ _ _ rfl (hown.alloc _) ⟨w1.heap.size,0,none⟩ 1 1 [.int .u8 c] rfl rfl ?c1 ?c2 ?c3 ?c4 ?c5 ?_)
 case c1 =>
  intro j u hj;match j,hj with
  | 0,hj=>simp at hj; subst hj; simp [Addr.add]
 case c2=>intro u hu; simp at hu; subst hu; rfl
 case c3=>unfold maxLen; omega
 case c4=>omega
 case c5=>have:=hk1.size; simp; omega
 intro v' w2 hown' hgrow _
 have hlt:b<w1.heap.size:=by
  rcases Nat.lt_or_ge b w1.heap.size with h' | h'
  · exact h'
  · simp [Array.getElem?_eq_none h'] at hbk
 have hb2:w2.heap[b]? = some (.cells #[.pointer (some ⟨b,0,none⟩),v] 74 (0,0)):=by
  rw [hgrow.block b (by simp; omega) (fun e=>hne e.symm),Lib.alloc_old w1 _ b hlt];exact hbk
 have d0:w2.cell? ⟨b,0,none⟩=some (.pointer (some ⟨b,0,none⟩)):=by rw [Lib.cell_of_heap hb2]; rfl
 have d1:w2.cell? ⟨b,1,none⟩=some v:=by rw [Lib.cell_of_heap hb2]; rfl
 have f1:w2.frozen? ⟨b,1,none⟩=false:=Lib.frozen_of_heap hb2 1
 obtain ⟨g,cap,rfl⟩ : ∃ g cap,v' = .slice (some ⟨g,0,none⟩) (cs.length+1) cap:=by
  rcases hown'.2 with ⟨_,h0⟩ | ⟨g,cap,cur,hv,_⟩
  · omega
  · exact ⟨g,cap,hv⟩
 go_wp2
 go_ret
 have hk0:Kept R b w1 (w1.alloc (.cells #[.int .u8 c] 5)):=Kept.of_below ((Below.refl _ _).alloc (Nat.le_refl _) _) (by have:=hk1.size; omega);have hk2:Kept R b (w1.alloc (.cells #[.int .u8 c] 5)) w2:=⟨hgrow.os,hgrow.tape,hgrow.output,hgrow.size,fun g hg hgb=>hgrow.block g (by have:=hk1.size; simp; omega) (fun e=>by have:=(hown.lt g e.symm).1; omega),fun g C T f _ hT hg=>(hgrow.block g (Array.getElem?_eq_some_iff.1 hg).1 (fun e=>(Lib.ownBlock_ne (hown.alloc _) hg hT) e.symm)).trans hg⟩;have hk3:Kept R b w2 (w2.setCell ⟨b,1,none⟩ (.slice (some ⟨g,0,none⟩) (cs.length+1) cap)):=⟨rfl,rfl,rfl,by simp [World.setCell],fun g _ hg=>heap_set_other w2 b 1 g _ hg,fun g C T f hb _ hg=>(heap_set_other w2 b 1 g _ hb).trans hg⟩;have hks:=((hk1.trans hk0).trans hk2).trans hk3;have hown2:w2.ownsRow R 5 1 (.slice (some ⟨g,0,none⟩) (cs.length+1) cap) (cs ++ [Value.int .u8 c]).length (cs ++ [.int .u8 c]):=by simpa using hown'
 exact ⟨rfl,⟨put_bld hown2 hb2,Nat.le_trans hroom hks.size⟩,hks⟩
theorem plain_less {til l s r:Bs} (h:plain til l = .ok s r):r.length+til.length≤l.length:=by
 induction l generalizing s with
 | nil =>
  simp only [plain] at h;split at h
  · rename_i h1
    have:=(List.isPrefixOf_iff_prefix.1 h1).length_le
    cases h; simpa using this
  · cases h
 | cons c l ih =>
  simp only [plain] at h;split at h
  · rename_i h1
    have:=(List.isPrefixOf_iff_prefix.1 h1).length_le
    cases h; rw [List.length_drop]; omega
  · split at h
    · cases hp:plain til l with
      | bad e r'=>rw [hp] at h; cases h
      | ok s' r'=>rw [hp] at h; cases h; have:=ih hp; simp only [List.length_cons]; omega
    · cases h
theorem suf_of_ok {α:Type} {x:Res α} {l:Bs} {a:α} {r:Bs} (hs:x.Suf l) (h:x = .ok a r):r <:+ l:=by rw [h] at hs; exact hs
theorem letters_less {stop c:UInt8} {l s r:Bs} (h:letters stop (c::l) = .ok s r) (hc:c≠stop):r.length≤l.length:=by
 simp only [letters,lettersGo] at h;rw [if_neg hc] at h;split at h
 · cases hr:refSpec (c::l) with
   | bad e=>rw [hr] at h; cases h
   | ok t n =>
    rw [hr] at h;cases hg:lettersGo stop (n - 1) l with
    | bad e r'=>simp only [hg,Res.map] at h; cases h
    | ok s' r'=>simp only [hg,Res.map] at h; cases h; exact List.IsSuffix.length_le (suf_of_ok (lettersGo_suf stop (n - 1) l) hg)
 · split at h
   · cases h
   · cases hg:lettersGo stop 0 l with
     | bad e r'=>simp only [hg,Res.map] at h; cases h
     | ok s' r'=>simp only [hg,Res.map] at h; cases h; exact List.IsSuffix.length_le (suf_of_ok (lettersGo_suf stop 0 l) hg)
theorem map_ok {α β:Type} {x:Res α} {f:α→β} {b:β} {r:Bs} (h:x.map f = .ok b r) : ∃ a,x = .ok a r∧b=f a:=by
 cases x with
 | ok a r'=>simp only [Res.map] at h; cases h; exact ⟨a,rfl,rfl⟩
 | bad e r'=>cases h
theorem bind_ok {α β:Type} {x:Res α} {f:α→Bs→Res β} {b:β} {r:Bs} (h:x.bind f = .ok b r) : ∃ a r',x = .ok a r'∧f a r' = .ok b r:=by
 cases x with
 | ok a r'=>exact ⟨a,r',rfl,h⟩
 | bad e r'=>cases h
theorem closeR_less {l:Bs} {t:Tk} {r:Bs} (h:closeR l = .ok t r):r.length≤l.length:=List.IsSuffix.length_le (suf_of_ok (closeR_suf l) h)
theorem openR_less {l:Bs} {t:Tk} {r:Bs} (h:openR l = .ok t r):r.length≤l.length:=List.IsSuffix.length_le (suf_of_ok (openR_suf l) h)
theorem tokenR_less {first:Bool} {l:Bs} {t:Tk} {r:Bs} (h:tokenR first l = .ok t r) (hl:l≠[]):r.length<l.length:=by
 have hpos:0<l.length:=List.length_pos_iff.2 hl;unfold tokenR at h;split at h
 · obtain ⟨a,h1,-⟩:=map_ok h
   have:=plain_less h1
   rw [List.length_drop] at this;simp [eNote] at this; omega
 · split at h
   · obtain ⟨a,h1,-⟩:=map_ok h
     have:=plain_less h1
     rw [List.length_drop] at this;simp [eData] at this; omega
   · split at h
     · obtain ⟨a,h1,-⟩:=map_ok h
       have:=plain_less h1
       rw [List.length_drop] at this;simp [eHead] at this; omega
     · split at h
       · have:=closeR_less h; simp only [List.length_cons]; omega
       · have:=openR_less h; simp only [List.length_cons]; omega
       · rename_i hx hy
         obtain ⟨a,h1,-⟩:=map_ok h;cases l with
         | nil=>exact absurd rfl hl
         | cons c l =>
          have:=letters_less h1 (fun e=>hy l (by rw [e]))
          simp only [List.length_cons]; omega
def Falls (T:Bs) (acc:List (Tk × Bs)) (l:Bs):Prop:=acc.Pairwise (fun a b=>b.2 <:+ a.2∧b.2.length<a.2.length) ∧ ∀ a ∈ acc,l <:+ a.2∧l.length<a.2.length∧a.2 <:+ T
theorem Falls.nil (T l:Bs):Falls T [] l:=⟨List.Pairwise.nil,by simp⟩
theorem Falls.snoc {T:Bs} {acc:List (Tk × Bs)} {l r:Bs} (h:Falls T acc l) (hl:l <:+ T) (hr:r <:+ l) (hlt:r.length<l.length) (t:Tk):Falls T (acc ++ [(t,l)]) r:=by
 refine ⟨?_,?_⟩
 · rw [List.pairwise_append]
   refine ⟨h.1,List.pairwise_singleton _ _,fun a ha b hb=>?_⟩
   simp at hb; subst hb;exact ⟨(h.2 a ha).1,(h.2 a ha).2.1⟩
 · intro a ha
   rcases List.mem_append.1 ha with ha | ha
   · obtain ⟨h1,h2,h3⟩:=h.2 a ha
     exact ⟨hr.trans h1,by omega,h3⟩
   · simp at ha; subst ha; exact ⟨hr,hlt,hl⟩
theorem allGo_falls {T:Bs} (f:Nat) (first:Bool) (acc:List (Tk × Bs)) (l:Bs) (hl:l <:+ T) (h:Falls T acc l) {res:List (Tk × Bs)} {r:Bs} (hr:allGo f first acc l = .ok res r):Falls T res []∧r=[]:=by
 induction f generalizing first acc l with
 | zero =>
  cases l with
  | nil=>simp only [allGo] at hr; cases hr; exact ⟨h,rfl⟩
  | cons c l=>cases hr
 | succ f ih =>
  cases l with
  | nil=>simp only [allGo] at hr; cases hr; exact ⟨h,rfl⟩
  | cons c l =>
   simp only [allGo] at hr;cases ht:tokenR first (c::l) with
   | bad e r'=>rw [ht] at hr; cases hr
   | ok t r' =>
    rw [ht] at hr;have hs:=suf_of_ok (tokenR_suf first (c::l)) ht;exact ih false _ r' (hs.trans hl) (h.snoc hl hs (tokenR_less ht (by simp)) t) hr
theorem openR_kind {l:Bs} {t:Tk} {r:Bs} (h:openR l = .ok t r):t.kind=1∨t.kind=2:=by
 unfold openR at h;obtain ⟨nm,r1,-,h⟩:=bind_ok h;obtain ⟨ats,r2,-,h⟩:=bind_ok h;split at h
 · obtain ⟨_,-,rfl⟩:=map_ok h; exact .inr rfl
 · obtain ⟨_,-,rfl⟩:=map_ok h; exact .inl rfl
theorem closeR_kind {l:Bs} {t:Tk} {r:Bs} (h:closeR l = .ok t r):t.kind=3:=by
 unfold closeR at h;obtain ⟨nm,r1,-,h⟩:=bind_ok h;obtain ⟨_,-,rfl⟩:=map_ok h; rfl
def Cuts (acc:List (Tk × Bs)):Prop:=∀ p ∈ acc,p.2≠[] ∧ ∃ first r,tokenR first p.2 = .ok p.1 r
theorem allGo_cuts (f:Nat) (first:Bool) (acc:List (Tk × Bs)) (l:Bs) (h:Cuts acc) {res:List (Tk × Bs)} {r:Bs} (hr:allGo f first acc l = .ok res r):Cuts res∧(∃ more,res=acc ++ more)∧(l≠[] → ∃ t,res[acc.length]? = some (t,l)):=by
 induction f generalizing first acc l with
 | zero =>
  cases l with
  | nil=>simp only [allGo] at hr; cases hr; exact ⟨h,⟨[],by simp⟩,fun h=>absurd rfl h⟩
  | cons c l=>cases hr
 | succ f ih =>
  cases l with
  | nil=>simp only [allGo] at hr; cases hr; exact ⟨h,⟨[],by simp⟩,fun h=>absurd rfl h⟩
  | cons c l =>
   simp only [allGo] at hr;cases ht:tokenR first (c::l) with
   | bad e r'=>rw [ht] at hr; cases hr
   | ok t r' =>
    rw [ht] at hr
    obtain ⟨h1,⟨more,h2⟩,-⟩:=ih false _ r' (fun p hp=>by
     rcases List.mem_append.1 hp with hp | hp
     · exact h p hp
     · simp at hp; subst hp; exact ⟨by simp,first,r',ht⟩) hr
    refine ⟨h1,⟨(t,c::l)::more,by rw [h2]; simp⟩,fun _=>⟨t,by rw [h2]; simp⟩⟩
theorem allR_facts {T:Bs} {acc:List (Tk × Bs)} {r:Bs} (h:allR T = .ok acc r):Falls T acc []∧r=[]∧Cuts acc∧(T=[]→acc=[])∧(T≠[] → ∃ t,acc[0]? = some (t,T)):=by
 unfold allR at h;obtain ⟨h1,h2⟩:=allGo_falls T.length true [] T (List.suffix_refl _) (Falls.nil _ _) h;obtain ⟨h3,-,h5⟩:=allGo_cuts T.length true [] T (by intro p hp; cases hp) h;refine ⟨h1,h2,h3,fun hT=>?_,h5⟩
 subst hT;simp only [List.length_nil,allGo] at h;cases h; rfl
def Res.NZ {α:Type}:Res α→Prop
 | .ok _ _=>True
 | .bad e _=>e≠0
theorem Res.NZ.map {α β:Type} {x:Res α} (f:α→β) (h:x.NZ):(x.map f).NZ:=by cases x <;> exact h
theorem Res.NZ.bind {α β:Type} {x:Res α} {f:α→Bs→Res β} (h:x.NZ) (hf : ∀ a r,(f a r).NZ):(x.bind f).NZ:=by
 cases x with
 | ok a r=>exact hf a r
 | bad e r=>exact h
theorem wantC_nz (c:UInt8) (l:Bs):(wantC c l).NZ:=by
 cases l with
 | nil=>show (13:Int)≠0; decide
 | cons x l=>simp only [wantC]; split; trivial; show (10:Int)≠0; decide
theorem nameR_nz {e:Int} (he:e≠0) (l:Bs):(nameR e l).NZ:=by
 cases l with
 | nil=>show (13:Int)≠0; decide
 | cons x l=>simp only [nameR]; split; exact he; trivial
theorem plain_nz (til l:Bs):(plain til l).NZ:=by
 induction l with
 | nil=>simp only [plain]; split; trivial; show (13:Int)≠0; decide
 | cons c l ih =>
  simp only [plain];split
  · trivial
  · split
    · exact ih.map _
    · show (10:Int)≠0; decide
theorem refBad_nz {s:Bs} {e:Int} (h:refSpec s = .bad e):e≠0:=by
 have hn : ∀ hex a d,numRef hex a d = .bad e→e≠0:=by
  intro hex a d h;unfold numRef at h;by_cases h1:8<span (isDig hex) d
  · rw [if_pos h1] at h; cases h; decide
  · rw [if_neg h1] at h
    by_cases h2:span (isDig hex) d=d.length
    · rw [if_pos h2] at h; cases h; decide
    · rw [if_neg h2] at h
      by_cases h3:span (isDig hex) d=0∨d[span (isDig hex) d]?≠some 59
      · rw [if_pos h3] at h; cases h; decide
      · rw [if_neg h3] at h
        split at h
        · cases h
        · cases h; decide
 cases s with
 | nil=>cases h; decide
 | cons c r =>
  simp only [refSpec] at h;by_cases hc:c=38
  · rw [if_neg (by simp [hc])] at h
    split at h
    · split at h
      · exact hn _ _ _ h
      · exact hn _ _ _ h
    · by_cases hl:span cLower r=r.length
      · rw [if_pos hl] at h
        split at h <;> (cases h; decide)
      · rw [if_neg hl] at h
        split at h
        · split at h
          · cases h
          · cases h; decide
        · cases h; decide
  · rw [if_pos hc] at h; cases h; decide
theorem lettersGo_nz (stop:UInt8) (k:Nat) (l:Bs):(lettersGo stop k l).NZ:=by
 induction l generalizing k with
 | nil=>cases k <;> trivial
 | cons c l ih =>
  cases k with
  | succ k=>exact ih k
  | zero =>
   simp only [lettersGo];split
   · trivial
   · split
     · cases hr:refSpec (c::l) with
       | ok t n=>exact (ih _).map _
       | bad e=>exact refBad_nz hr
     · split
       · show (10:Int)≠0; decide
       · exact (ih 0).map _
theorem valueR_nz (l:Bs):(valueR l).NZ:=by
 cases l with
 | nil=>show (13:Int)≠0; decide
 | cons q l =>
  simp only [valueR];split
  · refine Res.NZ.bind (lettersGo_nz q 0 l) fun s r=>?_
    cases r with
    | nil=>show (13:Int)≠0; decide
    | cons x r=>trivial
  · show (10:Int)≠0; decide
theorem attrR_nz (acc:List At2) (l:Bs):(attrR acc l).NZ:=by
 refine Res.NZ.bind (nameR_nz (by decide) l) fun nm r=>?_
 split
 · show (15:Int)≠0; decide
 · exact Res.NZ.bind (wantC_nz _ _) fun _ r'=>(valueR_nz _).map _
theorem attrsGo_nz (f:Nat) (acc:List At2) (l:Bs):(attrsGo f acc l).NZ:=by
 induction f generalizing acc l with
 | zero=>show (13:Int)≠0; decide
 | succ f ih =>
  simp only [attrsGo];split
  · trivial
  · have:=attrR_nz acc (blanks l)
    cases h:attrR acc (blanks l) with
    | ok a r=>exact ih _ r
    | bad e r=>rw [h] at this; exact this
theorem tokenR_nz (first:Bool) (l:Bs):(tokenR first l).NZ:=by
 unfold tokenR;split
 · exact (plain_nz _ _).map _
 · split
   · exact (plain_nz _ _).map _
   · split
     · exact (plain_nz _ _).map _
     · split
       · exact Res.NZ.bind (nameR_nz (by decide) _) fun _ r=>(wantC_nz _ _).map _
       · refine Res.NZ.bind (nameR_nz (by decide) _) fun nm r=>Res.NZ.bind (attrsGo_nz _ _ r) fun ats r'=>?_
         split
         · exact (wantC_nz _ _).map _
         · exact (wantC_nz _ _).map _
       · exact (lettersGo_nz _ _ _).map _
theorem allGo_nz (f:Nat) (first:Bool) (acc:List (Tk × Bs)) (l:Bs):(allGo f first acc l).NZ:=by
 induction f generalizing first acc l with
 | zero =>
  cases l with
  | nil=>trivial
  | cons c l=>show (13:Int)≠0; decide
 | succ f ih =>
  cases l with
  | nil=>trivial
  | cons c l =>
   simp only [allGo];have:=tokenR_nz first (c::l)
   cases h:tokenR first (c::l) with
   | ok t r=>exact ih _ _ r
   | bad e r=>rw [h] at this; exact this
theorem allR_bad_ne {T:Bs} {x:Int} {r:Bs} (h:allR T = .bad x r):x≠0:=by
 have:=allGo_nz T.length true [] T
 unfold allR at h;rw [h] at this; exact this
def escC (attr:Bool) (c:UInt8):Bs :=
 if c=38 then [38,97,109,112,59] else if c=60 then [38,108,116,59] else if c=62 then [38,103,116,59]
 else if c=13 then [38,35,49,51,59] else if attr && c == 34 then [38,113,117,111,116,59]
 else if attr && c == 9 then [38,35,57,59] else if attr && c == 10 then [38,35,49,48,59] else [c]
def esc (attr:Bool) (l:Bs):Bs:=l.flatMap (escC attr)
def aposC (c:UInt8):Bs:=if c=39 then [38,97,112,111,115,59] else [c]
def aposR (l:Bs):Bs:=l.flatMap aposC
theorem escC_len (attr:Bool) (c:UInt8):1≤(escC attr c).length∧(escC attr c).length≤6:=by
 unfold escC; repeat' split
 all_goals simp
theorem esc_len (attr:Bool) (l:Bs):l.length≤(esc attr l).length∧(esc attr l).length≤6*l.length:=by
 induction l with
 | nil=>exact ⟨Nat.le_refl _,Nat.le_refl _⟩
 | cons c l ih =>
  have:=escC_len attr c
  unfold esc at *;rw [List.flatMap_cons,List.length_append,List.length_cons];omega
theorem ref_amp (r:Bs):refSpec (38::97::109::112::59::r) = .ok [38] 5:=by
 rw [← refDoc_eq]; simp [refDoc,refW,refWords,wLt,wGt,wAmp,wQuot,wApos,List.isPrefixOf]
theorem ref_lt (r:Bs):refSpec (38::108::116::59::r) = .ok [60] 4:=by
 rw [← refDoc_eq]; simp [refDoc,refW,refWords,wLt,wGt,wAmp,wQuot,wApos,List.isPrefixOf]
theorem ref_gt (r:Bs):refSpec (38::103::116::59::r) = .ok [62] 4:=by
 rw [← refDoc_eq]; simp [refDoc,refW,refWords,wLt,wGt,wAmp,wQuot,wApos,List.isPrefixOf]
theorem ref_quot (r:Bs):refSpec (38::113::117::111::116::59::r) = .ok [34] 6:=by
 rw [← refDoc_eq]; simp [refDoc,refW,refWords,wLt,wGt,wAmp,wQuot,wApos,List.isPrefixOf]
theorem ref_apos (r:Bs):refSpec (38::97::112::111::115::59::r) = .ok [39] 6:=by
 rw [← refDoc_eq]; simp [refDoc,refW,refWords,wLt,wGt,wAmp,wQuot,wApos,List.isPrefixOf]
theorem ref_13 (r:Bs):refSpec (38::35::49::51::59::r) = .ok [13] 5:=by
 have h:span (isDig false) (49::51::59::r)=2:=by simp [span,isDig,digitV,cDigit]
 simp only [refSpec,numRef,h];simp [numV,digitV,cDigit,baseOf,okLetter,letterB,letterN]
theorem ref_9 (r:Bs):refSpec (38::35::57::59::r) = .ok [9] 4:=by
 have h:span (isDig false) (57::59::r)=1:=by simp [span,isDig,digitV,cDigit]
 simp only [refSpec,numRef,h];simp [numV,digitV,cDigit,baseOf,okLetter,letterB,letterN]
theorem ref_10 (r:Bs):refSpec (38::35::49::48::59::r) = .ok [10] 5:=by
 have h:span (isDig false) (49::48::59::r)=2:=by simp [span,isDig,digitV,cDigit]
 simp only [refSpec,numRef,h];simp [numV,digitV,cDigit,baseOf,okLetter,letterB,letterN]
def Reads (stop:UInt8) (e d:Bs):Prop:=∀ r,lettersGo stop 0 (e ++ r)=(lettersGo stop 0 r).map (d ++ ·)
theorem Reads.nil (stop:UInt8):Reads stop [] []:=fun r=>by
 show lettersGo stop 0 r=_
 cases lettersGo stop 0 r <;> rfl
theorem Reads.append {stop:UInt8} {e d e' d':Bs} (h:Reads stop e d) (h':Reads stop e' d'):Reads stop (e ++ e') (d ++ d'):=fun r=>by
 rw [List.append_assoc,h,h'];cases lettersGo stop 0 r <;> simp [Res.map,List.append_assoc]
theorem reads_ref {stop:UInt8} (hs:stop≠38) {e:Bs} {c:UInt8} (h : ∀ r,refSpec (38::(e ++ r)) = .ok [c] (e.length+1)):Reads stop (38::e) [c]:=fun r=>by
 show lettersGo stop 0 (38::(e ++ r))=_
 simp only [lettersGo];rw [if_neg (Ne.symm hs),if_pos trivial,h];simp only [Nat.add_sub_cancel];rw [lettersGo_drop,List.drop_left]
theorem reads_one {stop c:UInt8} (h1:c≠stop) (h2:c≠38) (h3:c≠60) (h4:cText c=true):Reads stop [c] [c]:=fun r=>by
 show lettersGo stop 0 (c::r)=_
 simp only [lettersGo];rw [if_neg h1,if_neg h2,if_neg (by simp [h3,h4])];rfl
theorem reads_esc {attr:Bool} {stop c:UInt8} (hs:stop≠38) (h1:stop=60∨(attr=true∧stop=34)) (h:cText c=true):Reads stop (escC attr c) [c]:=by
 unfold escC;by_cases h38:c=38
 · rw [if_pos h38]; subst h38; exact reads_ref hs ref_amp
 by_cases h60:c=60
 · rw [if_neg h38,if_pos h60]; subst h60; exact reads_ref hs ref_lt
 by_cases h62:c=62
 · rw [if_neg h38,if_neg h60,if_pos h62]; subst h62; exact reads_ref hs ref_gt
 by_cases h13:c=13
 · rw [if_neg h38,if_neg h60,if_neg h62,if_pos h13]; subst h13; exact reads_ref hs ref_13
 rw [if_neg h38,if_neg h60,if_neg h62,if_neg h13];by_cases h34:(attr && c == 34)=true
 · rw [if_pos h34]; simp at h34; obtain ⟨-,rfl⟩:=h34; exact reads_ref hs ref_quot
 rw [if_neg h34];by_cases h9:(attr && c == 9)=true
 · rw [if_pos h9]; simp at h9; obtain ⟨-,rfl⟩:=h9; exact reads_ref hs ref_9
 rw [if_neg h9];by_cases h10:(attr && c == 10)=true
 · rw [if_pos h10]; simp at h10; obtain ⟨-,rfl⟩:=h10; exact reads_ref hs ref_10
 rw [if_neg h10];refine reads_one ?_ h38 h60 h
 rcases h1 with rfl | ⟨rfl,rfl⟩
 · exact h60
 · intro e; subst e; simp at h34
theorem reads_escs {attr:Bool} {stop:UInt8} (hs:stop≠38) (h1:stop=60∨(attr=true∧stop=34)) (l:Bs) (h : ∀ c ∈ l,cText c=true):Reads stop (esc attr l) l:=by
 induction l with
 | nil=>exact Reads.nil stop
 | cons c l ih =>
  show Reads stop (escC attr c ++ esc attr l) ([c] ++ l)
  exact (reads_esc hs h1 (h c (by simp))).append (ih fun x hx=>h x (by simp [hx]))
theorem aposR_append (l m:Bs):aposR (l ++ m)=aposR l ++ aposR m:=by unfold aposR; rw [List.flatMap_append]
theorem aposR_id (l:Bs) (h:(39:UInt8) ∉ l):aposR l=l:=by
 induction l with
 | nil=>rfl
 | cons c l ih =>
  simp only [List.mem_cons,not_or] at h;show aposC c ++ aposR l=_
  rw [ih h.2]; unfold aposC; rw [if_neg (Ne.symm h.1)]; rfl
theorem reads_apos {c:UInt8} (h:cText c=true):Reads 39 (aposR (escC true c)) [c]:=by
 by_cases h39:c=39
 · subst h39; exact reads_ref (by decide) ref_apos
 have hn:(39:UInt8) ∉ escC true c:=by
  unfold escC; repeat' split
  all_goals first | decide | (simp; exact Ne.symm h39)
 rw [aposR_id _ hn];unfold escC;by_cases h38:c=38
 · rw [if_pos h38]; subst h38; exact reads_ref (by decide) ref_amp
 by_cases h60:c=60
 · rw [if_neg h38,if_pos h60]; subst h60; exact reads_ref (by decide) ref_lt
 by_cases h62:c=62
 · rw [if_neg h38,if_neg h60,if_pos h62]; subst h62; exact reads_ref (by decide) ref_gt
 by_cases h13:c=13
 · rw [if_neg h38,if_neg h60,if_neg h62,if_pos h13]; subst h13; exact reads_ref (by decide) ref_13
 rw [if_neg h38,if_neg h60,if_neg h62,if_neg h13];by_cases h34:(true && c == 34)=true
 · rw [if_pos h34]; simp at h34; subst h34; exact reads_ref (by decide) ref_quot
 rw [if_neg h34];by_cases h9:(true && c == 9)=true
 · rw [if_pos h9]; simp at h9; subst h9; exact reads_ref (by decide) ref_9
 rw [if_neg h9];by_cases h10:(true && c == 10)=true
 · rw [if_pos h10]; simp at h10; subst h10; exact reads_ref (by decide) ref_10
 rw [if_neg h10];exact reads_one h39 h38 h60 h
theorem reads_aposs (l:Bs) (h : ∀ c ∈ l,cText c=true):Reads 39 (aposR (esc true l)) l:=by
 induction l with
 | nil=>exact Reads.nil 39
 | cons c l ih =>
  show Reads 39 (aposR (escC true c ++ esc true l)) ([c] ++ l)
  rw [aposR_append];exact (reads_apos (h c (by simp))).append (ih fun x hx=>h x (by simp [hx]))
theorem esc_head (attr:Bool) (l:Bs):(esc attr l).head?≠some 60:=by
 cases l with
 | nil=>simp [esc]
 | cons c l =>
  show (escC attr c ++ esc attr l).head?≠some 60
  unfold escC; repeat' split
  all_goals simp_all
theorem esc_ne (attr:Bool) {l:Bs} (h:l≠[]):esc attr l≠[]:=by
 intro e;have:=(esc_len attr l).1
 rw [e] at this;exact h (List.eq_nil_of_length_eq_zero (by simpa using this))
theorem tokenR_text (first:Bool) {l:Bs} (h:l.head?≠some 60):tokenR first l=(letters 60 l).map fun t=>⟨4,[],[],t⟩:=by
 unfold tokenR;cases l with
 | nil=>simp [sNote,sData,isHead,sHead]
 | cons c l =>
  have hc:c≠60:=by simpa using h
  have h1:sNote.isPrefixOf (c::l)=false:=by simp [sNote,List.isPrefixOf,Ne.symm hc]
  have h2:sData.isPrefixOf (c::l)=false:=by simp [sData,List.isPrefixOf,Ne.symm hc]
  have h3:isHead (c::l)=false:=by simp [isHead,sHead,List.isPrefixOf,Ne.symm hc]
  rw [h1,h2,h3];simp only [Bool.false_eq_true,if_false,Bool.and_false];split
  · rename_i h; cases h; exact absurd rfl hc
  · rename_i h; cases h; exact absurd rfl hc
  · rfl
theorem letters_reads {stop:UInt8} {e d:Bs} (h:Reads stop e d) (r:Bs):letters stop (e ++ stop::r) = .ok d (stop::r):=by
 show lettersGo stop 0 _=_
 rw [h]; simp [lettersGo,Res.map]
theorem letters_reads_end {stop:UInt8} {e d:Bs} (h:Reads stop e d):letters stop e = .ok d []:=by
 have:=h []
 rw [List.append_nil] at this;show lettersGo stop 0 _=_
 rw [this]; simp [lettersGo,Res.map]
theorem allGo_step {f:Nat} {first:Bool} {acc:List (Tk × Bs)} {l r:Bs} {t:Tk} (hl:l≠[]) (h:tokenR first l = .ok t r):allGo (f+1) first acc l=allGo f false (acc ++ [(t,l)]) r:=by
 cases l with
 | nil=>exact absurd rfl hl
 | cons c l=>simp only [allGo]; rw [h]
theorem allGo_nil (f:Nat) (first:Bool) (acc:List (Tk × Bs)):allGo f first acc [] = .ok acc []:=by cases f <;> rfl
theorem esc_snoc (attr:Bool) (l:Bs) (c:UInt8):esc attr (l ++ [c])=esc attr l ++ escC attr c:=by
 unfold esc; rw [List.flatMap_append]; simp
theorem byte_38 (c:UInt8):(((c.toNat:Nat):Int) == 38)=decide (c=38):=by
 have h : ∀ n:Fin 256,((((UInt8.ofNat n).toNat:Nat):Int) == 38)=decide (UInt8.ofNat n=38):=by decide +kernel
 have:=h ⟨c.toNat,c.toNat_lt⟩
 simpa only [UInt8.ofNat_toNat] using this
theorem byte_60 (c:UInt8):(((c.toNat:Nat):Int) == 60)=decide (c=60):=by
 have h : ∀ n:Fin 256,((((UInt8.ofNat n).toNat:Nat):Int) == 60)=decide (UInt8.ofNat n=60):=by decide +kernel
 have:=h ⟨c.toNat,c.toNat_lt⟩
 simpa only [UInt8.ofNat_toNat] using this
theorem byte_62 (c:UInt8):(((c.toNat:Nat):Int) == 62)=decide (c=62):=by
 have h : ∀ n:Fin 256,((((UInt8.ofNat n).toNat:Nat):Int) == 62)=decide (UInt8.ofNat n=62):=by decide +kernel
 have:=h ⟨c.toNat,c.toNat_lt⟩
 simpa only [UInt8.ofNat_toNat] using this
theorem byte_13 (c:UInt8):(((c.toNat:Nat):Int) == 13)=decide (c=13):=by
 have h : ∀ n:Fin 256,((((UInt8.ofNat n).toNat:Nat):Int) == 13)=decide (UInt8.ofNat n=13):=by decide +kernel
 have:=h ⟨c.toNat,c.toNat_lt⟩
 simpa only [UInt8.ofNat_toNat] using this
theorem byte_34 (c:UInt8):(((c.toNat:Nat):Int) == 34)=decide (c=34):=by
 have h : ∀ n:Fin 256,((((UInt8.ofNat n).toNat:Nat):Int) == 34)=decide (UInt8.ofNat n=34):=by decide +kernel
 have:=h ⟨c.toNat,c.toNat_lt⟩
 simpa only [UInt8.ofNat_toNat] using this
theorem byte_9 (c:UInt8):(((c.toNat:Nat):Int) == 9)=decide (c=9):=by
 have h : ∀ n:Fin 256,((((UInt8.ofNat n).toNat:Nat):Int) == 9)=decide (UInt8.ofNat n=9):=by decide +kernel
 have:=h ⟨c.toNat,c.toNat_lt⟩
 simpa only [UInt8.ofNat_toNat] using this
theorem byte_10 (c:UInt8):(((c.toNat:Nat):Int) == 10)=decide (c=10):=by
 have h : ∀ n:Fin 256,((((UInt8.ofNat n).toNat:Nat):Int) == 10)=decide (UInt8.ofNat n=10):=by decide +kernel
 have:=h ⟨c.toNat,c.toNat_lt⟩
 simpa only [UInt8.ofNat_toNat] using this
theorem size_lit (l:Array UInt8):(⟨l⟩:S).size=l.size:=rfl
theorem esc_cells {attr:Bool} {s:S} {k:Nat} (hlt:k<s.size) {X:Bs} (hx:escC attr s[k]=X):Lib.byteCells (esc attr (s.data.toList.take k)) ++ Lib.strCells (bs X)=Lib.byteCells (esc attr (s.data.toList.take (k+1))):=by
 rw [take_byte s k hlt,esc_snoc,hx,byteCells_app]
theorem esc_cell1 {attr:Bool} {s:S} {k:Nat} (hlt:k<s.size) (hx:escC attr s[k]=[s[k]]):Lib.byteCells (esc attr (s.data.toList.take k)) ++ [.int .u8 (s[k].toNat:Nat)]=Lib.byteCells (esc attr (s.data.toList.take (k+1))):=by
 rw [take_byte s k hlt,esc_snoc,hx,byteCells_snoc]
theorem esc_clen (attr:Bool) (s:S) (k:Nat) (hs:s.size≤1000000000):(Lib.byteCells (esc attr (s.data.toList.take k))).length≤6000000000:=by
 have:=(esc_len attr (s.data.toList.take k)).2
 rw [List.length_take,size_data] at this;simp [Lib.byteCells]; omega
set_option maxRecDepth 100000 in
set_option maxHeartbeats 8000000 in
theorem escape_false (s:S) (w:World) (hs:s.size≤1000000000) :
    Calls Tryz.prog 31 #[.string s,.bool false] w fun e w'=>e = .returned (.string (bs (esc false s.data.toList)))∧Below w.heap.size w w':=by
 have hcv:=fun (w:World)=>conv_bytes w s;go_enter Tryz.func31,Tryz.ntmps31
 go_wp2_with fail
 clear hcv;refine wp_world ?_
 intro W hW;have hfr:=Bld.fresh w (bytesW (w.alloc (.cells #[.pointer none,.slice none 0 0] 74)) s) (bytesW_below _ s _ (by simp));have hcells:=fun j h=>bytesW_cell (w.alloc (.cells #[.pointer none,.slice none 0 0] 74)) s j h;have hbel:Below w.heap.size w (bytesW (w.alloc (.cells #[.pointer none,.slice none 0 0] 74)) s):=((Below.refl _ _).alloc (Nat.le_refl _) _).trans (bytesW_below _ s _ (by simp));have hsz:=bytesW_size (w.alloc (.cells #[.pointer none,.slice none 0 0] 74)) s;rw [← hW] at hfr hcells hbel hsz;have hsz':W.heap.size=w.heap.size+2:=by simpa using hsz
 have hcells' : ∀ j,(h:j<s.size)→W.cell? ⟨w.heap.size+1,j,none⟩=some (.int .u8 (s[j].toNat:Nat)):=fun j h=>by simpa using hcells j h
 have HFR:=Lib.hid hfr;have HCE:=Lib.hid hcells';have HBE:=Lib.hid hbel;have HSZ:=Lib.hid hsz';clear hW hfr hcells hbel hsz hsz' hcells';go_loopw [11] (fun i wr=>∃ k:Nat,k≤s.size∧i = .int .i64 k∧Bld W.heap.size w.heap.size (Lib.byteCells (esc false (s.data.toList.take k))) wr∧Kept W.heap.size w.heap.size W wr) (fun i _=>s.size - (intOf i).toNat)
 case atStart=>exact ⟨0,Nat.zero_le _,rfl,HFR.out,Kept.refl _ _ _⟩
 case round =>
  obtain ⟨k,hk,rfl,hB,hK⟩:=hrel;have HB:=Lib.hid hB;have HK:=Lib.hid hK;have hwr:=hK.size;by_cases hlt:k<s.size
  · have c1:=(hK.cell (g:=w.heap.size+1) (o:=k) (by rw [HSZ.out]; omega) (by omega)).trans (HCE.out k hlt)
    have hg1:w.heap.size+1<wr.heap.size:=by have:=HSZ.out; omega
    have hi1:(k:Int)<(s.size:Int):=by omega
    have hlen:=esc_clen false s k hs;have e38:=byte_38 s[k];have e60:=byte_60 s[k];have e62:=byte_62 s[k];have e13:=byte_13 s[k];have e34:=byte_34 s[k];have e9:=byte_9 s[k];have e10:=byte_10 s[k];clear hB hK;go_wp2_with fail
    rotate_right 1
    · refine (writeByte_bld W.heap.size w.heap.size _ _ wr HB.out (by omega)).mono ?_
      rintro e w4 ⟨rfl,hB4,hK4⟩;have HB4:=Lib.hid hB4;have HK4:=Lib.hid (HK.out.trans hK4);clear hB4 hK4 c1 hg1 e38 e60 e62 e13 e34 e9 e10;go_wp2
      go_round
      case rel=>exact ⟨k+1,hlt,by go_num,by rw [← esc_cell1 hlt (by simp_all [escC])]; exact HB4.out,HK4.out⟩
      case measure=>simp [intOf]; omega
    all_goals
     refine (writeString_bld W.heap.size w.heap.size _ _ wr HB.out (by rw [size_lit]; simp; omega)).mono ?_
     rintro e w4 ⟨rfl,hB4,hK4⟩;have HB4:=Lib.hid hB4;have HK4:=Lib.hid (HK.out.trans hK4);clear hB4 hK4 c1 hg1 e38 e60 e62 e13 e34 e9 e10;go_wp2
     go_round
     case rel =>
      refine ⟨k+1,hlt,by go_num,?_,HK4.out⟩
      first
       | (rw [← esc_cells (X:=[38,97,109,112,59]) hlt (by simp_all [escC])]; exact HB4.out)
       | (rw [← esc_cells (X:=[38,108,116,59]) hlt (by simp_all [escC])]; exact HB4.out)
       | (rw [← esc_cells (X:=[38,103,116,59]) hlt (by simp_all [escC])]; exact HB4.out)
       | (rw [← esc_cells (X:=[38,35,49,51,59]) hlt (by simp_all [escC])]; exact HB4.out)
       | (rw [← esc_cells (X:=[38,113,117,111,116,59]) hlt (by simp_all [escC])]; exact HB4.out)
       | (rw [← esc_cells (X:=[38,35,57,59]) hlt (by simp_all [escC])]; exact HB4.out)
       | (rw [← esc_cells (X:=[38,35,49,48,59]) hlt (by simp_all [escC])]; exact HB4.out)
     case measure=>simp [intOf]; omega
  · obtain rfl:k=s.size:=by omega
    have hi1 : ¬ (s.size:Int)<(s.size:Int):=by omega
    have hO:s.data.toList.take s.size=s.data.toList:=List.take_of_length_le (by rw [size_data]; exact Nat.le_refl _);rw [hO] at HB;clear hB hK hO;go_wp2_with fail
    refine (Tryz.Builder_String_any w.heap.size w.heap.size (esc false s.data.toList) wr (HB.out.isB _ (by rw [HSZ.out]; omega) (Nat.le_refl _)) (by have:=HSZ.out; omega)).mono ?_
    rintro e w2 ⟨rfl,hb2⟩;have HZ:=Lib.hid ((HBE.out.trans (HK.out.below (by rw [HSZ.out]; omega) (Nat.le_refl _))).trans hb2);clear hb2;go_wp2
    go_ret
    exact ⟨rfl,HZ.out⟩
set_option maxRecDepth 100000 in
set_option maxHeartbeats 8000000 in
theorem escape_true (s:S) (w:World) (hs:s.size≤1000000000) :
    Calls Tryz.prog 31 #[.string s,.bool true] w fun e w'=>e = .returned (.string (bs (esc true s.data.toList)))∧Below w.heap.size w w':=by
 have hcv:=fun (w:World)=>conv_bytes w s;go_enter Tryz.func31,Tryz.ntmps31
 go_wp2_with fail
 clear hcv;refine wp_world ?_
 intro W hW;have hfr:=Bld.fresh w (bytesW (w.alloc (.cells #[.pointer none,.slice none 0 0] 74)) s) (bytesW_below _ s _ (by simp));have hcells:=fun j h=>bytesW_cell (w.alloc (.cells #[.pointer none,.slice none 0 0] 74)) s j h;have hbel:Below w.heap.size w (bytesW (w.alloc (.cells #[.pointer none,.slice none 0 0] 74)) s):=((Below.refl _ _).alloc (Nat.le_refl _) _).trans (bytesW_below _ s _ (by simp));have hsz:=bytesW_size (w.alloc (.cells #[.pointer none,.slice none 0 0] 74)) s;rw [← hW] at hfr hcells hbel hsz;have hsz':W.heap.size=w.heap.size+2:=by simpa using hsz
 have hcells' : ∀ j,(h:j<s.size)→W.cell? ⟨w.heap.size+1,j,none⟩=some (.int .u8 (s[j].toNat:Nat)):=fun j h=>by simpa using hcells j h
 have HFR:=Lib.hid hfr;have HCE:=Lib.hid hcells';have HBE:=Lib.hid hbel;have HSZ:=Lib.hid hsz';clear hW hfr hcells hbel hsz hsz' hcells';go_loopw [11] (fun i wr=>∃ k:Nat,k≤s.size∧i = .int .i64 k∧Bld W.heap.size w.heap.size (Lib.byteCells (esc true (s.data.toList.take k))) wr∧Kept W.heap.size w.heap.size W wr) (fun i _=>s.size - (intOf i).toNat)
 case atStart=>exact ⟨0,Nat.zero_le _,rfl,HFR.out,Kept.refl _ _ _⟩
 case round =>
  obtain ⟨k,hk,rfl,hB,hK⟩:=hrel;have HB:=Lib.hid hB;have HK:=Lib.hid hK;have hwr:=hK.size;by_cases hlt:k<s.size
  · have c1:=(hK.cell (g:=w.heap.size+1) (o:=k) (by rw [HSZ.out]; omega) (by omega)).trans (HCE.out k hlt)
    have hg1:w.heap.size+1<wr.heap.size:=by have:=HSZ.out; omega
    have hi1:(k:Int)<(s.size:Int):=by omega
    have hlen:=esc_clen true s k hs;have e38:=byte_38 s[k];have e60:=byte_60 s[k];have e62:=byte_62 s[k];have e13:=byte_13 s[k];have e34:=byte_34 s[k];have e9:=byte_9 s[k];have e10:=byte_10 s[k];clear hB hK;go_wp2_with fail
    rotate_right 1
    · refine (writeByte_bld W.heap.size w.heap.size _ _ wr HB.out (by omega)).mono ?_
      rintro e w4 ⟨rfl,hB4,hK4⟩;have HB4:=Lib.hid hB4;have HK4:=Lib.hid (HK.out.trans hK4);clear hB4 hK4 c1 hg1 e38 e60 e62 e13 e34 e9 e10;go_wp2
      go_round
      case rel=>exact ⟨k+1,hlt,by go_num,by rw [← esc_cell1 hlt (by simp_all [escC])]; exact HB4.out,HK4.out⟩
      case measure=>simp [intOf]; omega
    all_goals
     refine (writeString_bld W.heap.size w.heap.size _ _ wr HB.out (by rw [size_lit]; simp; omega)).mono ?_
     rintro e w4 ⟨rfl,hB4,hK4⟩;have HB4:=Lib.hid hB4;have HK4:=Lib.hid (HK.out.trans hK4);clear hB4 hK4 c1 hg1 e38 e60 e62 e13 e34 e9 e10;go_wp2
     go_round
     case rel =>
      refine ⟨k+1,hlt,by go_num,?_,HK4.out⟩
      first
       | (rw [← esc_cells (X:=[38,97,109,112,59]) hlt (by simp_all [escC])]; exact HB4.out)
       | (rw [← esc_cells (X:=[38,108,116,59]) hlt (by simp_all [escC])]; exact HB4.out)
       | (rw [← esc_cells (X:=[38,103,116,59]) hlt (by simp_all [escC])]; exact HB4.out)
       | (rw [← esc_cells (X:=[38,35,49,51,59]) hlt (by simp_all [escC])]; exact HB4.out)
       | (rw [← esc_cells (X:=[38,113,117,111,116,59]) hlt (by simp_all [escC])]; exact HB4.out)
       | (rw [← esc_cells (X:=[38,35,57,59]) hlt (by simp_all [escC])]; exact HB4.out)
       | (rw [← esc_cells (X:=[38,35,49,48,59]) hlt (by simp_all [escC])]; exact HB4.out)
     case measure=>simp [intOf]; omega
  · obtain rfl:k=s.size:=by omega
    have hi1 : ¬ (s.size:Int)<(s.size:Int):=by omega
    have hO:s.data.toList.take s.size=s.data.toList:=List.take_of_length_le (by rw [size_data]; exact Nat.le_refl _);rw [hO] at HB;clear hB hK hO;go_wp2_with fail
    refine (Tryz.Builder_String_any w.heap.size w.heap.size (esc true s.data.toList) wr (HB.out.isB _ (by rw [HSZ.out]; omega) (Nat.le_refl _)) (by have:=HSZ.out; omega)).mono ?_
    rintro e w2 ⟨rfl,hb2⟩;have HZ:=Lib.hid ((HBE.out.trans (HK.out.below (by rw [HSZ.out]; omega) (Nat.le_refl _))).trans hb2);clear hb2;go_wp2
    go_ret
    exact ⟨rfl,HZ.out⟩
theorem escape_any (s:S) (attr:Bool) (w:World) (hs:s.size≤1000000000) :
    Calls Tryz.prog 31 #[.string s,.bool attr] w fun e w'=>e = .returned (.string (bs (esc attr s.data.toList)))∧Below w.heap.size w w':=by
 cases attr
 · exact escape_false s w hs
 · exact escape_true s w hs
theorem pre_app {p u:Bs} (h:p.length≤u.length) (x:Bs):p.isPrefixOf (u ++ x)=p.isPrefixOf u:=by
 induction p generalizing u with
 | nil=>cases u <;> simp [List.isPrefixOf]
 | cons a p ih =>
  cases u with
  | nil=>simp at h
  | cons c u=>simp only [List.cons_append,List.isPrefixOf]; rw [ih (by simpa using h)]
theorem numRef_min {hex:Bool} {a n:Nat} {l t:Bs} (h:numRef hex a l = .ok t n):a+2≤n:=by
 unfold numRef at h;split at h
 · cases h
 split at h
 · cases h
 split at h
 · cases h
 rename_i h3
 split at h
 · simp only [not_or] at h3
   cases h; omega
 · cases h
def restR (nm:Bs) (r:Bs):Res At2:=(wantC 61 (blanks r)).bind fun _ r'=>(valueR (blanks r')).map fun v=>(nm,v)
theorem attrR_eq (acc:List At2) (l:Bs):attrR acc l=(nameR 10 l).bind fun nm r=>if acc.any (fun a=>a.1 == nm) then .bad 15 l else restR nm r:=rfl
def endR (nm:Bs) (ats:List At2) (r':Bs):Res Tk:=match r' with
 | 47::r''=>(wantC 62 r'').map fun _=>⟨2,nm,ats,[]⟩
 | _=>(wantC 62 r').map fun _=>⟨1,nm,ats,[]⟩
theorem endR_47 (nm:Bs) (ats:List At2) (r:Bs):endR nm ats (47::r)=(wantC 62 r).map fun _=>⟨2,nm,ats,[]⟩:=rfl
theorem endR_no (nm:Bs) (ats:List At2) {c:UInt8} (r:Bs) (h:c≠47):endR nm ats (c::r)=(wantC 62 (c::r)).map fun _=>⟨1,nm,ats,[]⟩:=by
 unfold endR;split
 · rename_i h1; cases h1; exact absurd rfl h
 · rfl
theorem openR_eq (l:Bs):openR l=(nameR 11 l).bind fun nm r=>(attrsR r).bind fun ats r'=>endR nm ats r':=rfl
theorem tokS_47 (first:Bool) (l:Bs):tokenR first (60::47::l)=closeR l:=by
 have h1:sNote.isPrefixOf (60::47::l)=false:=by simp [sNote,List.isPrefixOf]
 have h2:sData.isPrefixOf (60::47::l)=false:=by simp [sData,List.isPrefixOf]
 have h3:isHead (60::47::l)=false:=by simp [isHead,sHead,List.isPrefixOf]
 unfold tokenR;rw [h1,h2,h3];simp
theorem tokS_open (first:Bool) {c:UInt8} (l:Bs) (h33:c≠33) (h63:c≠63) (h47:c≠47):tokenR first (60::c::l)=openR (c::l):=by
 have h1:sNote.isPrefixOf (60::c::l)=false:=by simp [sNote,List.isPrefixOf,Ne.symm h33]
 have h2:sData.isPrefixOf (60::c::l)=false:=by simp [sData,List.isPrefixOf,Ne.symm h33]
 have h3:isHead (60::c::l)=false:=by simp [isHead,sHead,List.isPrefixOf,Ne.symm h63]
 unfold tokenR;rw [h1,h2,h3];simp only [Bool.false_eq_true,if_false,Bool.and_false];split
 · rename_i e; cases e; exact absurd rfl h47
 · rename_i e; cases e; rfl
 · rename_i h4; exact absurd rfl (h4 _)
end Go.Proofs.YtecffghcpknmjaaGreatDoor
