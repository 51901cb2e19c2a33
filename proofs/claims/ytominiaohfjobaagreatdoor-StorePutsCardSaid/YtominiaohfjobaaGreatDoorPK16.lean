/- The walk of the program's Build; its conditions stand in the theorem. -/
import Derived.Test.YtominiaohfjobaaGreatDoorPK06
import Derived.Test.YtominiaohfjobaaGreatDoorPK14
import Derived.Test.YtominiaohfjobaaGreatDoorPK07
import Derived.Test.YtominiaohfjobaaGreatDoorPK15
import Derived.Test.YtominiaohfjobaaGreatDoorProg
import Derived.Test.YtominiaohfjobaaGreatDoorPK01
import Derived.KernelRfl
import Derived.Tactics2
import Derived.Defers
import Derived.Laws.Pointers
import Derived.Laws.LoneSync
import Derived.RegionTactic
import Derived.RegionCalls
import Derived.WalkKit
import Derived.WalkSpells
import Derived.WalkLawsBesides
import Derived.LoopTactic
set_option maxRecDepth 100000
set_option maxHeartbeats 64000000
namespace Go.Proofs.YtominiaohfjobaaGreatDoor
open Go Go.RowKit
def ib (W:World) (N:Nat) (a b c d e f g:Value):World:=((((((W.setCell ⟨N,0,none⟩ a).setCell ⟨N,1,none⟩ b).setCell ⟨N,2,none⟩ c).setCell ⟨N,3,none⟩ d).setCell ⟨N+1,0,none⟩ e).setCell ⟨N+1,1,none⟩ f).setCell ⟨N+1,2,none⟩ g
def xO (s:S) (p:Tk × Bs):Value:=eM s.data.toList (aB s p.2)
theorem hQ {W:World} {N:Nat} {u0 u1 u2 u3 p0 p1 p2:Value} (h0:ak W N [u0,u1,u2,u3]) (h1:ak W (N+1) [p0,p1,p2]) (a b c d e f g:Value) :
    ak (ib W N a b c d e f g) N [a,b,c,d]∧ak (ib W N a b c d e f g) (N+1) [e,f,g] :=
 ⟨(((((((h0.set 0 a).set 1 b).set 2 c).set 3 d).grownB (ab _ _ _ _) (by omega)).grownB (ab _ _ _ _) (by omega)).grownB (ab _ _ _ _) (by omega)),
  (((((((h1.grownB (ab _ _ _ _) (by omega)).grownB (ab _ _ _ _) (by omega)).grownB (ab _ _ _ _) (by omega)).grownB (ab _ _ _ _) (by omega)).set 0 e).set 1 f).set 2 g)⟩
theorem ia {B:Nat} {w W:World} {N:Nat} (h:Below B w W) (A:B≤N) (a b c d e f g:Value):Below B w (ib W N a b c d e f g) :=
 bf (bf (bf (bf (bf (bf (bf h N 0 _ A) N 1 _ A) N 2 _ A) N 3 _ A) (N+1) 0 _ (by omega)) (N+1) 1 _ (by omega)) (N+1) 2 _ (by omega)
theorem yc {X:Nat→Prop} {W:World} {N:Nat} (h0:X N) (h1:X (N+1)) (a b c d e f g:Value):aK X W (ib W N a b c d e f g) :=
 ((((((aZ _ N 0 _ h0).trans (aZ _ N 1 _ h0)).trans (aZ _ N 2 _ h0)).trans (aZ _ N 3 _ h0)).trans (aZ _ (N+1) 0 _ h1)).trans (aZ _ (N+1) 1 _ h1)).trans (aZ _ (N+1) 2 _ h1)
theorem xm (s:S) (m:Int) (w:World) {x:Int} {r:Bs} (hs:s.size≤65536) (hm:w.cell? ⟨0,0,none⟩=some (.int .i64 m)) (h:jI s.data.toList = .bad x r) :
    Calls Tryz.prog 51 #[.string s] w (oO s w (.bad x r)):=by
 have dr:(x == 0)=false:=beq_eq_false_iff_ne.2 (s8 h);have bc:0<w.heap.size:=World.block_lt_of_cell? w _ hm;have HA:Hid (∀ W:World,W.cell? ⟨0,0,none⟩=some (.int .i64 m)→Calls Tryz.prog 82 #[.string s] W (kM s W (.bad x r))):=fun W Z=>AV s m W hs Z h;clear h;go_enter Tryz.func51,Tryz.ntmps51
 go_wp2_with fail
 refine Calls.world ?_
 intro W Z;have x0:ak W w.heap.size [.string ⟨#[]⟩,.slice none 0 0,.slice none 0 0,.string ⟨#[]⟩]:=by rw [Z]; exact (ak.new w _ _ _ rfl).alloc _
 have x1:ak W (w.heap.size+1) [.int .i64 0,.int .i64 0,.int .i64 0]:=by rw [Z]; exact ak.new _ _ _ _ (by simp)
 have hB:Below w.heap.size w W:=by rw [Z]; exact ((Below.refl _ w).alloc (Nat.le_refl _) _).alloc (by simp) _
 clear Z;refine (HA.out W ((hB.cell (by exact bc)).trans hm)).mono ?_
 rintro e w1 ⟨rfl,hb⟩;unfold eM;obtain ⟨A,ac⟩ : ∃ A,A=(az (s.data.toList.take (aB s r))).1:=⟨_,rfl⟩;obtain ⟨D,ad⟩ : ∃ D,D=(az (s.data.toList.take (aB s r))).2:=⟨_,rfl⟩;have bl:Hid (eM s.data.toList (aB s r) = .agg #[.int .i64 (aB s r:Nat),.int .i64 A,.int .i64 D]):=by show _=_; rw [ac,ad]; rfl
 rw [← ac,← ad];clear ac ad;have a8:=x0.below hb x0.lt;have a7:=x1.below hb x1.lt;have HB:=zH (hB.trans (hb.mono hB.size));clear x0 x1 hb hB;have a5:=zH a8;have a4:=zH a7;clear a8 a7;go_wp2
 refine ai fun W2 O=>?_
 have I:ak W2 w.heap.size [.string ⟨#[]⟩,.slice none 0 0,.slice none 0 0,.string ⟨#[]⟩]:=by rw [O]; exact a5.out.alloc _
 have U:ak W2 (w.heap.size+1) [.int .i64 0,.int .i64 0,.int .i64 0]:=by rw [O]; exact a4.out.alloc _
 have y2:ak W2 w1.heap.size [.int .i64 (aB s r:Nat),.int .i64 A,.int .i64 D]:=by rw [O]; exact ak.new w1 _ _ _ rfl
 have ah:Below w.heap.size w W2:=by rw [O]; exact HB.out.alloc HB.out.size _
 clear O;have d8:=zH ah;obtain ⟨p0,p1,p2,p3⟩:=xx I;have dn:=I.free 0;have dl:=I.free 1;have dk:=I.free 2;have dg:=I.free 3;obtain ⟨q0,q1,q2⟩:=ej U;have c9:=U.free 0;have c8:=U.free 1;have cT:=U.free 2;obtain ⟨r0,r1,r2⟩:=ej y2;have pl:=I.lt;have ql:=U.lt;have rl:=y2.lt;have d7:w.heap.size≠w1.heap.size:=by have:=a5.out.lt; omega
 have b4:w.heap.size+1≠w1.heap.size:=by have:=a4.out.lt; omega
 have aa:=hQ I U (.string ⟨#[]⟩) (.slice none 0 0) (.slice none 0 0) (.string ⟨#[]⟩) (.int .i64 (aB s r:Nat)) (.int .i64 A) (.int .i64 D);have ag:=ia ah (Nat.le_refl _) (.string ⟨#[]⟩) (.slice none 0 0) (.slice none 0 0) (.string ⟨#[]⟩) (.int .i64 (aB s r:Nat)) (.int .i64 A) (.int .i64 D);unfold ib at aa ag;have a9:=zH aa;have bo:=zH ag;clear I U y2 ah a5 a4 HB aa ag;generalize w1.heap.size=b2 at *;go_region
 all_goals
  go_wp2
  obtain ⟨W3,J⟩ : ∃ W3,W3=(ib W2 w.heap.size (.string ⟨#[]⟩) (.slice none 0 0) (.slice none 0 0) (.string ⟨#[]⟩) (.int .i64 (aB s r:Nat)) (.int .i64 A) (.int .i64 D)).drew:=⟨_,rfl⟩;unfold ib at J;rw [← J];have z0:ak W3 w.heap.size [.string ⟨#[]⟩,.slice none 0 0,.slice none 0 0,.string ⟨#[]⟩]:=by rw [J]; exact a9.out.1.drew
  have z1:ak W3 (w.heap.size+1) [.int .i64 (aB s r:Nat),.int .i64 A,.int .i64 D]:=by rw [J]; exact a9.out.2.drew
  have bg:Below w.heap.size w W3:=by rw [J]; exact aY bo.out 1
  obtain ⟨d0,d1,d2,d3⟩:=xx z0;obtain ⟨d4,d5,d6⟩:=ej z1;refine bodyPost_ret (v:=.tuple #[iB,.int .i64 x,.agg #[.int .i64 (aB s r:Nat),.int .i64 A,.int .i64 D]]) (by simp [results,Tryz.results51,go_sem,d0,d1,d2,d3,d4,d5,d6,iB]) rfl ?_
  exact ⟨by rw [bl.out],bg⟩
theorem zg (s:S) (m:Int) (w:World) {acc:List (Tk × Bs)} {r:Bs} (hs:s.size≤65536) (hm:w.cell? ⟨0,0,none⟩=some (.int .i64 m)) (h:jI s.data.toList = .ok acc r) :
    Calls Tryz.prog 51 #[.string s] w (oO s w (ku xC acc)):=by
 have hX:0<w.heap.size:=World.block_lt_of_cell? w _ hm;have HA:Hid (∀ W:World,W.cell? ⟨0,0,none⟩=some (.int .i64 m)→Calls Tryz.prog 82 #[.string s] W (kM s W (.ok acc r))):=fun W hW=>Bm s m W hs hW h;obtain ⟨lk,b2,b4⟩:=tv h (by rw [au]; exact hs);have iv:=zH b2;have k6:=zH b4;clear h b2 b4;go_enter Tryz.func51,Tryz.ntmps51
 go_wp2_with fail
 refine Calls.world ?_
 intro W hW;have x0:ak W w.heap.size [.string ⟨#[]⟩,.slice none 0 0,.slice none 0 0,.string ⟨#[]⟩]:=by rw [hW]; exact (ak.new w _ _ _ rfl).alloc _
 have x1:ak W (w.heap.size+1) [.int .i64 0,.int .i64 0,.int .i64 0]:=by rw [hW]; exact ak.new _ _ _ _ (by simp)
 have hB:Below w.heap.size w W:=by rw [hW]; exact ((Below.refl _ w).alloc (Nat.le_refl _) _).alloc (by simp) _
 have l2:W.heap.size=w.heap.size+2:=by rw [hW]; simp
 clear hW;refine (HA.out W ((hB.cell (by exact hX)).trans hm)).mono ?_
 rintro e w1 ⟨ov,L,rfl,hT,hb⟩;have HT:Hid (∀ B,w1.heap.size≤B→jK (w.heap.size+2) B w1 s ov acc):=fun B hB=>jK.of hT (by omega) hB;obtain ⟨ao,cap,d8⟩:=(HT.out _ (Nat.le_refl _)).1;subst d8;have g8:=x0.below hb x0.lt;have g7:=x1.below hb x1.lt;have hr:=hB.trans (hb.mono hB.size);clear x0 x1 hb hB hT;have hv:=zH g8;have el:=zH g7;have g5:=zH hr;clear g8 g7 hr;unfold eT;go_wp2
 refine ai fun W2 b6=>?_
 have A:ak W2 w.heap.size [.string ⟨#[]⟩,.slice none 0 0,.slice none 0 0,.string ⟨#[]⟩]:=by rw [b6]; exact (hv.out.alloc _).alloc _
 have D:ak W2 (w.heap.size+1) [.int .i64 0,.int .i64 0,.int .i64 0]:=by rw [b6]; exact (el.out.alloc _).alloc _
 have hC:gT (w.heap.size+2) W2 (w1.heap.size+1) xC 0 (fun k=>k=w1.heap.size+1∨k<w.heap.size+2) (.slice none 0 0) []:=by
  rw [b6];exact ⟨bD.init _ _ (by simp) (by have:=el.out.lt; omega) _ _ _ _,by simp [xC],by simp [xC],by simp [xC],by simp [xC]⟩
 have gc:Below w1.heap.size w1 W2:=by rw [b6]; exact ((Below.refl _ _).alloc (Nat.le_refl _) _).alloc (by simp) _
 have hl:jK (w.heap.size+2) (w1.heap.size+1) W2 s (.slice ao acc.length cap) acc:=((HT.out _ (Nat.le_refl _)).below gc).mono (by omega);have hq:Below w.heap.size w W2:=g5.out.trans (gc.mono g5.out.size);have lF:w.heap.size+2≤w1.heap.size:=by have:=el.out.lt; omega
 have HC:=zH hC;have kb:=zH hl;have en:=zH hq;have ei:=zH A;have eg:=zH D;clear hC hl hq A D gc b6 hv el g5 HT HA;generalize w1.heap.size=b1 at *;go_loopw [10,11,28] (fun _ _ i wr=>∃ (k:Nat) (st:lM) (X:Nat→Prop) (ov:Value) (ps:List (Nat × Nat)),k≤acc.length∧i = .int .i64 k∧Hid (gT (w.heap.size+2) wr (b1+1) st (2*k) X ov ps∧Below (b1+1) W2 wr∧ku xC acc=ku st (acc.drop k))) (fun _ _ i _=>acc.length - (intOf i).toNat)
 case atStart=>exact ⟨0,xC,_,_,_,Nat.zero_le _,rfl,HC.out,Below.refl _ _,rfl⟩
 case round =>
  obtain ⟨k,st,X,ov,ps,hk,rfl,HR⟩:=hrel;by_cases hlt:k<acc.length
  · obtain ⟨g,o,g4,av,e,hg,c0,c1,c2,c3,c4,c5,c6,ha⟩:=(kb.out.below HR.out.2.1).2 k acc[k].1 acc[k].2 (List.getElem?_eq_getElem hlt)
    simp only [Value.slice.injEq,true_and] at e;obtain ⟨rfl,rfl⟩:=e;have hE:Hid (acc.drop k=acc[k]::acc.drop (k+1)):=List.drop_eq_getElem_cons hlt;have h5:(k:Int)<(acc.length:Int):=by omega
    have h7:g<wr.heap.size:=by have:=HR.out.1.core.lt; omega
    obtain ⟨ta,tc,gv⟩:=ha.shape;have ex:=zH ha;have b2:=iv.out k hlt;have b4:=k6.out k hlt;have hw:=zH fun o'=>tB (wr.alloc o') (b1+1) (2*k) st X ov ps (HR.out.1.below ((Below.refl _ wr).alloc (Nat.le_refl _) o')) acc[k].1 av (aB s acc[k].2:Nat) (az (s.data.toList.take (aB s acc[k].2))).1 (az (s.data.toList.take (aB s acc[k].2))).2 (ex.out.below ((Below.refl _ wr).alloc (Nat.le_of_lt HR.out.1.core.lt) o')) b4 b2 (by omega);have em:Hid (xO s acc[k] = .agg #[.int .i64 (aB s acc[k].2:Nat),.int .i64 (az (s.data.toList.take (aB s acc[k].2))).1,.int .i64 (az (s.data.toList.take (aB s acc[k].2))).2]):=rfl;unfold fA at hw;subst gv;have ko:Hid (∀ x,dQ st acc[k].1 = .bad x→x≠0):=fun x hx=>vQ hx;have kE:Hid (∀ a9,dQ st acc[k].1 = .ok a9→ku st (acc.drop k)=ku a9 (acc.drop (k+1))):=fun a9 h=>by rw [hE.out]; simp only [ku,h]
    have kr:Hid (∀ x,dQ st acc[k].1 = .bad x→ku st (acc.drop k) = .bad x acc[k].2):=fun x h=>by rw [hE.out]; simp only [ku,h]
    clear ha b2 b4;generalize aB s acc[k].2=P at *;generalize (az (s.data.toList.take P)).1=li at *;generalize (az (s.data.toList.take P)).2=co at *;generalize acc[k].1=t at *;go_wp2_with fail
    refine (hw.out _).mono ?_
    intro e w2 hO;have hj:=ak.new wr [.int .i64 t.kind,.string (bs t.name),.slice ta t.attrs.length tc,.string (bs t.text),.int .i64 P,.int .i64 li,.int .i64 co] 162 _ rfl;have k7:=zH hj;have hF:Hid (Below (b1+1) wr (wr.alloc (.cells #[.int .i64 t.kind,.string (bs t.name),.slice ta t.attrs.length tc,.string (bs t.text),.int .i64 P,.int .i64 li,.int .i64 co] 162))):=(Below.refl _ wr).alloc (Nat.le_of_lt HR.out.1.core.lt) _;clear hj c0 c1 c2 c3 c4 c5 c6 h7;cases hR:dQ st t with
    | ok a9 =>
     rw [hR] at hO;obtain ⟨rfl,⟨X',hc,g9,hu⟩,hb⟩:=hO;have e9:gT (w.heap.size+2) w2 (b1+1) a9 (2*(k+1)) X' hc g9∧Below (b1+1) W2 w2∧ku xC acc=ku a9 (acc.drop (k+1)):=⟨hu,(HR.out.2.1.trans hF.out).trans hb,by rw [HR.out.2.2,kE.out a9 hR]⟩;have HN:=zH e9;clear hu hb e9;go_wp2
     go_roundw
     case rel=>exact ⟨k+1,a9,X',hc,g9,hlt,by go_num,HN.out⟩
     case measure=>simp [intOf]; omega
    | bad x =>
     rw [hR] at hO;obtain ⟨rfl,hi,hb⟩:=hO;have lx:(x == 0)=false:=beq_eq_false_iff_ne.2 (ko.out x hR);have Z:Below (b1+1) W2 w2:=(HR.out.2.1.trans hF.out).trans hb;have A:=ei.out.below Z (by omega);have D:=eg.out.below Z (by omega);have y2:=k7.out.grownB hi (by have:=HR.out.1.core.lt; omega);have a0:Below w.heap.size w w2:=en.out.trans (Z.mono (by omega));have ba:ku xC acc = .bad x acc[k].2:=by rw [HR.out.2.2,kr.out x hR]
     have O:=hQ A D (.string ⟨#[]⟩) (.slice none 0 0) (.slice none 0 0) (.string ⟨#[]⟩) (.int .i64 P) (.int .i64 li) (.int .i64 co);have U:=ia a0 (Nat.le_refl _) (.string ⟨#[]⟩) (.slice none 0 0) (.slice none 0 0) (.string ⟨#[]⟩) (.int .i64 P) (.int .i64 li) (.int .i64 co);unfold ib at O U;have a4:=zH O;have bl:=zH U;have p0:=A.cell 0 _ rfl;have e8:=A.free 0;have p1:=A.cell 1 _ rfl;have e7:=A.free 1;have p2:=A.cell 2 _ rfl;have e6:=A.free 2;have p3:=A.cell 3 _ rfl;have e5:=A.free 3;have q0:=D.cell 0 _ rfl;have e4:=D.free 0;have q1:=D.cell 1 _ rfl;have eV:=D.free 1;have q2:=D.cell 2 _ rfl;have eU:=D.free 2;have pl:=A.lt;have ql:=D.lt;have t4:=y2.cell 4 _ rfl;have t5:=y2.cell 5 _ rfl;have t6:=y2.cell 6 _ rfl;have tl:=y2.lt;have l0:=HR.out.1.core.lt;have hd:w.heap.size≠wr.heap.size:=by omega
     have fv:w.heap.size+1≠wr.heap.size:=by omega
     have bc:=zH ba;clear O U Z A D y2 a0 hi hb ba;go_wp2
     go_region
     all_goals
      go_wp2
      obtain ⟨J,I⟩ : ∃ J,J=(ib w2 w.heap.size (.string ⟨#[]⟩) (.slice none 0 0) (.slice none 0 0) (.string ⟨#[]⟩) (.int .i64 P) (.int .i64 li) (.int .i64 co)).drew:=⟨_,rfl⟩;unfold ib at I;rw [← I];have z0:ak J w.heap.size [.string ⟨#[]⟩,.slice none 0 0,.slice none 0 0,.string ⟨#[]⟩]:=by rw [I]; exact a4.out.1.drew
      have z1:ak J (w.heap.size+1) [.int .i64 P,.int .i64 li,.int .i64 co]:=by rw [I]; exact a4.out.2.drew
      have Z:Below w.heap.size w J:=by rw [I]; exact aY bl.out 1
      obtain ⟨d0,d1,d2,d3⟩:=xx z0;obtain ⟨d4,d5,d6⟩:=ej z1;refine bodyPost_ret (v:=.tuple #[iB,.int .i64 x,.agg #[.int .i64 P,.int .i64 li,.int .i64 co]]) (by simp [results,Tryz.results51,go_sem,d0,d1,d2,d3,d4,d5,d6,iB]) rfl ?_
      rw [bc.out];exact ⟨by rw [show eM s.data.toList (aB s acc[k].2)=_ from em.out],Z⟩
  · obtain rfl:k=acc.length:=by omega
    have h5 : ¬ (acc.length:Int)<(acc.length:Int):=by omega
    have ba:ku xC acc=ku st []:=by rw [HR.out.2.2,List.drop_length]
    have bc:=zH ba;have ex:Hid (∀ W,Calls Tryz.prog 84 #[.string s,.int .i64 s.size] W fun e w'=>e = .returned (eM s.data.toList s.size)∧Below W.heap.size W w'):=fun W=>zn s s.size W (Nat.le_refl _) (by omega);clear ba;go_wp2_with fail
    refine (ex.out wr).mono ?_
    rintro e w2 ⟨rfl,hb⟩;have hC:=HR.out.1.below hb;have Z:Below (b1+1) W2 w2:=HR.out.2.1.trans (hb.mono (Nat.le_of_lt HR.out.1.core.lt));have em:Hid (eM s.data.toList s.size = .agg #[.int .i64 s.size,.int .i64 (az (s.data.toList.take s.size)).1,.int .i64 (az (s.data.toList.take s.size)).2]):=rfl;unfold eM;generalize (az (s.data.toList.take s.size)).1=li at *;generalize (az (s.data.toList.take s.size)).2=co at *;have bg:=zH hC;have k8:=zH Z;clear hb hC Z ex;have c4:=bg.out.core.c4;have c6:=bg.out.core.c6;have b3:=bg.out.core.lt;obtain ⟨oa,lg,d8⟩:=bg.out.shape;rw [d8] at c4;have W4:Hid (∀ o':Obj,Below (b1+1) W2 (w2.alloc o')∧gT (w.heap.size+2) (w2.alloc o') (b1+1) st (2*acc.length) X ov ps):=fun o'=>⟨k8.out.alloc (Nat.le_of_lt b3) _,bg.out.below ((Below.refl _ _).alloc (Nat.le_refl _) _)⟩;obtain ⟨stack,root,l3,tx⟩:=st;cases stack with
    | cons f fs =>
     simp only [List.length_cons] at c4;have lV:(0:Int)<(fs.length:Int)+1:=by omega
     go_wp2
     refine ai fun w3 al=>?_
     have ad:Below (b1+1) W2 w3:=by rw [al]; exact (W4.out _).1
     have A:=ei.out.below ad (by omega);have D:=eg.out.below ad (by omega);have y2:ak w3 w2.heap.size [.int .i64 s.size,.int .i64 li,.int .i64 co]:=by rw [al]; exact ak.new w2 _ _ _ rfl
     have a0:Below w.heap.size w w3:=en.out.trans (ad.mono (by omega));clear al;have O:=hQ A D (.string ⟨#[]⟩) (.slice none 0 0) (.slice none 0 0) (.string ⟨#[]⟩) (.int .i64 s.size) (.int .i64 li) (.int .i64 co);have U:=ia a0 (Nat.le_refl _) (.string ⟨#[]⟩) (.slice none 0 0) (.slice none 0 0) (.string ⟨#[]⟩) (.int .i64 s.size) (.int .i64 li) (.int .i64 co);unfold ib at O U;have a4:=zH O;have bl:=zH U;have p0:=A.cell 0 _ rfl;have e8:=A.free 0;have p1:=A.cell 1 _ rfl;have e7:=A.free 1;have p2:=A.cell 2 _ rfl;have e6:=A.free 2;have p3:=A.cell 3 _ rfl;have e5:=A.free 3;have q0:=D.cell 0 _ rfl;have e4:=D.free 0;have q1:=D.cell 1 _ rfl;have eV:=D.free 1;have q2:=D.cell 2 _ rfl;have eU:=D.free 2;have pl:=A.lt;have ql:=D.lt;obtain ⟨t0,t1,t2⟩:=ej y2;have tl:=y2.lt;have hd:w.heap.size≠w2.heap.size:=by omega
     have fv:w.heap.size+1≠w2.heap.size:=by omega
     clear O U ad A D y2 a0;go_region
     all_goals
      go_wp2
      obtain ⟨J,I⟩ : ∃ J,J=(ib w3 w.heap.size (.string ⟨#[]⟩) (.slice none 0 0) (.slice none 0 0) (.string ⟨#[]⟩) (.int .i64 s.size) (.int .i64 li) (.int .i64 co)).drew:=⟨_,rfl⟩;unfold ib at I;rw [← I];have z0:ak J w.heap.size [.string ⟨#[]⟩,.slice none 0 0,.slice none 0 0,.string ⟨#[]⟩]:=by rw [I]; exact a4.out.1.drew
      have z1:ak J (w.heap.size+1) [.int .i64 s.size,.int .i64 li,.int .i64 co]:=by rw [I]; exact a4.out.2.drew
      have Z:Below w.heap.size w J:=by rw [I]; exact aY bl.out 1
      obtain ⟨d0,d1,d2,d3⟩:=xx z0;obtain ⟨d4,d5,d6⟩:=ej z1;refine bodyPost_ret (v:=.tuple #[iB,.int .i64 13,.agg #[.int .i64 s.size,.int .i64 li,.int .i64 co]]) (by simp [results,Tryz.results51,go_sem,d0,d1,d2,d3,d4,d5,d6,iB]) rfl ?_
      rw [bc.out];exact ⟨by rw [m7,em.out],Z⟩
    | nil =>
     simp only [List.length_nil] at c4;cases root with
     | none =>
      simp only [Option.isSome_none] at c6;go_wp2
      refine ai fun w3 al=>?_
      have ad:Below (b1+1) W2 w3:=by rw [al]; exact (W4.out _).1
      have A:=ei.out.below ad (by omega);have D:=eg.out.below ad (by omega);have y2:ak w3 w2.heap.size [.int .i64 s.size,.int .i64 li,.int .i64 co]:=by rw [al]; exact ak.new w2 _ _ _ rfl
      have a0:Below w.heap.size w w3:=en.out.trans (ad.mono (by omega));clear al;have O:=hQ A D (.string ⟨#[]⟩) (.slice none 0 0) (.slice none 0 0) (.string ⟨#[]⟩) (.int .i64 s.size) (.int .i64 li) (.int .i64 co);have U:=ia a0 (Nat.le_refl _) (.string ⟨#[]⟩) (.slice none 0 0) (.slice none 0 0) (.string ⟨#[]⟩) (.int .i64 s.size) (.int .i64 li) (.int .i64 co);unfold ib at O U;have a4:=zH O;have bl:=zH U;have p0:=A.cell 0 _ rfl;have e8:=A.free 0;have p1:=A.cell 1 _ rfl;have e7:=A.free 1;have p2:=A.cell 2 _ rfl;have e6:=A.free 2;have p3:=A.cell 3 _ rfl;have e5:=A.free 3;have q0:=D.cell 0 _ rfl;have e4:=D.free 0;have q1:=D.cell 1 _ rfl;have eV:=D.free 1;have q2:=D.cell 2 _ rfl;have eU:=D.free 2;have pl:=A.lt;have ql:=D.lt;obtain ⟨t0,t1,t2⟩:=ej y2;have tl:=y2.lt;have hd:w.heap.size≠w2.heap.size:=by omega
      have fv:w.heap.size+1≠w2.heap.size:=by omega
      clear O U ad A D y2 a0;go_region
      all_goals
       go_wp2
       obtain ⟨J,I⟩ : ∃ J,J=(ib w3 w.heap.size (.string ⟨#[]⟩) (.slice none 0 0) (.slice none 0 0) (.string ⟨#[]⟩) (.int .i64 s.size) (.int .i64 li) (.int .i64 co)).drew:=⟨_,rfl⟩;unfold ib at I;rw [← I];have z0:ak J w.heap.size [.string ⟨#[]⟩,.slice none 0 0,.slice none 0 0,.string ⟨#[]⟩]:=by rw [I]; exact a4.out.1.drew
       have z1:ak J (w.heap.size+1) [.int .i64 s.size,.int .i64 li,.int .i64 co]:=by rw [I]; exact a4.out.2.drew
       have Z:Below w.heap.size w J:=by rw [I]; exact aY bl.out 1
       obtain ⟨d0,d1,d2,d3⟩:=xx z0;obtain ⟨d4,d5,d6⟩:=ej z1;refine bodyPost_ret (v:=.tuple #[iB,.int .i64 16,.agg #[.int .i64 s.size,.int .i64 li,.int .i64 co]]) (by simp [results,Tryz.results51,go_sem,d0,d1,d2,d3,d4,d5,d6,iB]) rfl ?_
       rw [bc.out];exact ⟨by rw [m7,em.out],Z⟩
     | some t =>
      simp only [Option.isSome_some] at c6;have ht:=bg.out.core.tree
      obtain ⟨av,kv,b5,d9⟩ : ∃ av kv,vA w2 (b1+1) 0 (kh t.name av kv t.text)∧bj X w2 t av kv:=by
       cases ht with
       | root av kv h1 h2=>exact ⟨av,kv,h1,h2⟩
      have k0:=b5 0 _ rfl;have k1:=b5 1 _ rfl;have k2:=b5 2 _ rfl;have k3:=b5 3 _ rfl;simp only [Nat.zero_add] at k0 k1 k2 k3;clear ht b5 c4 c6;go_upto_region 13 with fail
      refine ai fun w3 al=>?_
      have ad:Below (b1+1) W2 w3:=by rw [al]; exact (W4.out _).1
      have bb:Below w2.heap.size w2 w3:=by rw [al]; exact (Below.refl _ _).alloc (Nat.le_refl _) _
      have bo:=bg.out.below bb;have fz:=d9.later bb;rw [← bb.cell (p:=⟨b1+1,0,none⟩) (by exact b3)] at k0;rw [← bb.cell (p:=⟨b1+1,1,none⟩) (by exact b3)] at k1;rw [← bb.cell (p:=⟨b1+1,2,none⟩) (by exact b3)] at k2;rw [← bb.cell (p:=⟨b1+1,3,none⟩) (by exact b3)] at k3;have c4:=bo.core.c4;have c6:=bo.core.c6;have l1:=bo.core.lt;rw [d8] at c4;simp only [List.length_nil,Option.isSome_some] at c4 c6;have A:=ei.out.below ad (by omega);have D:=eg.out.below ad (by omega);have a0:Below w.heap.size w w3:=en.out.trans (ad.mono (by omega));have cm:X w.heap.size∧X (w.heap.size+1):=⟨bo.core.xlo _ (by omega),bo.core.xlo _ (by omega)⟩;have ga:=yc cm.1 cm.2 (W:=w3) (.string (bs t.name)) av kv (.string (bs t.text)) (.int .i64 0) (.int .i64 0) (.int .i64 0);unfold ib at ga;have hA:=zH ga;have k4:=zH fz;obtain ⟨N1,ef⟩ : ∃ N1:S,N1=bs t.name:=⟨_,rfl⟩;obtain ⟨T1,ed⟩ : ∃ T1:S,T1=bs t.text:=⟨_,rfl⟩;have k5:=zH ef;have km:=zH ed;rw [← ef] at k0;rw [← ed] at k3;rw [← ef,← ed] at hA
      obtain ⟨aa,an,ac,gv⟩ : ∃ aa an ac,av = .slice aa an ac:=by
       obtain ⟨_,-,h1,-⟩:=d9.parts;obtain ⟨h9,g4,e⟩:=h1.shape;exact ⟨_,_,_,e⟩
      obtain ⟨ka,kn,kc,h4⟩ : ∃ ka kn kc,kv = .slice ka kn kc:=by
       obtain ⟨_,-,-,h1,-⟩:=d9.parts;obtain ⟨h9,g4,e⟩:=h1.shape;exact ⟨_,_,_,e⟩
      subst gv h4;have O:=hQ A D (.string N1) (.slice aa an ac) (.slice ka kn kc) (.string T1) (.int .i64 0) (.int .i64 0) (.int .i64 0);have U:=ia a0 (Nat.le_refl _) (.string N1) (.slice aa an ac) (.slice ka kn kc) (.string T1) (.int .i64 0) (.int .i64 0) (.int .i64 0);unfold ib at O U;have a4:=zH O;have bl:=zH U;have p0:=A.cell 0 _ rfl;have e8:=A.free 0;have p1:=A.cell 1 _ rfl;have e7:=A.free 1;have p2:=A.cell 2 _ rfl;have e6:=A.free 2;have p3:=A.cell 3 _ rfl;have e5:=A.free 3;have q0:=D.cell 0 _ rfl;have e4:=D.free 0;have q1:=D.cell 1 _ rfl;have eV:=D.free 1;have q2:=D.cell 2 _ rfl;have eU:=D.free 2;have pl:=A.lt;have ql:=D.lt;clear O U ad A D a0 al ga d9 fz bb bo ef ed cm;go_wp2
      obtain ⟨J,I⟩ : ∃ J,J=ib w3 w.heap.size (.string N1) (.slice aa an ac) (.slice ka kn kc) (.string T1) (.int .i64 0) (.int .i64 0) (.int .i64 0):=⟨_,rfl⟩;unfold ib at I;rw [← I];have z0:ak J w.heap.size [.string N1,.slice aa an ac,.slice ka kn kc,.string T1]:=by rw [I]; exact a4.out.1
      have z1:ak J (w.heap.size+1) [.int .i64 0,.int .i64 0,.int .i64 0]:=by rw [I]; exact a4.out.2
      have Z:Below w.heap.size w J:=by rw [I]; exact bl.out
      have h6:aK X w3 J:=by rw [I]; exact hA.out
      obtain ⟨d0,d1,d2,d3⟩:=xx z0;obtain ⟨d4,d5,d6⟩:=ej z1;refine bodyPost_ret (v:=.tuple #[.agg #[.string N1,.slice aa an ac,.slice ka kn kc,.string T1],.int .i64 0,eT]) (by simp [results,Tryz.results51,go_sem,d0,d1,d2,d3,d4,d5,d6,eT]) rfl ?_
      rw [bc.out];exact ⟨.slice aa an ac,.slice ka kn kc,by rw [k5.out,km.out]; rfl,(k4.out.keep h6 (fun _ _ h=>h)).node,Z⟩
theorem xp (s:S) (m:Int) (w:World) (A:s.size≤65536) (hm:w.cell? ⟨0,0,none⟩=some (.int .i64 m)):Calls Tryz.prog 51 #[.string s] w (oO s w (kI s.data.toList)):=by
 unfold kI;cases h:jI s.data.toList with
 | ok acc r=>exact zg s m w A hm h
 | bad x r=>exact xm s m w A hm h
theorem gY:(Tryz.prog.info? 55).map (·.size)=some 11:=by kernel_rfl
theorem cy.flat {base:Nat} {w:World} {p:pq} {pv mv dv:Value} (h:cy base w p pv mv dv) : ∃ a1 n1 c1 a2 n2 c2 a3 n3 c3,pv = .slice a1 n1 c1∧mv = .slice a2 n2 c2∧dv = .slice a3 n3 c3:=by
 obtain ⟨a1,c1,rfl⟩:=h.props.shape;obtain ⟨I,h2⟩:=h.managed;obtain ⟨a2,c2,hm⟩:=h2.row.shape;obtain ⟨D,h3⟩:=h.deps;obtain ⟨a3,c3,A⟩:=h3.row.shape;exact ⟨_,_,_,_,_,_,_,_,_,rfl,hm,A⟩
theorem cy.grownB {base r:Nat} {w w':World} {p:pq} {pv mv dv:Value} (h:cy base w p pv mv dv) (D:w.grownBy w' (some r)) (I:r<base):cy base w' p pv mv dv :=
 h.moved fun k hk A=>D.block k A (by intro e; cases e; omega)
def zF (eb:Nat) (s:S) (d1 D A:Value) (p:pq) (w:World) (e:Ending) (w':World):Prop:=e = .returned (.tuple #[])∧w.grownBy w' (some eb) ∧
 ∃ pv mv dv,ak w' eb ([.string s,d1,D,A] ++ nF p pv mv dv ++ [.int .i64 0,.string ⟨#[]⟩,.string ⟨#[]⟩,.string ⟨#[]⟩,.int .i64 0,.int .i64 0,.int .i64 0,.string ⟨#[]⟩])∧cy w.heap.size w' p pv mv dv
theorem wU (eb:Nat) (s:S) (d1 d2 d3:Value) (g:bp) (t:Tr) (q:Bs) (m:Int) (w:World) (bb:List Value) (b5:bb.length=11) (A:ak w eb ([.string s,d1,d2,d3] ++ bb ++ [.int .i64 0,.string ⟨#[]⟩,.string ⟨#[]⟩,.string ⟨#[]⟩,.int .i64 0,.int .i64 0,.int .i64 0,.string ⟨#[]⟩])) (hs:s.size≤65536) (b7:kI s.data.toList = .ok t q) (ht:fq t) (hr:dz t=none)
    (hm:w.cell? ⟨0,0,none⟩=some (.int .i64 m)):Calls Tryz.prog 37 #[jr eb,.agg #[.string g.group,.string g.artifact,.string g.version]] w (zF eb s d1 d2 d3 (eL t) w):=by
 have b4:0<w.heap.size:=World.block_lt_of_cell? w _ hm
 have cm:Hid (∀ W,Below w.heap.size w W→Calls Tryz.prog 51 #[.string s] W fun e w'=>∃ ao an ac Z kn kc,e = .returned (.tuple #[.agg #[.string (bs t.name),.slice ao an ac,.slice Z kn kc,.string (bs t.text)],.int .i64 0,.agg #[.int .i64 0,.int .i64 0,.int .i64 0]])∧dJ w' t (.slice ao an ac) (.slice Z kn kc)∧Below W.heap.size W w'):=fun W h=>by
  have h1:=xp s m W hs ((h.cell (by exact b4)).trans hm);rw [b7] at h1;refine h1.mono fun e w' hO=>?_
  obtain ⟨av,kv,he,hn,A⟩:=hO;obtain ⟨a1,a2,a3,a4,rfl,rfl,-,-⟩:=hn.shape;exact ⟨_,_,_,_,_,_,he,hn,A⟩
 have HM:=zH ht;have d6:=zH b5;have HR:=zH hr;have HE:=zH A;have b6:=A.lt;clear hm ht b7 hs b4 hr A b5;unfold jr;go_enter Tryz.func37,Tryz.ntmps37
 go_upto_region 1 with fail
 refine ai fun W hW=>?_
 have x1:ak W w.heap.size [.string g.group,.string g.artifact,.string g.version]:=by rw [hW]; exact ak.new w [.string g.group,.string g.artifact,.string g.version] _ _ rfl
 have A:Below w.heap.size w W:=by rw [hW]; exact (Below.refl _ w).alloc (Nat.le_refl _) _
 clear hW;have HX:=zH x1;have HB:=zH A;have O:=zH (HE.out.below A b6);clear x1 A;have e0:=O.out.cell 0 _ rfl;have el:=O.out.lt;go_wp2_with fail
 refine (cm.out _ HB.out).mono ?_
 rintro e w1 ⟨ao,an,ac,Z,kn,kc,rfl,hn,J⟩;have bv:=zH (O.out.below J el);have d4:=zH (HX.out.below J HX.out.lt);have b2:=zH (HB.out.trans (J.mono HB.out.size));have HN:=zH hn;clear hn J HX cm e0 el O HB;go_upto_region 2 with fail
 refine ai fun W2 a5=>?_
 have x2:ak W2 w1.heap.size [.string (bs t.name),.slice ao an ac,.slice Z kn kc,.string (bs t.text)]:=by rw [a5]; exact (ak.new w1 [.string (bs t.name),.slice ao an ac,.slice Z kn kc,.string (bs t.text)] _ _ rfl).alloc _
 have I:Below w1.heap.size w1 W2:=by rw [a5]; exact ((Below.refl _ w1).alloc (Nat.le_refl _) _).alloc (by simp) _
 clear a5;have bo:=zH (bv.out.below I bv.out.lt);have cf:=zH (HN.out.later I);have U:=zH (b2.out.trans (I.mono b2.out.size));have b8:Hid (Calls Tryz.prog 58 #[.agg #[.string (bs t.name),.slice ao an ac,.slice Z kn kc,.string (bs t.text)]] W2 (nk t W2)):=vY t W2 _ _ cf.out HM.out;obtain ⟨a0,a1,a2,a3⟩:=xx x2;have al:=x2.lt;clear x2 I HN cf d4 bv b2;go_wp2_with fail
 refine b8.out.mono ?_
 intro e w3 hO;obtain ⟨pv,mv,dv,rfl,ho⟩:=hO.2.2 HR.out;have ag:=hO.1;obtain ⟨a9,n1,c1,a8,n2,c2,a7,n3,c3,rfl,rfl,rfl⟩:=ho.flat;have bl:=zH (bo.out.below ag bo.out.lt);have b0:=zH (U.out.trans (ag.mono U.out.size));have HO:=zH (ho.base_mono U.out.size);clear a0 a1 a2 a3 al hO ag b8 bo U ho;have b9:=HO.out;clear HO HR;generalize eL t=p at *;obtain ⟨hp,⟨q1,q2,q3⟩,q4,q5,q6,q7,ps,ms,ds⟩:=p;have HO:=zH b9;clear b9;simp only [nF];go_upto_region 7 with fail
 refine ai fun W4 ah=>?_
 have x4:ak W4 w3.heap.size [.bool hp,.string q1,.string q2,.string q3,.string q4,.string q5,.string q6,.string q7,.slice a9 n1 c1,.slice a8 n2 c2,.slice a7 n3 c3]:=by rw [ah]; exact ak.new w3 [.bool hp,.string q1,.string q2,.string q3,.string q4,.string q5,.string q6,.string q7,.slice a9 n1 c1,.slice a8 n2 c2,.slice a7 n3 c3] _ _ rfl
 have D:Below w3.heap.size w3 W4:=by rw [ah]; exact (Below.refl _ w3).alloc (Nat.le_refl _) _
 clear ah;have bg:=zH (bl.out.below D bl.out.lt);have d9:=zH (b0.out.trans (D.mono b0.out.size));have d7:=zH (HO.out.below D);clear D bl b0 HO;obtain ⟨k0,k1,k2,k3,k4,k5,k6,k7,k8,k9,em⟩:=rH x4;have kl:=x4.lt;have e0:=bg.out.cell 0 _ rfl;have el:=bg.out.lt;clear x4;go_wp2_with ((with_reducible show wpList _ _ _ (Oper.mk none (Op.store 55 (.tmp 45) (.tmp 43)) _ _ _ _::_) _ _); refine kP rfl 55 (.tmp 45) (.tmp 43) rfl eb 4 [.string s,d1,d2,d3] bb [.bool hp,.string q1,.string q2,.string q3,.string q4,.string q5,.string q6,.string q7,.slice a9 n1 c1,.slice a8 n2 c2,.slice a7 n3 c3] [.int .i64 0,.string ⟨#[]⟩,.string ⟨#[]⟩,.string ⟨#[]⟩,.int .i64 0,.int .i64 0,.int .i64 0,.string ⟨#[]⟩] rfl rfl bg.out rfl d6.out gY (by simp [Value.oneCell']) ?_; intro W5 x5 g5)
 go_end0
 exact ⟨rfl,jB d9.out g5,_,_,_,x5,d7.out.grownB g5 b6⟩
theorem disable (w:World):(callFunc 163 #[]).run Tryz.prog w = .ok (.value (.tuple #[])) w:=run_call_mark0 Tryz.func163 (by kernel_rfl) (by kernel_rfl) (by kernel_rfl) .disable (by kernel_rfl) w
theorem enable (w:World):(callFunc 165 #[]).run Tryz.prog w = .ok (.value (.tuple #[])) w:=run_call_mark0 Tryz.func165 (by kernel_rfl) (by kernel_rfl) (by kernel_rfl) .enable (by kernel_rfl) w
theorem acquire (a:Addr) (w:World):(callFunc 166 #[.pointer (some a)]).run Tryz.prog w = .ok (.value (.tuple #[])) w:=run_call_marked Tryz.func166 (by kernel_rfl) (by kernel_rfl) (by kernel_rfl) .acquire (by kernel_rfl) a w
theorem releaseMerge (a:Addr) (w:World):(callFunc 168 #[.pointer (some a)]).run Tryz.prog w = .ok (.value (.tuple #[])) w:=run_call_marked Tryz.func168 (by kernel_rfl) (by kernel_rfl) (by kernel_rfl) .releaseMerge (by kernel_rfl) a w
theorem ru (a:Addr) (y d s:Int) (w:World) (D:w.cell? a=some (.int .i64 y)) (hz:w.frozen? a=false) (A:IntKind.i64.wrap (y+d)=s) :
    Calls Tryz.prog 34 #[.pointer (some a),.int .i64 d] w fun e w'=>e = .returned (.int .i64 s)∧w'=w.setCell a (.int .i64 s):=by
 have I:=run_call_add (P:=Tryz.prog) Tryz.func55 (by kernel_rfl) (by kernel_rfl) (by kernel_rfl) .i64 (by kernel_rfl) (y:=d) (s:=s) D hz (by simp [go_sem,A]);go_enter Tryz.func34,Tryz.ntmps34
 go_wp2
 go_ret
 exact ⟨rfl,rfl⟩
theorem sB (a:Addr) (y:Int) (w:World) (A:w.cell? a=some (.int .i64 y)) :
    Calls Tryz.prog 50 #[.pointer (some a)] w fun e w'=>e = .returned (.int .i64 y)∧w'=w:=by
 have D:=run_call_load (P:=Tryz.prog) Tryz.func81 (by kernel_rfl) (by kernel_rfl) (by kernel_rfl) .i64 (by kernel_rfl) A;go_enter Tryz.func50,Tryz.ntmps50
 go_wp2
 go_ret
 exact ⟨rfl,rfl⟩
theorem nA (a:Addr) (x:Value) (u:FrameMode) (w:World) (O:w.cell? a=some x) (hz:w.frozen? a=false) :
    CallsD Tryz.prog 90 #[.pointer (some a),.bool true] u w fun e I w'=>I=u∧(e = .returned (.tuple #[])∧w'=w.drew.setCell a (.int .u32 1)):=by
 have D:w.drew.cell? a=some x:=by go_simp
 have A:w.drew.frozen? a=false:=by go_simp
 have J:=run_call_store (P:=Tryz.prog) Tryz.func131 (by kernel_rfl) (by kernel_rfl) (by kernel_rfl) (by kernel_rfl) (k:=.u32) (y:=1) D A;go_enter_d Tryz.func90,Tryz.ntmps90
 go_wp2
 go_region_calls
 all_goals (go_end0; exact ⟨rfl,rfl⟩)
theorem mO (a:Addr) (u:FrameMode) (w:World) (A:w.cell? a=some (.int .i32 1)) (hz:w.frozen? a=false) :
    CallsD Tryz.prog 89 #[.pointer (some a)] u w fun e D w'=>D=u∧(e = .returned (.tuple #[])∧w'=w.setCell a (.int .i32 0)):=by
 have U:=disable;have he:=enable;have O:=releaseMerge;have I:=run_call_add (P:=Tryz.prog) Tryz.func169 (by kernel_rfl) (by kernel_rfl) (by kernel_rfl) .i32 (by kernel_rfl) (y:=-1) (s:=0) A hz (by simp [go_sem]; rfl);have J:=run_convert_to_unsafe (P:=Tryz.prog) (src:=241) (dst:=245) Tryz.underlying241 Tryz.underlying245 (by kernel_rfl) A;go_enter_d Tryz.func89,Tryz.ntmps89
 go_wp2
 go_end0
 go_wp2
 go_end0
 exact ⟨rfl,rfl⟩
theorem wH (a:Addr) (w:World) (D:w.cell? a=some (.int .i32 0)) (hz:w.frozen? a=false) :
    Calls Tryz.prog 88 #[.pointer (some a)] w fun e w'=>e = .returned (.tuple #[])∧w'=w.setCell a (.int .i32 1):=by
 have O:=disable;have he:=enable;have ha:=acquire;have I:=run_call_cas_hit (P:=Tryz.prog) Tryz.func164 (by kernel_rfl) (by kernel_rfl) (by kernel_rfl) .i32 (by kernel_rfl) (y:=1) D hz;have A:(w.setCell a (.int .i32 1)).cell? a=some (.int .i32 1):=World.cell?_setCell_same w a _ D;have J:=run_convert_to_unsafe (P:=Tryz.prog) (src:=241) (dst:=245) Tryz.underlying241 Tryz.underlying245 (by kernel_rfl) A;go_enter Tryz.func88,Tryz.ntmps88
 go_wp2
 first | go_end0 | (simp only [Exit.inBlock,Exit.then]; refine bodyPost_ret (results_none rfl _ _ _) rfl ?_) | refine bodyPost_ret (results_none rfl _ _ _) rfl ?_
 go_wp2
 go_end0
 exact ⟨rfl,rfl⟩
theorem xX (b:Nat) (A:Array Value) (w:World) (R:World→Prop) (h0:w.cell? ⟨b,1,none⟩=some (.int .u32 0)) (h1:w.cell? ⟨b,2,none⟩=some (.int .i32 0))
    (f1:w.frozen? ⟨b,2,none⟩=false)
    (J : ∀ w',R w'→(∃ x,w'.cell? ⟨b,1,none⟩=some x)∧w'.frozen? ⟨b,1,none⟩=false∧w'.cell? ⟨b,2,none⟩=some (.int .i32 1)∧w'.frozen? ⟨b,2,none⟩=false)
    (hf:Calls Tryz.prog 36 A (w.setCell ⟨b,2,none⟩ (.int .i32 1)) fun e w'=>e = .returned (.tuple #[])∧R w') :
    Calls Tryz.prog 57 #[.pointer (some ⟨b,1,none⟩),.func (.func 36) #[] A] w fun e w'=>e = .returned (.tuple #[]) ∧ ∃ w1,R w1∧w'=(w1.drew.setCell ⟨b,1,none⟩ (.int .u32 1)).setCell ⟨b,2,none⟩ (.int .i32 0):=by
 have hl:=run_call_load (P:=Tryz.prog) Tryz.func87 (by kernel_rfl) (by kernel_rfl) (by kernel_rfl) .u32 (by kernel_rfl) (w:=w.setCell ⟨b,2,none⟩ (.int .i32 1)) (a:=⟨b,1,none⟩) (x:=0) ((World.cell?_setCell_other _ ⟨b,2,none⟩ ⟨b,1,none⟩ _ (by simp)).trans h0);have aa : ∀ (x:Bool) (w:World),(Op.unary .not (.bool x)).run Tryz.prog w = .ok (.bool (!x)) w:=fun _ _=>rfl;have HR:=zH J;have HF:=zH hf;clear J hf;go_enter_defers Tryz.func57,Tryz.ntmps57
 go_wp2_with (go_at_call 88; refine (wH ⟨b,2,none⟩ _ (by go_simp) (by go_simp)).mono ?_; rintro e w' ⟨rfl,rfl⟩)
 go_wp2_with (first | (go_at_call 36; refine HF.out.mono ?_; rintro e w1 ⟨rfl,I⟩) | (go_at_call 56; go_in))
 obtain ⟨⟨x,g0⟩,U,g1,O⟩:=HR.out w1 I;go_wp2
 refine leaves_cons (f:=90) (args:=#[.pointer (some ⟨b,1,none⟩),.bool true]) (by simp) (by simp [go_sem]) ?_
 refine (nA ⟨b,1,none⟩ x .returning _ g0 U).mono ?_
 rintro e Z D ⟨rfl,rfl,rfl⟩;refine leaves_cons (f:=89) (args:=#[.pointer (some ⟨b,2,none⟩)]) (by simp [settle]) (by simp [go_sem]) ?_
 refine (mO ⟨b,2,none⟩ _ _ ?_ (by simp [O])).mono ?_
 · exact (World.cell?_setCell_other _ ⟨b,1,none⟩ ⟨b,2,none⟩ _ (by simp)).trans g1
 rintro e Z D ⟨rfl,rfl,rfl⟩;simp [Leaves,settle,results,Tryz.results57]
 exact ⟨w1,I,rfl⟩
theorem yV (b:Nat) (A:Array Value) (w:World) (R:World→Prop) (h0:w.cell? ⟨b,1,none⟩=some (.int .u32 0)) (h1:w.cell? ⟨b,2,none⟩=some (.int .i32 0))
    (f1:w.frozen? ⟨b,2,none⟩=false)
    (D : ∀ w',R w'→(∃ x,w'.cell? ⟨b,1,none⟩=some x)∧w'.frozen? ⟨b,1,none⟩=false∧w'.cell? ⟨b,2,none⟩=some (.int .i32 1)∧w'.frozen? ⟨b,2,none⟩=false)
    (hf:Calls Tryz.prog 36 A (w.setCell ⟨b,2,none⟩ (.int .i32 1)) fun e w'=>e = .returned (.tuple #[])∧R w') :
    Calls Tryz.prog 35 #[.pointer (some ⟨b,1,none⟩),.func (.func 36) #[] A] w fun e w'=>e = .returned (.tuple #[]) ∧ ∃ w1,R w1∧w'=(w1.drew.setCell ⟨b,1,none⟩ (.int .u32 1)).setCell ⟨b,2,none⟩ (.int .i32 0):=by
 have O:=run_call_load (P:=Tryz.prog) Tryz.func87 (by kernel_rfl) (by kernel_rfl) (by kernel_rfl) .u32 (by kernel_rfl) h0;have I : ∀ (x:Bool) (w:World),(Op.unary .not (.bool x)).run Tryz.prog w = .ok (.bool (!x)) w:=fun _ _=>rfl;have J:=zH (xX b A w R h0 h1 f1 D hf);clear D hf;go_enter Tryz.func35,Tryz.ntmps35
 go_wp2_with (first | (go_at_call 57; refine J.out.mono ?_; rintro e w' ⟨rfl,D⟩) | (go_at_call 56; go_in))
 go_end0
 exact ⟨rfl,D⟩
theorem AG (b:Nat) (D:Value) (w:World) (h0:w.cell? ⟨b,1,none⟩=some (.int .u32 1)) :
    Calls Tryz.prog 35 #[.pointer (some ⟨b,1,none⟩),D] w fun e w'=>e = .returned (.tuple #[])∧w'=w:=by
 have I:=run_call_load (P:=Tryz.prog) Tryz.func87 (by kernel_rfl) (by kernel_rfl) (by kernel_rfl) .u32 (by kernel_rfl) h0;have A : ∀ (x:Bool) (w:World),(Op.unary .not (.bool x)).run Tryz.prog w = .ok (.bool (!x)) w:=fun _ _=>rfl;go_enter Tryz.func35,Tryz.ntmps35
 go_wp2
 go_end0
 exact ⟨rfl,rfl⟩
def vy {α:Type} (E:TypeId) (n:Nat) (C:α→List Value) (l:List α) (w:World) (e:Ending) (w':World):Prop:=∃ v,e = .returned v∧aj w.heap.size E n C w' v l∧Below w.heap.size w w'
theorem wf (x:rB):(gM x).length=2:=rfl
theorem xc (x:jk × Value):(gQ x).length=8:=rfl
theorem vZ (x:rB) : ∀ u ∈ gM x,u.oneCell'=true:=by simp [gM,Value.oneCell']
theorem wZ {w:World} {x:jk × Value} (h:mK w x) : ∀ u ∈ gQ x,u.oneCell'=true:=by
 obtain ⟨d,A⟩:=x;obtain ⟨ao,cap,rfl⟩:=h.shape;simp [gQ,Value.oneCell']
theorem wL:(Tryz.prog.info? 129).map (fun i=>(i.zero,i.size,i.bytes))=some (some (.agg #[.string ⟨#[]⟩,.string ⟨#[]⟩]),2,32):=by kernel_rfl
theorem wN:(Tryz.prog.info? 133).map (fun i=>(i.zero,i.size,i.bytes))=some (some (.agg #[.string ⟨#[]⟩,.string ⟨#[]⟩,.string ⟨#[]⟩,.string ⟨#[]⟩,.string ⟨#[]⟩,.int .i64 0,.int .i64 0,.slice none 0 0]),8,120):=by kernel_rfl
theorem pi (l:List rB) (v:Value) (w:World) (A:af 2 gM w v l) (O:l.length*32≤140737488355328) :
    Calls Tryz.prog 59 #[v] w (vy 129 2 gM l w):=by
 obtain ⟨ao,cap,rfl⟩:=A.shape;have hq:=fun (w:World) (a:Option Addr) (n c:Nat)=>Lib.run_eql_slice_nil (P:=Tryz.prog) w 52 129 a n c 0 0 Tryz.underlying52;have Z:=zH O;clear O;cases ao with
 | none =>
  have h0:l=[]:=by
   obtain ⟨U,J,h1,h2,-,h3,-⟩:=A;cases h1
   exact List.eq_nil_of_length_eq_zero (by have:=h3 rfl; omega)
  have hcap:cap=0:=by
   obtain ⟨U,J,h1,h2,-,h3,-⟩:=A;cases h1; exact h3 rfl
  subst h0; subst hcap;clear A Z;simp only [List.length_nil];go_enter Tryz.func59,Tryz.ntmps59
  go_wp2
  go_ret
  exact ⟨_,rfl,aj.nil,Below.refl _ _⟩
 | some ad =>
  go_enter Tryz.func59,Tryz.ntmps59
  go_wp2_with (at_builtin; refine ay _ rfl _ _ 52 rfl w.heap.size 129 Tryz.underlying52 wL rfl (by decide) wf (.slice (some ⟨w.heap.size,0,none⟩) 0 0) [] rfl (aj.empty rfl (Nat.le_refl _)) _ l rfl (A.below ((Below.refl _ _).alloc (Nat.le_refl _) _)) (fun y _=>vZ y) (by simpa using Z.out) (by decide) (by simp) ?_; intro v' w1 I D aa)
  go_wp2
  go_ret
  exact ⟨_,rfl,I,((Below.refl _ _).alloc (Nat.le_refl _) _).grown D (by simp) (by simp [Value.ownBlock])⟩
theorem pj (l:List (jk × Value)) (v:Value) (w:World) (A:af 8 gQ w v l) (I : ∀ p ∈ l,mK w p) (U:l.length*120≤140737488355328) :
    Calls Tryz.prog 98 #[v] w (vy 133 8 gQ l w):=by
 obtain ⟨ao,cap,rfl⟩:=A.shape;have hq:=fun (w:World) (a:Option Addr) (n c:Nat)=>Lib.run_eql_slice_nil (P:=Tryz.prog) w 53 133 a n c 0 0 Tryz.underlying53;have Hl:=zH U;clear U;cases ao with
 | none =>
  have h0:l=[]:=by
   obtain ⟨Z,O,h1,h2,-,h3,-⟩:=A;cases h1
   exact List.eq_nil_of_length_eq_zero (by have:=h3 rfl; omega)
  have hcap:cap=0:=by
   obtain ⟨Z,O,h1,h2,-,h3,-⟩:=A;cases h1; exact h3 rfl
  subst h0; subst hcap;clear A Hl I;simp only [List.length_nil];go_enter Tryz.func98,Tryz.ntmps98
  go_wp2
  go_ret
  exact ⟨_,rfl,aj.nil,Below.refl _ _⟩
 | some ad =>
  go_enter Tryz.func98,Tryz.ntmps98
  go_wp2_with (at_builtin; refine ay _ rfl _ _ 53 rfl w.heap.size 133 Tryz.underlying53 wN rfl (by decide) xc (.slice (some ⟨w.heap.size,0,none⟩) 0 0) [] rfl (aj.empty rfl (Nat.le_refl _)) _ l rfl (A.below ((Below.refl _ _).alloc (Nat.le_refl _) _)) (fun y hy=>wZ (I y hy)) (by simpa using Hl.out) (by decide) (by simp) ?_; intro v' w1 J D ac)
  go_wp2
  go_ret
  exact ⟨_,rfl,J,((Below.refl _ _).alloc (Nat.le_refl _) _).grown D (by simp) (by simp [Value.ownBlock])⟩
theorem mH {w w' w1:World} (h:Below w.heap.size w w') (A:Below w'.heap.size w' w1):Below w.heap.size w w1:=h.trans (A.mono h.size)
def gy (H:Nat) (a2:Option Addr) (n2 c2:Nat) (a3:Option Addr) (n3 c3:Nat) (x0 x1 x2 x3 x4 x5 x6 x15:Value) (f0 f1 f2 f3 f4 f5 f6 _f7 f8 _f9:Bool) (e2:Option Addr) (g2:Nat) (e3:Option Addr) (g3:Nat):Act :=
 ⟨#[x0,x1,x2,x3,x4,x5,x6,cond f0 (.pointer (some ⟨H,9,none⟩)) undef,cond f1 (.slice a2 n2 c2) undef,cond f2 (.slice e2 0 g2) undef,cond f3 (.pointer (some ⟨H,10,none⟩)) undef,cond f4 (.slice a3 n3 c3) undef,cond f5 (.slice e3 0 g3) undef,cond f6 (.pointer (some ⟨H,9,none⟩)) undef,cond f8 (.pointer (some ⟨H,10,none⟩)) undef,x15],[]⟩
inductive tT (H:Nat) (hp:Bool) (q1 q2 q3 q4 q5 q6 q7:S) (b1:Option Addr) (d1:Nat) (a2:Option Addr) (n2 c2:Nat) (a3:Option Addr) (n3 c3:Nat) (w V:World) (x0 x1 x2 x3 x4 x5 x6 x15:Value):Array Bool→Act→World→Prop where
 | mk (f0 f1 f2 f3 f4 f5 f6 f7 f8 f9:Bool) (e2:Option Addr) (g2:Nat) (e3:Option Addr) (g3:Nat) (w':World) (ch1:Hid (f1=true→f0=true)) (ch2:Hid (f2=true→f1=true)) (ch4:Hid (f4=true→f3=true)) (ch5:Hid (f5=true→f4=true∧f2=true)) (ch6:Hid (f6=true→f0=true∧f1=true∧f2=true∧f3=true∧f4=true)) (ch7:Hid (f7=true→f6=true∧f2=true∧f5=true∧f0=true∧f1=true∧f3=true∧f4=true)) (ch8:Hid (f8=true→f0=true∧f1=true∧f2=true∧f3=true∧f4=true∧f5=true∧f6=true∧f7=true)) (ch9:Hid (f9=true→f8=true∧f5=true∧f7=true∧f0=true∧f1=true∧f2=true∧f3=true∧f4=true∧f6=true)) (hB:(f7=false→Below V.heap.size V w')) (rx:(f7=false→ak w' H [.bool hp,.string q1,.string q2,.string q3,.string q4,.string q5,.string q6,.string q7,.slice b1 0 d1,.slice a2 n2 c2,.slice a3 n3 c3])) (ry:(f7=true→f9=false→ak w' H [.bool hp,.string q1,.string q2,.string q3,.string q4,.string q5,.string q6,.string q7,.slice b1 0 d1,.slice e2 0 g2,.slice a3 n3 c3])) (rz:(f9=true→ak w' H [.bool hp,.string q1,.string q2,.string q3,.string q4,.string q5,.string q6,.string q7,.slice b1 0 d1,.slice e2 0 g2,.slice e3 0 g3])) (rr:ak w' (H+1) [.bool false,.string ⟨#[]⟩,.string ⟨#[]⟩,.string ⟨#[]⟩,.string ⟨#[]⟩,.string ⟨#[]⟩,.string ⟨#[]⟩,.string ⟨#[]⟩,.slice none 0 0,.slice none 0 0,.slice none 0 0]) (bw:Below w.heap.size w w'):tT H hp q1 q2 q3 q4 q5 q6 q7 b1 d1 a2 n2 c2 a3 n3 c3 w V x0 x1 x2 x3 x4 x5 x6 x15 #[f0,f1,f2,f3,f4,f5,f6,f7,f8,f9] (gy H a2 n2 c2 a3 n3 c3 x0 x1 x2 x3 x4 x5 x6 x15 f0 f1 f2 f3 f4 f5 f6 f7 f8 f9 e2 g2 e3 g3) w'
theorem tT.at {H:Nat} {hp:Bool} {q1 q2 q3 q4 q5 q6 q7:S} {b1:Option Addr} {d1:Nat} {a2:Option Addr} {n2 c2:Nat} {a3:Option Addr} {n3 c3:Nat} {w V:World} {x0 x1 x2 x3 x4 x5 x6 x15:Value} {A:Array Bool} {D:Act} {w':World} (f0 f1 f2 f3 f4 f5 f6 f7 f8 f9:Bool) (e2:Option Addr) (g2:Nat) (e3:Option Addr) (g3:Nat) (I:A=#[f0,f1,f2,f3,f4,f5,f6,f7,f8,f9]) (ha:D=gy H a2 n2 c2 a3 n3 c3 x0 x1 x2 x3 x4 x5 x6 x15 f0 f1 f2 f3 f4 f5 f6 f7 f8 f9 e2 g2 e3 g3) (ch1:Hid (f1=true→f0=true)) (ch2:Hid (f2=true→f1=true)) (ch4:Hid (f4=true→f3=true)) (ch5:Hid (f5=true→f4=true∧f2=true)) (ch6:Hid (f6=true→f0=true∧f1=true∧f2=true∧f3=true∧f4=true)) (ch7:Hid (f7=true→f6=true∧f2=true∧f5=true∧f0=true∧f1=true∧f3=true∧f4=true)) (ch8:Hid (f8=true→f0=true∧f1=true∧f2=true∧f3=true∧f4=true∧f5=true∧f6=true∧f7=true)) (ch9:Hid (f9=true→f8=true∧f5=true∧f7=true∧f0=true∧f1=true∧f2=true∧f3=true∧f4=true∧f6=true)) (hB:(f7=false→Below V.heap.size V w')) (rx:(f7=false→ak w' H [.bool hp,.string q1,.string q2,.string q3,.string q4,.string q5,.string q6,.string q7,.slice b1 0 d1,.slice a2 n2 c2,.slice a3 n3 c3])) (ry:(f7=true→f9=false→ak w' H [.bool hp,.string q1,.string q2,.string q3,.string q4,.string q5,.string q6,.string q7,.slice b1 0 d1,.slice e2 0 g2,.slice a3 n3 c3])) (rz:(f9=true→ak w' H [.bool hp,.string q1,.string q2,.string q3,.string q4,.string q5,.string q6,.string q7,.slice b1 0 d1,.slice e2 0 g2,.slice e3 0 g3])) (rr:ak w' (H+1) [.bool false,.string ⟨#[]⟩,.string ⟨#[]⟩,.string ⟨#[]⟩,.string ⟨#[]⟩,.string ⟨#[]⟩,.string ⟨#[]⟩,.string ⟨#[]⟩,.slice none 0 0,.slice none 0 0,.slice none 0 0]) (bw:Below w.heap.size w w'):tT H hp q1 q2 q3 q4 q5 q6 q7 b1 d1 a2 n2 c2 a3 n3 c3 w V x0 x1 x2 x3 x4 x5 x6 x15 A D w':=by
 subst I ha;exact .mk f0 f1 f2 f3 f4 f5 f6 f7 f8 f9 e2 g2 e3 g3 w' ch1 ch2 ch4 ch5 ch6 ch7 ch8 ch9 hB rx ry rz rr bw
def BH (w:World) (e:Ending) (w':World):Prop:=∃ a c,e = .returned (.slice a 0 c)∧Below w.heap.size w w'
theorem sk (v:Value) (w:World) (D:af 8 gQ w v []):Calls Tryz.prog 60 #[v] w (BH w):=by
 have I:=zH (pj [] v w D (by simp) (by simp));clear D;go_enter Tryz.func60,Tryz.ntmps60
 go_wp2_with fail
 refine I.out.mono ?_
 rintro e w1 ⟨u,rfl,ho,A⟩;obtain ⟨a,c,rfl⟩:=ho.shape;simp only [List.length_nil];have J:=zH A;clear I ho A;go_wp2
 go_loopw [9] (fun i wr=>i = .int .i64 0∧Below w.heap.size w wr) (fun _ _=>0)
 case atStart=>exact ⟨rfl,J.out⟩
 case round =>
  obtain ⟨rfl,A⟩:=hrel;go_wp2
  go_ret
  exact ⟨_,_,rfl,A⟩
def B0 (hp:Bool) (q1 q2 q3 q4 q5 q6 q7:S) (w:World) (e:Ending) (w':World):Prop:=∃ a1 c1 a2 c2 a3 c3,e = .returned (.agg #[.bool hp,.string q1,.string q2,.string q3,.string q4,.string q5,.string q6,.string q7,.slice a1 0 c1,.slice a2 0 c2,.slice a3 0 c3])∧Below w.heap.size w w'
theorem BW (hp:Bool) (q1 q2 q3 q4 q5 q6 q7:S) (a1 a2 a3:Option Addr) (n1 n2 n3 c1 c2 c3:Nat) (w:World) (h1:af 2 gM w (.slice a1 n1 c1) []) (h2:af 8 gQ w (.slice a2 n2 c2) []) (h3:af 8 gQ w (.slice a3 n3 c3) []) :
    Calls Tryz.prog 38 #[.agg #[.bool hp,.string q1,.string q2,.string q3,.string q4,.string q5,.string q6,.string q7,.slice a1 n1 c1,.slice a2 n2 c2,.slice a3 n3 c3]] w (B0 hp q1 q2 q3 q4 q5 q6 q7 w):=by
 have H1:=zH h1;have H2:=zH h2;have H3:=zH h3;clear h1 h2 h3;go_enter Tryz.func38,Tryz.ntmps38
 go_upto_region 1 with fail
 refine ai fun W hW=>?_
 have x1:ak W w.heap.size [.bool hp,.string q1,.string q2,.string q3,.string q4,.string q5,.string q6,.string q7,.slice a1 n1 c1,.slice a2 n2 c2,.slice a3 n3 c3]:=by rw [hW]; exact (ak.new w [.bool hp,.string q1,.string q2,.string q3,.string q4,.string q5,.string q6,.string q7,.slice a1 n1 c1,.slice a2 n2 c2,.slice a3 n3 c3] _ _ rfl).alloc _
 have x2:ak W (w.heap.size+1) [.bool false,.string ⟨#[]⟩,.string ⟨#[]⟩,.string ⟨#[]⟩,.string ⟨#[]⟩,.string ⟨#[]⟩,.string ⟨#[]⟩,.string ⟨#[]⟩,.slice none 0 0,.slice none 0 0,.slice none 0 0]:=by rw [hW]; exact ak.new _ [.bool false,.string ⟨#[]⟩,.string ⟨#[]⟩,.string ⟨#[]⟩,.string ⟨#[]⟩,.string ⟨#[]⟩,.string ⟨#[]⟩,.string ⟨#[]⟩,.slice none 0 0,.slice none 0 0,.slice none 0 0] _ _ (by simp)
 have D:Below w.heap.size w W:=by rw [hW]; exact ((Below.refl _ w).alloc (Nat.le_refl _) _).alloc (by simp) _
 clear hW;have HX:=zH x1;have HY:=zH x2;have HB:=zH D;have HC:=zH (pi [] _ W (H1.out.below D) (by simp));have k8:=x1.cell 8 _ rfl;have kl:=x1.lt;clear x1 x2 D H1;go_wp2_with fail
 refine HC.out.mono ?_
 rintro e w1 ⟨u,rfl,ho,D⟩;obtain ⟨b1,d1,A⟩:=ho.shape;obtain rfl:u = .slice b1 0 d1:=A;have a0:=zH (HX.out.below D HX.out.lt);have a9:=zH (HY.out.below D HY.out.lt);have bb:=zH (HB.out.trans (D.mono HB.out.size));clear HC ho D HX HY HB k8 kl;obtain ⟨k8,f8,kl⟩:=zB a0.out 8 rfl;go_upto_region 2 with fail
 refine ai fun W2 ac=>?_
 have x2:ak W2 w.heap.size [.bool hp,.string q1,.string q2,.string q3,.string q4,.string q5,.string q6,.string q7,.slice b1 0 d1,.slice a2 n2 c2,.slice a3 n3 c3]:=by rw [ac]; exact a0.out.setOne rfl (by simp)
 have a8:Below w.heap.size w W2:=by rw [ac]; exact bb.out.setCell (by simp) _
 have y2:ak W2 (w.heap.size+1) [.bool false,.string ⟨#[]⟩,.string ⟨#[]⟩,.string ⟨#[]⟩,.string ⟨#[]⟩,.string ⟨#[]⟩,.string ⟨#[]⟩,.string ⟨#[]⟩,.slice none 0 0,.slice none 0 0,.slice none 0 0]:=by rw [ac]; exact a9.out.grown (ab _ _ _ _) (by simp)
 clear ac k8 f8 kl;have al:=zH x2;have cf:=zH a8;have ah:=zH y2;clear x2 a8 y2 a0 bb a9;obtain ⟨H,hH⟩ : ∃ H,H=w.heap.size:=⟨_,rfl⟩;have a4:Hid (w.heap.size=H):=hH.symm;have al:Hid (ak W2 H [.bool hp,.string q1,.string q2,.string q3,.string q4,.string q5,.string q6,.string q7,.slice b1 0 d1,.slice a2 n2 c2,.slice a3 n3 c3]):=by rw [hH]; exact al.out
 rw [← hH];have ah:Hid (ak W2 (H+1) [.bool false,.string ⟨#[]⟩,.string ⟨#[]⟩,.string ⟨#[]⟩,.string ⟨#[]⟩,.string ⟨#[]⟩,.string ⟨#[]⟩,.string ⟨#[]⟩,.slice none 0 0,.slice none 0 0,.slice none 0 0]):=by rw [hH]; exact ah.out
 clear hH;refine bm (tT H hp q1 q2 q3 q4 q5 q6 q7 b1 d1 a2 n2 c2 a3 n3 c3 w W2 _ _ _ _ _ _ _ _) (by kernel_rfl) 10 rfl (by kernel_rfl) (tT.at false false false false false false false false false false (none) (0) (none) (0) rfl (by unfold gy; rfl) ?i0 ?i1 ?i2 ?i3 ?i4 ?i5 ?i6 ?i7 ?i8 ?i9 ?i10 ?i11 ?i12 ?i13) ?fin ?step
 case i0=>exact zH (by simp)
 case i1=>exact zH (by simp)
 case i2=>exact zH (by simp)
 case i3=>exact zH (by simp)
 case i4=>exact zH (by simp)
 case i5=>exact zH (by simp)
 case i6=>exact zH (by simp)
 case i7=>exact zH (by simp)
 case i8=>exact fun h0=>aY (Below.refl _ _) 1
 case i9=>exact fun _=>al.out.drewN 1
 case i10=>exact by simp
 case i11=>exact by simp
 case i12=>exact ah.out.drewN 1
 case i13=>exact aY cf.out 1
 case fin =>
  intro a' w' hJ;generalize hl:Array.replicate 10 true=Lz at hJ;cases hJ with
  | mk f0 f1 f2 f3 f4 f5 f6 f7 f8 f9 e2 g2 e3 g3 _ ch1 ch2 ch4 ch5 ch6 ch7 ch8 ch9 hB rx ry rz rr bw =>
   have a7:[true,true,true,true,true,true,true,true,true,true]=[f0,f1,f2,f3,f4,f5,f6,f7,f8,f9]:=congrArg Array.toList hl;simp only [List.cons.injEq,and_true] at a7;obtain ⟨rfl,rfl,rfl,rfl,rfl,rfl,rfl,rfl,rfl,rfl⟩:=a7;clear hl;unfold gy;simp only [cond_true];have HZ:=zH (rz rfl);have b8:=zH rr;have ba:=zH bw;clear ch1 ch2 ch4 ch5 ch6 ch7 ch8 ch9 hB rx ry rz rr bw;obtain ⟨z0,z1,z2,z3,z4,z5,z6,z7,z8,z9,dg⟩:=rH HZ.out;have zl:=HZ.out.lt;go_wp2_with ((with_reducible show wpList _ _ _ (Oper.mk none (Op.store 55 (.tmp 2) (.tmp 15)) _ _ _ _::_) _ _); refine bn rfl 55 (.tmp 2) (.tmp 15) rfl (H+1) [.bool false,.string ⟨#[]⟩,.string ⟨#[]⟩,.string ⟨#[]⟩,.string ⟨#[]⟩,.string ⟨#[]⟩,.string ⟨#[]⟩,.string ⟨#[]⟩,.slice none 0 0,.slice none 0 0,.slice none 0 0] [.bool hp,.string q1,.string q2,.string q3,.string q4,.string q5,.string q6,.string q7,.slice b1 0 d1,.slice e2 0 g2,.slice e3 0 g3] rfl rfl b8.out rfl gY (by simp [Value.oneCell']) ?_; intro W5 x5 g5)
   refine bodyPost_ret (eY rfl _ _ (H+1) [.bool hp,.string q1,.string q2,.string q3,.string q4,.string q5,.string q6,.string q7,.slice b1 0 d1,.slice e2 0 g2,.slice e3 0 g3] rfl x5 Tryz.underlying55 rfl gY) rfl ?_
   exact ⟨_,_,_,_,_,_,rfl,ba.out.trans (aS g5 (by rw [a4.out]; omega) ba.out.size)⟩
 case step =>
  intro b4 a' w' hJ i hi;cases hJ with
  | mk f0 f1 f2 f3 f4 f5 f6 f7 f8 f9 e2 g2 e3 g3 _ ch1 ch2 ch4 ch5 ch6 ch7 ch8 ch9 hB rx ry rz rr bw =>
   rw [mem_ready] at hi;obtain ⟨A,o,ho,ha⟩:=hi;have dk:i<10:=(Array.getElem?_eq_some_iff.1 ho).1;rcases (by omega:i=0∨i=1∨i=2∨i=3∨i=4∨i=5∨i=6∨i=7∨i=8∨i=9) with rfl | rfl | rfl | rfl | rfl | rfl | rfl | rfl | rfl | rfl
   · have O:=ho
     simp at A ho;subst A ho;clear ha;have e1:f1=false:=zN fun h=>((ch1.out h));have e2:f2=false:=zN fun h=>((ch1.out (ch2.out h)));have e5:f5=false:=zN fun h=>((ch1.out (ch2.out (ch5.out h).2)));have Z:f6=false:=zN fun h=>((ch6.out h).1);have U:f7=false:=zN fun h=>((ch6.out (ch7.out h).1).1);have J:f8=false:=zN fun h=>((ch8.out h).1);have I:f9=false:=zN fun h=>((ch8.out (ch9.out h).1).1);subst e1 e2 e5 Z U J I;refine .inl ?_
     unfold gy Oper.wp;go_simp
     exact tT.at true false false f3 f4 false false false false false (e2) (g2) (e3) (g3) rfl rfl (zH (by simp)) (zH (by simp)) (ch4) (zH (by simp)) (zH (by simp)) (zH (by simp)) (zH (by simp)) (zH (by simp)) (hB) (rx) (by simp) (by simp) (rr) (bw)
   · have O:=ho
     simp at A ho;subst A ho;simp [Region.binds] at ha
     obtain rfl:f0=true:=by simp only [ha]
     clear ha;have e2:f2=false:=zN fun h=>((ch2.out h));have e5:f5=false:=zN fun h=>((ch2.out (ch5.out h).2));have Z:f6=false:=zN fun h=>((ch6.out h).2.1);have U:f7=false:=zN fun h=>((ch6.out (ch7.out h).1).2.1);have J:f8=false:=zN fun h=>((ch8.out h).2.1);have I:f9=false:=zN fun h=>((ch8.out (ch9.out h).1).2.1);subst e2 e5 Z U J I;have k9:=(rx rfl).cell 9 _ rfl;have kl:=(rx rfl).lt;refine .inl ?_
     unfold gy Oper.wp;go_simp
     exact tT.at true true false f3 f4 false false false false false (e2) (g2) (e3) (g3) rfl rfl (zH (by simp)) (zH (by simp)) (ch4) (zH (by simp)) (zH (by simp)) (zH (by simp)) (zH (by simp)) (zH (by simp)) (hB) (rx) (by simp) (by simp) (rr) (bw)
   · have O:=ho
     simp at A ho;subst A ho;simp [Region.binds] at ha
     obtain rfl:f1=true:=by simp only [ha]
     clear ha;obtain rfl:f0=true:=(ch1.out rfl);have e5:f5=false:=zN fun h=>((ch5.out h).2);have Z:f6=false:=zN fun h=>((ch6.out h).2.2.1);have U:f7=false:=zN fun h=>((ch6.out (ch7.out h).1).2.2.1);have J:f8=false:=zN fun h=>((ch8.out h).2.2.1);have I:f9=false:=zN fun h=>((ch8.out (ch9.out h).1).2.2.1);subst e5 Z U J I;have hS:=(hB rfl).size;refine .inl ?_
     unfold gy Oper.wp;go_simp
     refine (sk (.slice a2 n2 c2) w' (H2.out.below bw)).mono ?_
     intro e w1 hO;obtain ⟨a,c,rfl,D⟩:=hO;exact tT.at true true true f3 f4 false false false false false (a) (c) (e3) (g3) rfl rfl (zH (by simp)) (zH (by simp)) (ch4) (zH (by simp)) (zH (by simp)) (zH (by simp)) (zH (by simp)) (zH (by simp)) (fun h0=>(hB h0).trans (D.mono hS)) (fun h0=>BoxS.later (rx h0) D) (by simp) (by simp) (BoxS.later rr D) (mH bw D)
   · have O:=ho
     simp at A ho;subst A ho;clear ha;have e4:f4=false:=zN fun h=>((ch4.out h));have e5:f5=false:=zN fun h=>((ch4.out (ch5.out h).1));have Z:f6=false:=zN fun h=>((ch6.out h).2.2.2.1);have U:f7=false:=zN fun h=>((ch6.out (ch7.out h).1).2.2.2.1);have J:f8=false:=zN fun h=>((ch8.out h).2.2.2.1);have I:f9=false:=zN fun h=>((ch8.out (ch9.out h).1).2.2.2.1);subst e4 e5 Z U J I;refine .inl ?_
     unfold gy Oper.wp;go_simp
     exact tT.at f0 f1 f2 true false false false false false false (e2) (g2) (e3) (g3) rfl rfl (ch1) (ch2) (zH (by simp)) (zH (by simp)) (zH (by simp)) (zH (by simp)) (zH (by simp)) (zH (by simp)) (hB) (rx) (by simp) (by simp) (rr) (bw)
   · have O:=ho
     simp at A ho;subst A ho;simp [Region.binds] at ha
     obtain rfl:f3=true:=by simp only [ha]
     clear ha;have e5:f5=false:=zN fun h=>((ch5.out h).1);have Z:f6=false:=zN fun h=>((ch6.out h).2.2.2.2);have U:f7=false:=zN fun h=>((ch6.out (ch7.out h).1).2.2.2.2);have J:f8=false:=zN fun h=>((ch8.out h).2.2.2.2.1);have I:f9=false:=zN fun h=>((ch8.out (ch9.out h).1).2.2.2.2.1);subst e5 Z U J I;have k9:=(rx rfl).cell 10 _ rfl;have kl:=(rx rfl).lt;refine .inl ?_
     unfold gy Oper.wp;go_simp
     exact tT.at f0 f1 f2 true true false false false false false (e2) (g2) (e3) (g3) rfl rfl (ch1) (ch2) (zH (by simp)) (zH (by simp)) (zH (by simp)) (zH (by simp)) (zH (by simp)) (zH (by simp)) (hB) (rx) (by simp) (by simp) (rr) (bw)
   · have O:=ho
     simp at A ho;subst A ho;simp [Region.binds] at ha
     obtain rfl:f4=true:=by simp only [ha]
     obtain rfl:f2=true:=by simp only [ha]
     clear ha;obtain rfl:f3=true:=(ch4.out rfl);obtain rfl:f1=true:=(ch2.out rfl);obtain rfl:f0=true:=(ch1.out (ch2.out rfl));have U:f7=false:=zN fun h=>((ch7.out h).2.2.1);have J:f8=false:=zN fun h=>((ch8.out h).2.2.2.2.2.1);have I:f9=false:=zN fun h=>((ch8.out (ch9.out h).1).2.2.2.2.2.1);subst U J I;have hS:=(hB rfl).size;refine .inl ?_
     unfold gy Oper.wp;go_simp
     refine (sk (.slice a3 n3 c3) w' (H3.out.below bw)).mono ?_
     intro e w1 hO;obtain ⟨a,c,rfl,D⟩:=hO;exact tT.at true true true true true true f6 false false false (e2) (g2) (a) (c) rfl rfl (zH (by simp)) (zH (by simp)) (zH (by simp)) (zH (by simp)) (ch6) (zH (by simp)) (zH (by simp)) (zH (by simp)) (fun h0=>(hB h0).trans (D.mono hS)) (fun h0=>BoxS.later (rx h0) D) (by simp) (by simp) (BoxS.later rr D) (mH bw D)
   · have O:=ho
     simp at A ho;subst A ho;simp [Region.binds] at ha
     obtain rfl:f0=true:=by simp only [ha]
     obtain rfl:f1=true:=by simp only [ha]
     obtain rfl:f2=true:=by simp only [ha]
     obtain rfl:f3=true:=by simp only [ha]
     obtain rfl:f4=true:=by simp only [ha]
     clear ha;have U:f7=false:=zN fun h=>((ch7.out h).1);have J:f8=false:=zN fun h=>((ch8.out h).2.2.2.2.2.2.1);have I:f9=false:=zN fun h=>((ch8.out (ch9.out h).1).2.2.2.2.2.2.1);subst U J I;refine .inl ?_
     unfold gy Oper.wp;go_simp
     exact tT.at true true true true true f5 true false false false (e2) (g2) (e3) (g3) rfl rfl (zH (by simp)) (zH (by simp)) (zH (by simp)) (ch5) (zH (by simp)) (zH (by simp)) (zH (by simp)) (zH (by simp)) (hB) (rx) (by simp) (by simp) (rr) (bw)
   · have O:=ho
     simp at A ho;subst A ho;simp [Region.binds] at ha
     obtain rfl:f6=true:=by simp only [ha]
     obtain rfl:f2=true:=by simp only [ha]
     obtain rfl:f5=true:=by simp only [ha]
     obtain rfl:f0=true:=by simp only [ha]
     obtain rfl:f1=true:=by simp only [ha]
     obtain rfl:f3=true:=by simp only [ha]
     obtain rfl:f4=true:=by simp only [ha]
     clear ha;have J:f8=false:=zN fun h=>((ch8.out h).2.2.2.2.2.2.2);have I:f9=false:=zN fun h=>((ch8.out (ch9.out h).1).2.2.2.2.2.2.2);subst J I;obtain ⟨k9,f9,kl⟩:=zB (rx rfl) 9 rfl;have x3:=(rx rfl).setOne (o:=9) (u:=.slice e2 0 g2) rfl (by simp);refine .inl ?_
     unfold gy Oper.wp;go_simp
     exact tT.at true true true true true true true true false false (e2) (g2) (e3) (g3) rfl rfl (zH (by simp)) (zH (by simp)) (zH (by simp)) (zH (by simp)) (zH (by simp)) (zH (by simp)) (zH (by simp)) (zH (by simp)) (by simp) (by simp) (fun _ _=>x3) (by simp) (rr.grown (ab _ _ _ _) (by simp)) (bw.setCell (by exact Nat.le_of_eq a4.out) _)
   · have O:=ho
     simp at A ho;subst A ho;simp [Region.binds] at ha
     obtain rfl:f0=true:=by simp only [ha]
     obtain rfl:f1=true:=by simp only [ha]
     obtain rfl:f2=true:=by simp only [ha]
     obtain rfl:f3=true:=by simp only [ha]
     obtain rfl:f4=true:=by simp only [ha]
     obtain rfl:f5=true:=by simp only [ha]
     obtain rfl:f6=true:=by simp only [ha]
     obtain rfl:f7=true:=by simp only [ha]
     clear ha;have I:f9=false:=zN fun h=>((ch9.out h).1);subst I;refine .inl ?_
     unfold gy Oper.wp;go_simp
     exact tT.at true true true true true true true true true false (e2) (g2) (e3) (g3) rfl rfl (zH (by simp)) (zH (by simp)) (zH (by simp)) (zH (by simp)) (zH (by simp)) (zH (by simp)) (zH (by simp)) (zH (by simp)) (by simp) (by simp) (ry) (by simp) (rr) (bw)
   · have O:=ho
     simp at A ho;subst A ho;simp [Region.binds] at ha
     obtain rfl:f8=true:=by simp only [ha]
     obtain rfl:f5=true:=by simp only [ha]
     obtain rfl:f7=true:=by simp only [ha]
     obtain rfl:f0=true:=by simp only [ha]
     obtain rfl:f1=true:=by simp only [ha]
     obtain rfl:f2=true:=by simp only [ha]
     obtain rfl:f3=true:=by simp only [ha]
     obtain rfl:f4=true:=by simp only [ha]
     obtain rfl:f6=true:=by simp only [ha]
     clear ha;obtain ⟨k9,f9,kl⟩:=zB (ry rfl rfl) 10 rfl;have x3:=(ry rfl rfl).setOne (o:=10) (u:=.slice e3 0 g3) rfl (by simp);refine .inl ?_
     unfold gy Oper.wp;go_simp
     exact tT.at true true true true true true true true true true (e2) (g2) (e3) (g3) rfl rfl (zH (by simp)) (zH (by simp)) (zH (by simp)) (zH (by simp)) (zH (by simp)) (zH (by simp)) (zH (by simp)) (zH (by simp)) (by simp) (by simp) (by simp) (fun _=>x3) (rr.grown (ab _ _ _ _) (by simp)) (bw.setCell (by exact Nat.le_of_eq a4.out) _)
def rC (b eb me mv:Nat) (r a:Int) (s:S) (p:pq) (w w':World):Prop:=aV (fun k=>k=b∨k=eb) w w'∧ak w' b [.map (some me),.map (some mv),.int .i64 (r+1),.int .i64 a] ∧
 ∃ pv A dv,ak w' eb ([.string s,.int .u32 0,.int .i32 1,.int .u32 0] ++ nF p pv A dv ++ [.int .i64 0,.string ⟨#[]⟩,.string ⟨#[]⟩,.string ⟨#[]⟩,.int .i64 0,.int .i64 0,.int .i64 0,.string ⟨#[]⟩])∧cy w.heap.size w' p pv A dv
theorem yp (b eb vs ve vg me mv:Nat) (r a:Int) (s:S) (g:bp) (t:Tr) (q:Bs) (m:Int) (w:World) (A:List Value) (U:A.length=11) (h1:ak w vs [.pointer (some ⟨b,0,none⟩)]) (h2:ak w ve [.pointer (some ⟨eb,0,none⟩)]) (h3:ak w vg [.string g.group,.string g.artifact,.string g.version]) (D:ak w b [.map (some me),.map (some mv),.int .i64 r,.int .i64 a])
    (h5:ak w eb ([.string s,.int .u32 0,.int .i32 1,.int .u32 0] ++ A ++ [.int .i64 0,.string ⟨#[]⟩,.string ⟨#[]⟩,.string ⟨#[]⟩,.int .i64 0,.int .i64 0,.int .i64 0,.string ⟨#[]⟩])) (n1:ve≠b) (n2:vg≠b) (n3:eb≠b) (n0:0≠b) (cm:0≤r) (cf:r<4611686018427387904) (hs:s.size≤65536) (Z:kI s.data.toList = .ok t q) (ht:fq t) (hr:dz t=none) (hm:w.cell? ⟨0,0,none⟩=some (.int .i64 m)) :
    Calls Tryz.prog 36 #[.pointer (some ⟨vs,0,none⟩),.pointer (some ⟨ve,0,none⟩),.pointer (some ⟨vg,0,none⟩)] w fun e w'=>e = .returned (.tuple #[])∧rC b eb me mv r a s (eL t) w w':=by
 have hw:IntKind.i64.wrap (r+1)=r+1:=IntWalk.i64_in _ (by omega);have x1:=h1.cell 0 _ rfl;have xl:=h1.lt;have b2:=D.cell 2 _ rfl;have b0:=D.cell 0 _ rfl;have bl:=D.lt;have HA:=zH (ru ⟨b,2,none⟩ r 1 (r+1) w b2 (D.free 2) hw);have J:w.grownBy (w.setCell ⟨b,2,none⟩ (.int .i64 (r+1))) (some b):=ab _ _ _ _;have hb:ak (w.setCell ⟨b,2,none⟩ (.int .i64 (r+1))) b [.map (some me),.map (some mv),.int .i64 (r+1),.int .i64 a]:=D.setOne rfl (by simp);have HB:=zH hb;have HG:=zH J;have HE:=zH (h5.grown J (by simp [n3]));have HV:=zH (h2.grown J (by simp [n1]));have HX:=zH (h3.grown J (by simp [n2]));have HM:Hid ((w.setCell ⟨b,2,none⟩ (.int .i64 (r+1))).cell? ⟨0,0,none⟩=some (.int .i64 m)):=(World.cell?_setCell_other _ _ _ _ (fun e=>by cases e)).trans hm;have O:Hid (s.size≤65536∧kI s.data.toList = .ok t q∧fq t∧dz t=none∧A.length=11):=⟨hs,Z,ht,hr,U⟩;have co:=zH h5.lt;have a9:=zH n3;clear h1 h2 h3 D h5 J hb hs Z ht hr hm hw U n1 n2 n0 n3;generalize w.setCell ⟨b,2,none⟩ (.int .i64 (r+1))=W1 at *;go_enter Tryz.func36,Tryz.ntmps36
 go_wp2_with fail
 refine HA.out.mono ?_
 rintro e w1 ⟨rfl,rfl⟩;clear x1 xl b2 b0 bl HA;have v0:=HV.out.cell 0 _ rfl;have vl:=HV.out.lt;obtain ⟨g0,g1,g2⟩:=ej HX.out;have gl:=HX.out.lt;go_wp2_with fail
 refine (wU eb s _ _ _ g t q m _ A O.out.2.2.2.2 HE.out O.out.1 O.out.2.1 O.out.2.2.1 O.out.2.2.2.1 HM.out).mono ?_
 rintro e w2 ⟨rfl,I,pv,ag,dv,hx,ho⟩
 have HR:Hid (rC b eb me mv r a s (eL t) w w2):=by
  refine ⟨(aV.grown (F:=fun k=>k=b∨k=eb) HG.out (by rintro k ⟨⟩; exact .inl rfl)).trans (aV.grown (F:=fun k=>k=b∨k=eb) I (by rintro k ⟨⟩; exact .inr rfl)) (fun _ _=>id),HB.out.grown I (by simp [Ne.symm a9.out]),pv,ag,dv,hx,ho.base_mono HG.out.size⟩
 clear I hx ho v0 vl g0 g1 g2 gl;go_wp2
 go_end0
 exact ⟨rfl,HR.out⟩
theorem yU {F:Nat→Prop} {w:World} {b me mv:Nat} {L:List (aF bp)} {cl:Nat} {V:List (aF Id)} {cv:Nat} {es:List (bF × Nat)} {r a:Int} {i eb vs ve vg:Nat} {g:bp} {s:S} {t:Tr} {q:Bs} {m:Int} (h:aU F w b me mv L cl V cv es r a) (hi:es[i]? = some (gP g s,eb))
    (h1:ak w vs [.pointer (some ⟨b,0,none⟩)]) (h2:ak w ve [.pointer (some ⟨eb,0,none⟩)]) (h3:ak w vg [.string g.group,.string g.artifact,.string g.version]) (n1 : ¬ F vs) (n2 : ¬ F ve) (n3 : ¬ F vg) (n0 : ¬ F 0) (a9:0≤r) (a8:r<4611686018427387904)
    (hs:s.size≤65536) (bo:kI s.data.toList = .ok t q) (ht:fq t) (hr:dz t=none) (hm:w.cell? ⟨0,0,none⟩=some (.int .i64 m)) :
    Calls Tryz.prog 35 #[.pointer (some ⟨eb,1,none⟩),.func (.func 36) #[] #[.pointer (some ⟨vs,0,none⟩),.pointer (some ⟨ve,0,none⟩),.pointer (some ⟨vg,0,none⟩)]] w fun e w'=>e = .returned (.tuple #[]) ∧
     aU F w' b me mv L cl V cv (es.set i (⟨g,s,true,eL t,kg⟩,eb)) (r+1) a∧aV (fun k=>k=b∨k=eb) w w':=by
 have J:=List.mem_of_getElem? hi;obtain ⟨pv,al,dv,hE,-⟩:=h.ent _ J;have ac:F eb:=h.own.2.2.2 _ J;have Z:=(h.ne.2.2.2 _ J).1;have ne : ∀ {x y:Nat},F x → ¬ F y→y≠x:=fun hx hy e=>hy (e ▸ hx);have O:w.grownBy (w.setCell ⟨eb,2,none⟩ (.int .i32 1)) (some eb):=ab _ _ _ _;have bv:ak (w.setCell ⟨eb,2,none⟩ (.int .i32 1)) eb ([.string s,.int .u32 0,.int .i32 1,.int .u32 0] ++ nF tQ pv al dv ++ [.int .i64 0,.string ⟨#[]⟩,.string ⟨#[]⟩,.string ⟨#[]⟩,.int .i64 0,.int .i64 0,.int .i64 0,.string ⟨#[]⟩]):=hE.setOne rfl (by simp [wV])
 refine (yV eb _ w (rC b eb me mv r a s (eL t) (w.setCell ⟨eb,2,none⟩ (.int .i32 1))) (hE.cell 1 _ rfl) (hE.cell 2 _ rfl) (hE.free 2) ?_
  (yp b eb vs ve vg me mv r a s g t q m _ (nF tQ pv al dv) rfl (h1.grown O (by simp [ne ac n1])) (h2.grown O (by simp [ne ac n2])) (h3.grown O (by simp [ne ac n3])) (h.box.grown O (by simp [Ne.symm Z])) bv (ne h.own.1 n2) (ne h.own.1 n3) Z (ne h.own.1 n0) a9 a8 hs bo ht hr
   ((World.cell?_setCell_other _ _ _ _ (fun e=>by cases e)).trans hm))).mono ?_
 · rintro w1 ⟨-,-,A,D,I,hx,-⟩
   exact ⟨⟨_,hx.cell 1 _ rfl⟩,hx.free 1,hx.cell 2 _ rfl,hx.free 2⟩
 · rintro e w' ⟨rfl,w1,⟨bc,aa,A,D,I,U,bb⟩,rfl⟩
   have a5:ak w1.drew eb ([.string s,.int .u32 0,.int .i32 1,.int .u32 0] ++ nF (eL t) A D I ++ [.int .i64 0,.string ⟨#[]⟩,.string ⟨#[]⟩,.string ⟨#[]⟩,.int .i64 0,.int .i64 0,.int .i64 0,.string ⟨#[]⟩]):=⟨U.lt,U.cell,U.free⟩;have a0:ak w1.drew b [.map (some me),.map (some mv),.int .i64 (r+1),.int .i64 a]:=⟨aa.lt,aa.cell,aa.free⟩;have ba:cy w.heap.size w1.drew (eL t) A D I:=(bb.base_mono O.size).moved fun k _ _=>rfl;have ga:w1.drew.grownBy (w1.drew.setCell ⟨eb,1,none⟩ (.int .u32 1)) (some eb):=ab _ _ _ _;have gb:(w1.drew.setCell ⟨eb,1,none⟩ (.int .u32 1)).grownBy ((w1.drew.setCell ⟨eb,1,none⟩ (.int .u32 1)).setCell ⟨eb,2,none⟩ (.int .i32 0)) (some eb):=ab _ _ _ _;have gc:=ga.trans gb;have bl:eb<w.heap.size:=hE.lt;have a7:ak (w1.drew.setCell ⟨eb,1,none⟩ (.int .u32 1)) eb ([.string s,.int .u32 1,.int .i32 1,.int .u32 0] ++ nF (eL t) A D I ++ [.int .i64 0,.string ⟨#[]⟩,.string ⟨#[]⟩,.string ⟨#[]⟩,.int .i64 0,.int .i64 0,.int .i64 0,.string ⟨#[]⟩]):=a5.setOne rfl (by simp);have a6:ak ((w1.drew.setCell ⟨eb,1,none⟩ (.int .u32 1)).setCell ⟨eb,2,none⟩ (.int .i32 0)) eb (wV ⟨g,s,true,eL t,kg⟩ A D I):=a7.setOne rfl (by simp)
   have ho:aV (fun k=>k=b∨k=eb) w ((w1.drew.setCell ⟨eb,1,none⟩ (.int .u32 1)).setCell ⟨eb,2,none⟩ (.int .i32 0)) :=
    ((aV.grown (F:=fun k=>k=b∨k=eb) O (by rintro k ⟨⟩; exact .inr rfl)).trans bc (fun _ _=>id)).trans ((⟨rfl,rfl,rfl,Nat.le_refl _,fun _ _ _=>rfl⟩:aV (fun k=>k=b∨k=eb) w1 w1.drew).trans (aV.grown (F:=fun k=>k=b∨k=eb) gc (by rintro k ⟨⟩; exact .inr rfl)) (fun _ _=>id)) (fun _ _=>id)
   exact ⟨rfl,h.turn hi rfl ho (a0.grown gc (by simp [Ne.symm Z])) ⟨A,D,I,a6,dY.new (ba.grownB gc bl) h.lt⟩,ho⟩
theorem pA:(Tryz.prog.info? 60).map (·.size)=some 8:=by kernel_rfl
theorem aU.more {F G:Nat→Prop} {w W:World} {b me mv:Nat} {L:List (aF bp)} {cl:Nat} {V:List (aF Id)} {cv:Nat} {es:List (bF × Nat)} {r a:Int} (h:aU F w b me mv L cl V cv es r a) (A:Below w.heap.size w W) (J : ∀ k,G k→w.heap.size≤k∧k<W.heap.size):aU (fun k=>F k∨G k) W b me mv L cl V cv es r a :=
 ⟨h.box.below A h.box.lt,h.ents.below A h.ents.lt,h.vers.below A h.vers.lt,h.same,fun e he=>(h.ent e he).only (aV.of A) (fun k hk I=>I.resolve_right fun D=>by have:=(J k D).1; omega) (A.block _ (h.lt _ (h.own.2.2.2 e he))),
  fun x=>(h.row x).imp id fun ⟨v,h1,h2⟩=>⟨v,h1,h2.below A⟩,fun x v k h1 hk=>⟨.inl (h.rows x v k h1 hk).1,(h.rows x v k h1 hk).2⟩,h.apart,⟨.inl h.own.1,.inl h.own.2.1,.inl h.own.2.2.1,fun e he=>.inl (h.own.2.2.2 e he)⟩,
  fun k hk=>hk.elim (fun I=>Nat.lt_of_lt_of_le (h.lt k I) A.size) (fun D=>(J k D).2),h.ne,h.each,h.once,h.born⟩
theorem aU.back {F G J:Nat→Prop} {w W w':World} {b me mv:Nat} {L:List (aF bp)} {cl:Nat} {V:List (aF Id)} {cv:Nat} {es I:List (bF × Nat)} {r a r' a':Int} (h:aU F w b me mv L cl V cv es r a) (A:aU (fun k=>F k∨G k) W b me mv L cl V cv I r' a') (ho:aV J W w') (O : ∀ k,J k→G k) (Z : ∀ k,G k→w.heap.size≤k) (U:w.heap.size≤W.heap.size) (he : ∀ e ∈ I,F e.2):aU F w' b me mv L cl V cv I r' a':=by
 have D : ∀ k,F k → ¬ J k:=fun k h1 h2=>by have:=h.lt k h1; have:=Z k (O k h2); omega
 exact ⟨A.box.only ho (D _ h.own.1),A.ents.only ho (D _ h.own.2.1),A.vers.only ho (D _ h.own.2.2.1),A.same,
  fun e h1=>(A.ent e h1).only (ho.mono fun k _ h2=>.inr (O k h2)) (fun k _ h2=>.inl h2) (ho.block _ (A.lt _ (A.own.2.2.2 e h1)) (D _ (he e h1))),
  fun x=>(A.row x).imp id fun ⟨v,h1,h2⟩=>⟨v,h1,h2.only ho fun k hk=>D _ (h.rows x v k h1 hk).1⟩,
  fun x v k h1 hk=>⟨(h.rows x v k h1 hk).1,(h.rows x v k h1 hk).2.1,(h.rows x v k h1 hk).2.2.1,(h.rows x v k h1 hk).2.2.2.1,(A.rows x v k h1 hk).2.2.2.2⟩,h.apart,⟨h.own.1,h.own.2.1,h.own.2.2.1,he⟩,
  fun k hk=>Nat.lt_of_lt_of_le (Nat.lt_of_lt_of_le (h.lt k hk) U) ho.size,A.ne,A.each,A.once,A.born⟩
theorem aV.later {F:Nat→Prop} {w w' w1:World} (h:aV F w w') (A:Below w'.heap.size w' w1):aV F w w1:=h.trans (aV.of A) fun _ _=>id
def zA (F:Nat→Prop) (b:Nat) (es:List (bF × Nat)) (r a:Int) (p:pq) (x:AY) (w:World) (e:Ending) (w':World):Prop :=
 (∃ a1 c1 a2 c2 a3 c3,e = .returned (.tuple #[.agg #[.bool p.hasParent,.string p.parent.group,.string p.parent.artifact,.string p.parent.version,.string p.group,.string p.artifact,.string p.version,.string p.packaging,.slice a1 0 c1,.slice a2 0 c2,.slice a3 0 c3],.agg (uS x).toArray])) ∧
  bR F w' b es r a∧aV F w w'
def lr (g:bp) (x0 x1 x2 x3 x4 x5 x6 x7 x8 x9 x10 x11 x12 x13 x14 x15 x16 x20 x21 x22 x23 x24 x25 x26 x27 x28 x29 x30 x31 x32 x33 x34 x35 x36 x37 x38 x39:Value) (f0 f1 f2 _f3 _f4:Bool)  : Act :=
 ⟨#[x0,x1,x2,x3,x4,x5,x6,x7,x8,x9,x10,x11,x12,x13,x14,x15,x16,cond f0 (.agg #[.bool false,.string ⟨#[]⟩,.string ⟨#[]⟩,.string ⟨#[]⟩,.string ⟨#[]⟩,.string ⟨#[]⟩,.string ⟨#[]⟩,.string ⟨#[]⟩,.slice none 0 0,.slice none 0 0,.slice none 0 0]) undef,cond f1 (.agg #[.string g.group,.string g.artifact,.string g.version]) undef,cond f2 (.agg #[.int .i64 25,.string g.group,.string g.artifact,.string g.version,.int .i64 0,.int .i64 0,.int .i64 0,.string ⟨#[]⟩]) undef,x20,x21,x22,x23,x24,x25,x26,x27,x28,x29,x30,x31,x32,x33,x34,x35,x36,x37,x38,x39],[]⟩
inductive zK (H:Nat) (g:bp) (V:World) (x0 x1 x2 x3 x4 x5 x6 x7 x8 x9 x10 x11 x12 x13 x14 x15 x16 x20 x21 x22 x23 x24 x25 x26 x27 x28 x29 x30 x31 x32 x33 x34 x35 x36 x37 x38 x39:Value):Array Bool→Act→World→Prop where
 | mk (f0 f1 f2 f3 f4:Bool)  (w':World) (ch2:Hid (f2=true→f1=true)) (ch3:Hid (f3=true→f0=true)) (ch4:Hid (f4=true→f2=true∧f3=true∧f0=true∧f1=true)) (hB:(f3=false→Below V.heap.size V w')) (rg:ak w' (H+1) [.string g.group,.string g.artifact,.string g.version]) (rp:(f3=false→ak w' (H+2) [.bool false,.string ⟨#[]⟩,.string ⟨#[]⟩,.string ⟨#[]⟩,.string ⟨#[]⟩,.string ⟨#[]⟩,.string ⟨#[]⟩,.string ⟨#[]⟩,.slice none 0 0,.slice none 0 0,.slice none 0 0])) (rq:(f3=true→ak w' (H+2) [.bool false,.string ⟨#[]⟩,.string ⟨#[]⟩,.string ⟨#[]⟩,.string ⟨#[]⟩,.string ⟨#[]⟩,.string ⟨#[]⟩,.string ⟨#[]⟩,.slice none 0 0,.slice none 0 0,.slice none 0 0])) (rr:(f4=false→ak w' (H+3) [.int .i64 0,.string ⟨#[]⟩,.string ⟨#[]⟩,.string ⟨#[]⟩,.int .i64 0,.int .i64 0,.int .i64 0,.string ⟨#[]⟩])) (rs:(f4=true→ak w' (H+3) [.int .i64 25,.string g.group,.string g.artifact,.string g.version,.int .i64 0,.int .i64 0,.int .i64 0,.string ⟨#[]⟩])) (bw:aV (fun k=>k=H+2∨k=H+3) V w'):zK H g V x0 x1 x2 x3 x4 x5 x6 x7 x8 x9 x10 x11 x12 x13 x14 x15 x16 x20 x21 x22 x23 x24 x25 x26 x27 x28 x29 x30 x31 x32 x33 x34 x35 x36 x37 x38 x39 #[f0,f1,f2,f3,f4] (lr g x0 x1 x2 x3 x4 x5 x6 x7 x8 x9 x10 x11 x12 x13 x14 x15 x16 x20 x21 x22 x23 x24 x25 x26 x27 x28 x29 x30 x31 x32 x33 x34 x35 x36 x37 x38 x39 f0 f1 f2 f3 f4 ) w'
theorem zK.at {H:Nat} {g:bp} {V:World} {x0 x1 x2 x3 x4 x5 x6 x7 x8 x9 x10 x11 x12 x13 x14 x15 x16 x20 x21 x22 x23 x24 x25 x26 x27 x28 x29 x30 x31 x32 x33 x34 x35 x36 x37 x38 x39:Value} {A:Array Bool} {D:Act} {w':World} (f0 f1 f2 f3 f4:Bool)  (I:A=#[f0,f1,f2,f3,f4]) (ha:D=lr g x0 x1 x2 x3 x4 x5 x6 x7 x8 x9 x10 x11 x12 x13 x14 x15 x16 x20 x21 x22 x23 x24 x25 x26 x27 x28 x29 x30 x31 x32 x33 x34 x35 x36 x37 x38 x39 f0 f1 f2 f3 f4 ) (ch2:Hid (f2=true→f1=true)) (ch3:Hid (f3=true→f0=true)) (ch4:Hid (f4=true→f2=true∧f3=true∧f0=true∧f1=true)) (hB:(f3=false→Below V.heap.size V w')) (rg:ak w' (H+1) [.string g.group,.string g.artifact,.string g.version]) (rp:(f3=false→ak w' (H+2) [.bool false,.string ⟨#[]⟩,.string ⟨#[]⟩,.string ⟨#[]⟩,.string ⟨#[]⟩,.string ⟨#[]⟩,.string ⟨#[]⟩,.string ⟨#[]⟩,.slice none 0 0,.slice none 0 0,.slice none 0 0])) (rq:(f3=true→ak w' (H+2) [.bool false,.string ⟨#[]⟩,.string ⟨#[]⟩,.string ⟨#[]⟩,.string ⟨#[]⟩,.string ⟨#[]⟩,.string ⟨#[]⟩,.string ⟨#[]⟩,.slice none 0 0,.slice none 0 0,.slice none 0 0])) (rr:(f4=false→ak w' (H+3) [.int .i64 0,.string ⟨#[]⟩,.string ⟨#[]⟩,.string ⟨#[]⟩,.int .i64 0,.int .i64 0,.int .i64 0,.string ⟨#[]⟩])) (rs:(f4=true→ak w' (H+3) [.int .i64 25,.string g.group,.string g.artifact,.string g.version,.int .i64 0,.int .i64 0,.int .i64 0,.string ⟨#[]⟩])) (bw:aV (fun k=>k=H+2∨k=H+3) V w'):zK H g V x0 x1 x2 x3 x4 x5 x6 x7 x8 x9 x10 x11 x12 x13 x14 x15 x16 x20 x21 x22 x23 x24 x25 x26 x27 x28 x29 x30 x31 x32 x33 x34 x35 x36 x37 x38 x39 A D w':=by
 subst I ha;exact .mk f0 f1 f2 f3 f4  w' ch2 ch3 ch4 hB rg rp rq rr rs bw
theorem Ba (g:bp) (w:World) {F:Nat→Prop} {b me mv:Nat} {L:List (aF bp)} {cl:Nat} {V:List (aF Id)} {cv:Nat} {es:List (bF × Nat)} {r a:Int} (h:aU F w b me mv L cl V cv es r a) (hh:je es g=false) (fz:0≤a) (fv:a<4611686018427387904) :
    Calls Tryz.prog 19 #[jr b,.agg #[.string g.group,.string g.artifact,.string g.version]] w (zA F b es r (a+1) tQ ⟨25,g,0,0,0,yt⟩ w):=by
 have dn:=zH hh;clear hh;have hw:IntKind.i64.wrap (a+1)=a+1:=IntWalk.i64_in _ (by omega);have HW:=zH hw;have HS:=zH h;clear hw h;unfold jr;go_enter Tryz.func19,Tryz.ntmps19
 go_upto_region 1 with fail
 refine ai fun W hW=>?_
 have x0:ak W w.heap.size [.pointer (some ⟨b,0,none⟩)]:=by rw [hW]; exact (((ak.new w [.pointer (some ⟨b,0,none⟩)] _ _ rfl).alloc _).alloc _).alloc _
 have x1:ak W (w.heap.size+1) [.string g.group,.string g.artifact,.string g.version]:=by rw [hW]; exact ((ak.new _ [.string g.group,.string g.artifact,.string g.version] _ _ (by simp)).alloc _).alloc _
 have x2:ak W (w.heap.size+2) [.bool false,.string ⟨#[]⟩,.string ⟨#[]⟩,.string ⟨#[]⟩,.string ⟨#[]⟩,.string ⟨#[]⟩,.string ⟨#[]⟩,.string ⟨#[]⟩,.slice none 0 0,.slice none 0 0,.slice none 0 0]:=by rw [hW]; exact (ak.new _ [.bool false,.string ⟨#[]⟩,.string ⟨#[]⟩,.string ⟨#[]⟩,.string ⟨#[]⟩,.string ⟨#[]⟩,.string ⟨#[]⟩,.string ⟨#[]⟩,.slice none 0 0,.slice none 0 0,.slice none 0 0] _ _ (by simp)).alloc _
 have x3:ak W (w.heap.size+3) [.int .i64 0,.string ⟨#[]⟩,.string ⟨#[]⟩,.string ⟨#[]⟩,.int .i64 0,.int .i64 0,.int .i64 0,.string ⟨#[]⟩]:=by rw [hW]; exact ak.new _ [.int .i64 0,.string ⟨#[]⟩,.string ⟨#[]⟩,.string ⟨#[]⟩,.int .i64 0,.int .i64 0,.int .i64 0,.string ⟨#[]⟩] _ _ (by simp)
 have hb:Below w.heap.size w W:=by rw [hW]; exact ((((Below.refl _ w).alloc (Nat.le_refl _) _).alloc (by simp) _).alloc (by simp; omega) _).alloc (by simp; omega) _
 clear hW;have U:aU (fun k=>F k∨(k=w.heap.size+2∨k=w.heap.size+3)) W b me mv L cl V cv es r a:=HS.out.more hb (fun k hk=>hk.elim (fun e=>⟨by rw [e]; omega,by rw [e]; exact x2.lt⟩) (fun e=>⟨by rw [e]; omega,by rw [e]; exact x3.lt⟩));have al:=HS.out.box.lt;have v0:=x0.cell 0 _ rfl;have vl:=x0.lt;have b3:=U.box.cell 3 _ rfl;have b0:=U.box.cell 0 _ rfl;have bl:=U.box.lt;have ha:=ru ⟨b,3,none⟩ a 1 (a+1) W b3 (U.box.free 3) HW.out;have O:W.grownBy (W.setCell ⟨b,3,none⟩ (.int .i64 (a+1))) (some b):=ab _ _ _ _;have a9:=U.counts (r':=r) (a':=a+1) (aV.grown (F:=fun k=>k=b) O (by rintro k ⟨⟩; rfl)) (U.box.setOne rfl (by simp));have ad:=zH (x0.grown O (by simp; omega));have ac:=zH (x1.grown O (by simp; omega));have a4:=zH (x2.grown O (by simp; omega));have a0:=zH (x3.grown O (by simp; omega));have bv:Hid (aV (fun k=>k=b) w _):=((aV.of (F:=fun k=>k=b) hb).trans (aV.grown O (by rintro k ⟨⟩; rfl)) (fun _ _=>id));have J:=zH a9;have HA:=zH ha;clear x0 x1 x2 x3 hb U ha O a9 b3;generalize W.setCell ⟨b,3,none⟩ (.int .i64 (a+1))=W1 at *;go_wp2_with fail
 refine HA.out.mono ?_
 rintro e w1 ⟨rfl,rfl⟩;clear v0 vl b0 bl HA HW;have v0:=ad.out.cell 0 _ rfl;have vl:=ad.out.lt;obtain ⟨g0,g1,g2⟩:=ej ac.out;have gl:=ac.out.lt;go_wp2_with fail
 refine (qW g _ (⟨_,_,_,_,_,_,J.out⟩:bR _ _ b es r (a+1))).mono ?_
 rintro e W2 ⟨rfl,A⟩;rw [dn.out];have bg:Hid (aU (fun k=>F k∨(k=w.heap.size+2∨k=w.heap.size+3)) W2 b me mv L cl V cv es r (a+1)):=J.out.only (aV.of (F:=fun _=>False) A) (fun _ _=>id) fun e he=>(J.out.ent e he).only (aV.of A) (fun _ _=>id) (A.block _ (J.out.lt _ (J.out.own.2.2.2 e he)));have dk:=zH (ad.out.below A vl);have bc:=zH (ac.out.below A gl);have bb:=zH (a4.out.below A a4.out.lt);have ba:=zH (a0.out.below A a0.out.lt);have bo:=zH (bv.out.later A);clear v0 vl g0 g1 g2 gl A ad ac a4 a0 bv J;obtain ⟨H,hH⟩ : ∃ H,H=w.heap.size:=⟨_,rfl⟩;rw [← hH] at bg dk bc bb ba al;rw [← hH];have b2:Hid (H=w.heap.size):=hH;have ga:Hid (b<H):=al;clear hH al
 have b9:=bg;go_upto_region 4 with fail
 refine bm (zK H g W2 _ _ _ _ _ _ _ _ _ _ _ _ _ _ _ _ _ _ _ _ _ _ _ _ _ _ _ _ _ _ _ _ _ _ _ _ _) (by kernel_rfl) 5 rfl (by kernel_rfl) (zK.at false false false false false  rfl (by unfold lr; rfl) ?i0 ?i1 ?i2 ?i3 ?i4 ?i5 ?i6 ?i7 ?i8 ?i9) ?fin ?step
 case i0=>exact zH (by simp)
 case i1=>exact zH (by simp)
 case i2=>exact zH (by simp)
 case i3=>exact fun h0=>aY (Below.refl _ _) 1
 case i4=>exact bc.out.drewN 1
 case i5=>exact fun _=>bb.out.drewN 1
 case i6=>exact by simp
 case i7=>exact fun _=>ba.out.drewN 1
 case i8=>exact by simp
 case i9=>exact ⟨rfl,rfl,rfl,Nat.le_refl _,fun _ _ _=>rfl⟩
 case fin =>
  intro a' w' hJ;generalize hl:Array.replicate 5 true=Lz at hJ;cases hJ with
  | mk f0 f1 f2 f3 f4 _ ch2 ch3 ch4 hB rg rp rq rr rs bw =>
   have a8:[true,true,true,true,true]=[f0,f1,f2,f3,f4]:=congrArg Array.toList hl;simp only [List.cons.injEq,and_true] at a8;obtain ⟨rfl,rfl,rfl,rfl,rfl⟩:=a8;clear hl;unfold lr;simp only [cond_true];have b5:=zH (rq rfl);have b4:=zH (rs rfl);have b6:=zH bw;clear ch2 ch3 ch4 hB rg rp rq rr rs bw;obtain ⟨y0,y1,y2,y3,y4,y5,y6,y7,y8,y9,cf⟩:=rH b5.out;obtain ⟨z0,z1,z2,z3,z4,z5,z6,z7⟩:=xD b4.out;have yl:=b5.out.lt;have zl:=b4.out.lt;go_wp2
   refine bodyPost_ret (v:=.tuple #[.agg #[.bool false,.string ⟨#[]⟩,.string ⟨#[]⟩,.string ⟨#[]⟩,.string ⟨#[]⟩,.string ⟨#[]⟩,.string ⟨#[]⟩,.string ⟨#[]⟩,.slice none 0 0,.slice none 0 0,.slice none 0 0],.agg #[.int .i64 25,.string g.group,.string g.artifact,.string g.version,.int .i64 0,.int .i64 0,.int .i64 0,.string ⟨#[]⟩]]) (by simp [results,Tryz.results19,go_sem,y0,y1,y2,y3,y4,y5,y6,y7,y8,y9,cf,z0,z1,z2,z3,z4,z5,z6,z7]) rfl ?_
   exact ⟨⟨_,_,_,_,_,_,rfl⟩,⟨_,_,_,_,_,_,HS.out.back b9.out b6.out (fun _ h=>h) (by rintro k (rfl | rfl) <;> (have:=b2.out; omega)) bo.out.size HS.out.own.2.2.2⟩,(bo.out.mono (fun k _ e=>by rw [e]; exact HS.out.own.1)).trans b6.out (by rintro k hk (rfl | rfl) <;> (have:=b2.out; omega))⟩
 case step =>
  intro cm a' w' hJ i hi;cases hJ with
  | mk f0 f1 f2 f3 f4 _ ch2 ch3 ch4 hB rg rp rq rr rs bw =>
   rw [mem_ready] at hi;obtain ⟨I,o,ho,ha⟩:=hi;have e9:i<5:=(Array.getElem?_eq_some_iff.1 ho).1;rcases (by omega:i=0∨i=1∨i=2∨i=3∨i=4) with rfl | rfl | rfl | rfl | rfl
   · have aa:=ho
     simp at I ho;subst I ho;clear ha;have e3:f3=false:=zN fun h=>((ch3.out h));have Z:f4=false:=zN fun h=>((ch3.out (ch4.out h).2.1));subst e3 Z;refine .inl ?_
     unfold lr Oper.wp;go_simp
     exact zK.at true f1 f2 false false rfl rfl (ch2) (zH (by simp)) (zH (by simp)) (hB) (rg) (rp) (by simp) (rr) (by simp) (bw)
   · have aa:=ho
     simp at I ho;subst I ho;clear ha;have e2:f2=false:=zN fun h=>((ch2.out h));have Z:f4=false:=zN fun h=>((ch2.out (ch4.out h).1));subst e2 Z;obtain ⟨k0,k1,k2⟩:=ej rg;have kl:=rg.lt;refine .inl ?_
     unfold lr Oper.wp;go_simp
     exact zK.at f0 true false f3 false rfl rfl (zH (by simp)) (ch3) (zH (by simp)) (hB) (rg) (rp) (rq) (rr) (by simp) (bw)
   · have aa:=ho
     simp at I ho;subst I ho;simp [Region.binds] at ha
     obtain rfl:f1=true:=by simp only [ha]
     clear ha;have Z:f4=false:=zN fun h=>((ch4.out h).1);subst Z;refine .inl ?_
     unfold lr Oper.wp;go_simp
     exact zK.at f0 true true f3 false rfl rfl (zH (by simp)) (ch3) (zH (by simp)) (hB) (rg) (rp) (rq) (rr) (by simp) (bw)
   · have aa:=ho
     simp at I ho;subst I ho;simp [Region.binds] at ha
     obtain rfl:f0=true:=by simp only [ha]
     clear ha;have Z:f4=false:=zN fun h=>((ch4.out h).2.1);subst Z;refine .inl ?_
     unfold lr;refine fy 55 (.tmp 4) (.tmp 17) rfl (H+2) [.bool false,.string ⟨#[]⟩,.string ⟨#[]⟩,.string ⟨#[]⟩,.string ⟨#[]⟩,.string ⟨#[]⟩,.string ⟨#[]⟩,.string ⟨#[]⟩,.slice none 0 0,.slice none 0 0,.slice none 0 0] [.bool false,.string ⟨#[]⟩,.string ⟨#[]⟩,.string ⟨#[]⟩,.string ⟨#[]⟩,.string ⟨#[]⟩,.string ⟨#[]⟩,.string ⟨#[]⟩,.slice none 0 0,.slice none 0 0,.slice none 0 0] (by simp [Act.eval]) (by simp [Act.eval]) (rp rfl) rfl gY (by simp [Value.oneCell']) ?_
     intro wz ah D;exact zK.at true f1 f2 true false rfl rfl (ch2) (zH (by simp)) (zH (by simp)) (by simp) (rg.grown D (by simp)) (by simp) (fun _=>ah) (fun h=>(rr h).grown D (by simp)) (by simp) (bw.trans (aV.grown D (by rintro k ⟨⟩; exact .inl rfl)) (fun _ _=>id))
   · have aa:=ho
     simp at I ho;subst I ho;simp [Region.binds] at ha
     obtain rfl:f2=true:=by simp only [ha]
     obtain rfl:f3=true:=by simp only [ha]
     obtain rfl:f0=true:=by simp only [ha]
     obtain rfl:f1=true:=by simp only [ha]
     clear ha;refine .inl ?_
     unfold lr;refine fy 60 (.tmp 5) (.tmp 19) rfl (H+3) [.int .i64 0,.string ⟨#[]⟩,.string ⟨#[]⟩,.string ⟨#[]⟩,.int .i64 0,.int .i64 0,.int .i64 0,.string ⟨#[]⟩] [.int .i64 25,.string g.group,.string g.artifact,.string g.version,.int .i64 0,.int .i64 0,.int .i64 0,.string ⟨#[]⟩] (by simp [Act.eval]) (by simp [Act.eval]) (rr rfl) rfl pA (by simp [Value.oneCell']) ?_
     intro wz ah D;exact zK.at true true true true true rfl rfl (zH (by simp)) (zH (by simp)) (zH (by simp)) (by simp) (rg.grown D (by simp)) (by simp) (fun h=>(rq h).grown D (by simp)) (by simp) (fun _=>ah) (bw.trans (aV.grown D (by rintro k ⟨⟩; exact .inr rfl)) (fun _ _=>id))
end Go.Proofs.YtominiaohfjobaaGreatDoor
