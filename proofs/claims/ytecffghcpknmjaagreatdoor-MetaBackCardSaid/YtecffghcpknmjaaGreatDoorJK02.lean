/- The walks of slices.rotateCmpFunc and slices.insertionSortCmpFunc at texts; the conditions stand in the theorems. -/
import Derived.Test.YtecffghcpknmjaaGreatDoorJK01
import Derived.Deep.QuietTactic
import Derived.BigQuiet
import Derived.Deep.CutRange
import Derived.Test.YtecffghcpknmjaaGreatDoorShelf
namespace Go.Proofs.YtecffghcpknmjaaGreatDoor
open Go Go.RowKit
theorem cut_len {α:Type} {l:List α} {k:Nat} (h:k≤l.length) : ∃ a b,l=a ++ b∧a.length=k:=⟨l.take k,l.drop k,by simp,by simp; omega⟩
set_option maxRecDepth 100000 in
set_option maxHeartbeats 4000000 in
theorem rotate_any {B g cap N a m b:Nat} {w0:World} (cm:Value) (P U V Q:List S) (hN:N≤1000000) (ha:a=P.length) (hm:m=a+U.length) (hb:b=m+V.length) (hu:U≠[]) (hv:V≠[]) (w:World) (h:SF B g cap N w0 w (P ++ (U ++ (V ++ Q)))) :
    Calls Tryz.prog 151 #[.slice (some ⟨g,0,none⟩) N cap,.int .i64 a,.int .i64 m,.int .i64 b,cm] w fun e w'=>e = .returned (.tuple #[])∧SF B g cap N w0 w' (P ++ (V ++ (U ++ Q))):=by
 have hlen:=h.len;simp only [List.length_append] at hlen;have hul:0<U.length:=List.length_pos_iff.2 hu;have hvl:0<V.length:=List.length_pos_iff.2 hv;have HS:=Lib.hid h;obtain ⟨i0,hi0⟩ : ∃ i0,i0=U.length:=⟨_,rfl⟩;obtain ⟨j0,hj0⟩ : ∃ j0,j0=V.length:=⟨_,rfl⟩;have r1:(m:Int) - (a:Int)=(i0:Int):=by omega
 have r2:(b:Int) - (m:Int)=(j0:Int):=by omega
 have w1:IntKind.i64.wrap ((m:Int) - (a:Int))=(i0:Int):=by rw [r1]; exact IntWalk.i64_in _ (by omega)
 have w2:IntKind.i64.wrap ((b:Int) - (m:Int))=(j0:Int):=by rw [r2]; exact IntWalk.i64_in _ (by omega)
 have HI:Hid (i0=U.length):=hi0;have HJ:Hid (j0=V.length):=hj0;have HM:Hid (m=P.length+i0):=by show _=_; omega
 have hm2:m≤1000000:=by omega
 have h1:0<i0:=by omega
 have h2:0<j0:=by omega
 clear h hu hv hlen ha hm hb hul hvl hi0 hj0 r1 r2;go_enter Tryz.func151,Tryz.ntmps151
 go_wp2
 clear w1 w2;go_loopw [10,11] (fun vi vj wr=>∃ (i j:Nat) (P' X Y Q':List S),vi = .int .i64 i∧vj = .int .i64 j∧0<i∧0<j∧Hid (X.length=i)∧Hid (Y.length=j)∧Hid (m=P'.length+i)∧Hid (P ++ (V ++ (U ++ Q))=P' ++ (Y ++ (X ++ Q')))∧Hid (SF B g cap N w0 wr (P' ++ (X ++ (Y ++ Q'))))) (fun vi vj _=>(intOf vi).toNat+(intOf vj).toNat)
 case atStart=>exact ⟨i0,j0,P,U,V,Q,rfl,rfl,h1,h2,HI.out.symm,HJ.out.symm,HM,rfl,HS.out⟩
 case round =>
  clear HS HM HI HJ;obtain ⟨i,j,P',X,Y,Q',rfl,rfl,hi,hj,HX,HY,HM,HG,HR⟩:=hrel
  have HL:Hid (P'.length+i+j+Q'.length=N):=by
   show _=_
   have:=HR.out.len
   simp only [List.length_append] at this;rw [HX.out,HY.out] at this; omega
  have hsum:i+j≤1000000:=by have:=HL.out; omega
  have hmj:m+j≤1000000:=by have h1:=HL.out; have h2:=HM.out; change _=_ at h1; change _=_ at h2; omega
  have him:i≤m:=by have h2:=HM.out; change _=_ at h2; omega
  obtain ⟨p,hp⟩ : ∃ p,p=P'.length:=⟨_,rfl⟩;have hpm:(m:Int) - (i:Int)=(p:Int):=by have h2:=HM.out; change _=_ at h2; omega
  have wpm:IntKind.i64.wrap ((m:Int) - (i:Int))=(p:Int):=by rw [hpm]; exact IntWalk.i64_in _ (by omega)
  have HP:=Lib.hid hp;clear hp hpm;by_cases hij:i=j
  · have e1:((i:Int) == (j:Int))=true:=by rw [beq_iff_eq]; omega
    have e2:(i == j)=true:=by rw [beq_iff_eq]; exact hij
    have hc:=swapRange_any cm P' X [] Y Q' hN HP.out HX.out (HY.out.trans hij.symm) (b:=m) (by have h2:=HM.out; change _=_ at h2; simpa using h2) wr (by have:=HR.out; simpa using this);clear hij;go_wp2_with fail
    refine hc.mono ?_
    rintro e w9 ⟨rfl,hs⟩;have HE:Hid (SF B g cap N w0 w9 (P ++ (V ++ (U ++ Q)))):=by show SF _ _ _ _ _ _ _; rw [HG.out]; simpa using hs
    clear hs;go_wp2
    go_end0
    exact ⟨rfl,HE.out⟩
  · have e1:((i:Int) == (j:Int))=false:=by rw [beq_eq_false_iff_ne]; omega
    have e2:(i == j)=false:=by rw [beq_eq_false_iff_ne]; exact hij
    by_cases hlt:j<i
    · have d1:decide ((i:Int) > (j:Int))=true:=decide_eq_true (by omega)
      have d2:(j:Int)<(i:Int):=by omega
      obtain ⟨X1,X2,rfl,hX1⟩:=cut_len (l:=X) (k:=j) (by have:=HX.out; change _=_ at this; omega);obtain ⟨k,hk⟩ : ∃ k:Nat,k=i - j:=⟨_,rfl⟩;have wk:IntKind.i64.wrap ((i:Int) - (j:Int))=(k:Int):=by rw [show (i:Int) - (j:Int)=(k:Int) by omega]; exact IntWalk.i64_in _ (by omega)
      have HX2:Hid (X2.length=k):=by have:=HX.out; change _=_ at this; rw [List.length_append] at this; show _=_; omega
      have hc:=swapRange_any cm P' X1 X2 Y Q' hN HP.out hX1 HY.out (b:=m) (by have h2:=HM.out; have h3:=HX2.out; have h4:=HP.out; change _=_ at h2; change _=_ at h3; change _=_ at h4; omega) wr (by have:=HR.out; simpa using this);have HK:=Lib.hid hk;clear hij hk hX1;go_wp2_with fail
      refine hc.mono ?_
      rintro e w9 ⟨rfl,hs⟩;have HS:=Lib.hid hs;clear hs hc;go_wp2
      go_roundw
      case rel =>
       have hk:k=i - j:=HK.out;have h3:X2.length=k:=HX2.out;have h4:p=P'.length:=HP.out;have h5:m=P'.length+i:=HM.out;refine ⟨k,j,P' ++ Y,X2,X1,Q',by first | rfl | go_num,rfl,by omega,hj,h3,?_,?_,?_,?_⟩
       · have:=HX.out; change _=_ at this; rw [List.length_append] at this; show _=_; omega
       · show _=_; rw [List.length_append,HY.out]; omega
       · show _=_; rw [HG.out]; simp
       · show SF _ _ _ _ _ _ _; have:=HS.out; simpa using this
      case measure=>have hk:k=i - j:=HK.out; simp [intOf]; omega
    · have d1:decide ((i:Int) > (j:Int))=false:=decide_eq_false (by omega)
      have d2 : ¬ (j:Int)<(i:Int):=by omega
      obtain ⟨k,hk⟩ : ∃ k:Nat,k=j - i:=⟨_,rfl⟩;obtain ⟨Y1,Y2,rfl,hY1⟩:=cut_len (l:=Y) (k:=k) (by have:=HY.out; change _=_ at this; omega);have HY2:Hid (Y2.length=i):=by have:=HY.out; change _=_ at this; rw [List.length_append] at this; show _=_; omega
      have w1:IntKind.i64.wrap ((m:Int)+(j:Int))=(m:Int)+(j:Int):=IntWalk.i64_in _ (by omega);obtain ⟨q,hq⟩ : ∃ q:Nat,q=m+j - i:=⟨_,rfl⟩;have w2:IntKind.i64.wrap ((m:Int)+(j:Int) - (i:Int))=(q:Int):=by rw [show (m:Int)+(j:Int) - (i:Int)=(q:Int) by omega]; exact IntWalk.i64_in _ (by omega)
      have wk:IntKind.i64.wrap ((j:Int) - (i:Int))=(k:Int):=by rw [show (j:Int) - (i:Int)=(k:Int) by omega]; exact IntWalk.i64_in _ (by omega)
      have hc:=swapRange_any cm P' X Y1 Y2 Q' hN HP.out HX.out HY2.out (b:=q) (by have h2:=HM.out; have h4:=HP.out; change _=_ at h2; change _=_ at h4; omega) wr (by have:=HR.out; simpa using this);have HK:=Lib.hid hk;have HY1:=Lib.hid hY1;clear hk hY1 hq;go_wp2_with fail
      refine hc.mono ?_
      rintro e w9 ⟨rfl,hs⟩;have HS:=Lib.hid hs;clear hs hc;go_wp2
      go_roundw
      case rel =>
       have hk:k=j - i:=HK.out;have h4:p=P'.length:=HP.out;have h5:m=P'.length+i:=HM.out;refine ⟨i,k,P',Y2,Y1,X ++ Q',rfl,by first | rfl | go_num,hi,by omega,HY2,HY1,HM,?_,?_⟩
       · show _=_; rw [HG.out]; simp
       · show SF _ _ _ _ _ _ _; have:=HS.out; simpa using this
      case measure=>have hk:k=j - i:=HK.out; simp [intOf]; omega
def CmpOk (cf:S→S→Int):Prop:=∀ (a b:S) (W:World),a.size≤900000→b.size≤900000→Calls Tryz.prog 49 #[.string a,.string b] W fun e w'=>e = .returned (.int .i64 (cf a b))∧Below W.heap.size W w'
def ltF (cf:S→S→Int) (a b:S):Bool:=decide (cf a b<0)
theorem enters_cmp : ∀ (args:Array Value) (w:World),(callFunc 49 args).run Tryz.prog w = .ok (.enter 49 args) w:=fun args w=>by kernel_rfl
def cmpF:Value:=.func (.func 49) #[] #[]
def AllSmall (l:List S):Prop:=∀ x ∈ l,x.size≤900000
theorem swap_next {α:Type} (p:List α) (y x:α) (q:List α) {k:Nat} (hk:k=p.length):((p ++ y::x::q).set (k+1) y).set k x=p ++ x::y::q:=by
 subst hk;rw [List.set_append_right _ _ (by omega),show p.length+1 - p.length=1 by omega,List.set_append_right _ _ (Nat.le_refl _),Nat.sub_self];rfl
theorem snoc_of {α:Type} {l:List α} (h:l≠[]) : ∃ a x,l=a ++ [x]:=⟨l.dropLast,l.getLast h,(List.dropLast_concat_getLast h).symm⟩
set_option maxRecDepth 100000 in
set_option maxHeartbeats 4000000 in
theorem insert_any {B g cap N a b:Nat} {w0:World} {cf:S→S→Int} (hC:CmpOk cf) (hW:Weak (ltF cf)) (P R0 Q:List S) (hN:N≤1000000) (ha:a=P.length) (hb:b=a+R0.length) (hs:AllSmall R0) (w:World) (h:SF B g cap N w0 w (P ++ (R0 ++ Q))) :
    Calls Tryz.prog 140 #[.slice (some ⟨g,0,none⟩) N cap,.int .i64 a,.int .i64 b,cmpF] w fun e w'=>e = .returned (.tuple #[]) ∧ ∃ M,Srt (ltF cf) M∧SameE (ltF cf) R0 M∧SF B g cap N w0 w' (P ++ (M ++ Q)):=by
 have hlen:=h.len;simp only [List.length_append] at hlen;have HS:=Lib.hid h;have HC:=Lib.hid hC;have HA:=Lib.hid ha;have HSM:=Lib.hid hs;have hbn:b≤1000000:=by omega
 have hbN:b≤N:=by omega
 have wa:IntKind.i64.wrap ((a:Int)+1)=(a:Int)+1:=IntWalk.i64_in _ (by omega);clear h hC hlen ha hs;have hen:=enters_cmp;unfold cmpF;cases R0 with
 | nil =>
  have d1 : ¬ (a:Int)+1<(b:Int):=by simp at hb; omega
  clear hb;go_enter Tryz.func140,Tryz.ntmps140
  go_wp2
  refine wp_loop_rounds 1 ?_
  rw [rounds_succ];go_wp2
  go_end0
  exact ⟨rfl,[],srt_nil,SameE.refl _,HS.out⟩
 | cons x0 R1 =>
  have HBL:Hid (b=a+1+R1.length):=by show _=_; rw [hb,List.length_cons]; omega
  have hab:a+1≤b:=by rw [hb,List.length_cons]; omega
  clear hb;go_enter Tryz.func140,Tryz.ntmps140
  go_wp2
  clear wa;go_loopw [8] (fun vi wr=>∃ (i:Nat) (M0 M R:List S),vi = .int .i64 i∧i≤b∧a<i∧Hid (x0::R1=M0 ++ R)∧Hid (i=a+M.length)∧Hid (Srt (ltF cf) M)∧Hid (SameE (ltF cf) M0 M)∧Hid (SF B g cap N w0 wr (P ++ (M ++ (R ++ Q))))) (fun vi _=>b - (intOf vi).toNat)
  case atStart=>exact ⟨a+1,[x0],[x0],R1,by first | rfl | go_num,hab,by omega,rfl,rfl,srt_one _,SameE.refl _,(by show SF _ _ _ _ _ _ _; simpa using HS.out)⟩
  case round =>
   clear HS;obtain ⟨i,M0,M,R,rfl,hib,hai,HM0,HI,HSR,HSE,HR⟩:=hrel;have HBR:Hid (M.length=M0.length):=(HSE.out.perm hW).length_eq.symm;by_cases hlt:i<b
   · have hltz:(i:Int)<(b:Int):=by omega
     obtain ⟨x,R,rfl⟩ : ∃ x R',R=x::R':=by
      cases R with
      | nil =>
       have h1:=congrArg List.length (show x0::R1=M0 ++ [] from HM0.out);have h2:=HBL.out; have h3:=HI.out; have h4:=HBR.out;change _=_ at h2; change _=_ at h3; change _=_ at h4
       simp at h1; omega
      | cons x R'=>exact ⟨x,R',rfl⟩
     go_wp2
     go_loopw [9] (fun vj wr2=>∃ (j:Nat) (M1 M2:List S),vj = .int .i64 j∧a≤j∧j≤i∧Hid (M=M1 ++ M2)∧Hid (j=a+M1.length)∧Hid (∀ y ∈ M2,ltF cf x y=true)∧Hid (SF B g cap N w0 wr2 (P ++ (M1 ++ x::(M2 ++ (R ++ Q)))))) (fun vj _=>(intOf vj).toNat)
     case atStart=>exact ⟨i,M,[],rfl,by omega,Nat.le_refl _,(by show _=_; simp),HI,(by show ∀ _,_; simp),(by show SF _ _ _ _ _ _ _; simpa using HR.out)⟩
     case round =>
      clear HR;obtain ⟨j,M1,M2,rfl,haj,hji,HM,HJ,HLT,HR⟩:=hrel
      have out:(∀ y ∈ M1,ltF cf x y=false)→Hid (∃ M',Srt (ltF cf) M'∧SameE (ltF cf) (M0 ++ [x]) M'∧M'.length=M.length+1∧SF B g cap N w0 wr (P ++ (M' ++ (R ++ Q)))):=fun hy=>by
       have e:M=M1 ++ M2:=HM.out;refine ⟨M1 ++ x::M2,ins_srt hW (e ▸ HSR.out) hy HLT.out,?_,by rw [e]; simp; omega,?_⟩
       · refine SameE.trans (HSE.out.app (SameE.refl [x])) ?_
         rw [e]; exact ins_same hW HLT.out
       · have:=HR.out; simpa using this
      have OUT:=Lib.hid out;clear out;by_cases hja:a<j
      · obtain ⟨M3,y,rfl⟩:=snoc_of (l:=M1) (fun e=>by have:=HJ.out; change _=_ at this; rw [e] at this; simp at this; omega)
        obtain ⟨jp,hjp⟩ : ∃ jp,j=jp+1:=⟨j - 1,by omega⟩;subst hjp;have d1:decide ((jp:Int)+1 > (a:Int))=true:=decide_eq_true (by omega);have d2:(a:Int)<(jp:Int)+1:=by omega
        have d3:decide (a<jp+1)=true:=decide_eq_true hja;have w1:IntKind.i64.wrap ((jp:Int)+1 - 1)=(jp:Int):=by rw [show (jp:Int)+1 - 1=(jp:Int) by omega]; exact IntWalk.i64_in _ (by omega)
        have HR':Hid (SF B g cap N w0 wr ((P ++ M3) ++ y::([] ++ x::(M2 ++ (R ++ Q))))):=by show SF _ _ _ _ _ _ _; have:=HR.out; simpa using this
        have hp1:Hid (jp=(P ++ M3).length):=by show _=_; have h1:=HA.out; have h2:=HJ.out; change _=_ at h1; change _=_ at h2; simp at *; omega
        have g1:=at_mid (P ++ M3) y ([] ++ x::(M2 ++ (R ++ Q))) hp1.out;have g2:=at_mid2 (P ++ M3) y [] x (M2 ++ (R ++ Q)) (k:=jp+1) (by have:=hp1.out; change _=_ at this; simp at *; omega);have c1:=(HR'.out.cell g1).1;have f1:=(HR'.out.cell g1).2.1;have c2:=(HR'.out.cell g2).1;have f2:=(HR'.out.cell g2).2.1;have gl:=(HR'.out.cell g2).2.2;have sy:y.size≤900000:=HSM.out y (by rw [show x0::R1=_ from HM0.out]; exact List.mem_append_left _ (HSE.out.symm.mem hW (by rw [show M=_ from HM.out]; simp)));have sx:x.size≤900000:=HSM.out x (by rw [show x0::R1=_ from HM0.out]; simp);have l1:(jp:Int)+1<(N:Int):=by omega
        have l2:(jp:Int)<(N:Int):=by omega
        have t1:((jp:Int)+1).toNat=jp+1:=by omega
        have p1:(0:Int)≤(jp:Int)+1:=by omega
        have hLL:=@Later.cells wr;have HCC:Hid (∀ z:Later wr,Calls Tryz.prog 49 #[.string x,.string y] z.at_ fun e w''=>e = .returned (.int .i64 (cf x y)) ∧ ∃ u:Later wr,w''=u.at_):=fun z=>Later.call (HC.out _ _ _ sx sy);go_wp2_with fail
        refine region_later (by kernel_rfl) (by kernel_rfl) ?_
        repeat (go_big_quiet_step ((first | (go_at_call 49; with_reducible exact HCC.out _))))
        refine wpQuiet_nil ?_
        rintro _ ⟨nx,rfl⟩;have HR2:Hid (SF B g cap N w0 nx.at_ ((P ++ M3) ++ y::x::(M2 ++ (R ++ Q)))):=HR'.out.later nx.below;clear hLL HCC c1 c2 f1 f2 gl sy sx HR HR';generalize nx.at_=w2 at *;have hq:ltF cf x y=decide (cf x y<0):=rfl;generalize decide (cf x y<0)=q at *;cases q with
        | true =>
         have HLY:=Lib.hid hq;clear hq OUT;have c1:=(HR2.out.cell g1).1;have f1:=(HR2.out.cell g1).2.1;have c2:=(HR2.out.cell g2).1;have f2:=(HR2.out.cell g2).2.1;have c3:(w2.setCell ⟨g,jp+1,none⟩ (.string y)).cell? ⟨g,jp,none⟩=some (.string y):=by rw [World.cell?_setCell_other _ _ _ _ (by simp only [Addr.mk.injEq,not_and,ne_eq]; omega)]; exact c1
         have HS2:Hid (SF B g cap N w0 ((w2.setCell ⟨g,jp+1,none⟩ (.string y)).setCell ⟨g,jp,none⟩ (.string x)).drew ((P ++ M3) ++ x::y::(M2 ++ (R ++ Q)))):=by
          have:=HR2.out.swap g2 g1 (by omega)
          rw [swap_next _ _ _ _ hp1.out] at this;exact this
         clear g1 g2;go_wp2_with fail
         go_big_region
         clear c1 c2 c3 f1 f2;generalize ((w2.setCell ⟨g,jp+1,none⟩ (.string y)).setCell ⟨g,jp,none⟩ (.string x)).drew=w3 at *;go_wp2
         go_roundw
         case rel =>
          refine ⟨jp,M3,y::M2,by first | rfl | go_num,by omega,by omega,?_,?_,?_,?_⟩
          · show _=_; rw [HM.out]; simp
          · show _=_; have:=HJ.out; change _=_ at this; simp at this; omega
          · intro z hz
            rcases List.mem_cons.1 hz with rfl | hz
            · exact HLY.out
            · exact HLT.out z hz
          · show SF _ _ _ _ _ _ _; have:=HS2.out; simpa using this
         case measure=>simp [intOf]
        | false =>
         have hout:Hid (∃ M',Srt (ltF cf) M'∧SameE (ltF cf) (M0 ++ [x]) M'∧M'.length=M.length+1∧SF B g cap N w0 w2 (P ++ (M' ++ (R ++ Q)))):=by
          have e:M=(M3 ++ [y]) ++ M2:=HM.out;have hy : ∀ z ∈ M3 ++ [y],ltF cf x z=false:=srt_last hW (e ▸ HSR.out:Srt (ltF cf) ((M3 ++ [y]) ++ M2)).left hq;refine ⟨(M3 ++ [y]) ++ x::M2,ins_srt hW (e ▸ HSR.out) hy HLT.out,?_,by rw [e]; simp; omega,by have:=HR2.out; simpa using this⟩
          refine SameE.trans (HSE.out.app (SameE.refl [x])) ?_
          rw [e]; exact ins_same hW HLT.out
         obtain ⟨M',hm1,hm2,hm3,hm4⟩:=hout.out;have HM1:=Lib.hid hm1;have HM2:=Lib.hid hm2;have HM3:=Lib.hid hm3;have HM4:=Lib.hid hm4;clear hout hm1 hm2 hm3 hm4 hq OUT;have w2':IntKind.i64.wrap ((i:Int)+1)=(i:Int)+1:=IntWalk.i64_in _ (by omega);go_wp2
         go_roundw
         case rel=>exact ⟨i+1,M0 ++ [x],M',R,by first | rfl | go_num,hlt,by omega,(by show _=_; rw [HM0.out]; simp),(by show _=_; rw [HM3.out,HI.out]; omega),HM1,HM2,HM4⟩
         case measure=>simp [intOf]; omega
      · obtain rfl:j=a:=by omega
        have hM1:M1=[]:=List.eq_nil_of_length_eq_zero (by have:=HJ.out; change _=_ at this; omega);have d1:decide ((j:Int) > (j:Int))=false:=decide_eq_false (by omega);have d2 : ¬ (j:Int)<(j:Int):=by omega
        have d3:decide (j<j)=false:=decide_eq_false (by omega);obtain ⟨M',hm1,hm2,hm3,hm4⟩:=(OUT.out (fun y hy=>by rw [hM1] at hy; cases hy)).out;have HM1:=Lib.hid hm1;have HM2:=Lib.hid hm2;have HM3:=Lib.hid hm3;clear hm1 hm2 hm3 OUT hM1 HR;go_wp2_with fail
        refine region_later (by kernel_rfl) (by kernel_rfl) ?_
        repeat (go_big_quiet_step (fail))
        refine wpQuiet_nil ?_
        rintro _ ⟨nx,rfl⟩;have HM4:=Lib.hid (hm4.later nx.below);clear hm4;generalize nx.at_=w2 at *;have w2':IntKind.i64.wrap ((i:Int)+1)=(i:Int)+1:=IntWalk.i64_in _ (by omega);go_wp2
        go_roundw
        case rel=>exact ⟨i+1,M0 ++ [x],M',R,by first | rfl | go_num,hlt,by omega,(by show _=_; rw [HM0.out]; simp),(by show _=_; rw [HM3.out,HI.out]; omega),HM1,HM2,HM4⟩
        case measure=>simp [intOf]; omega
   · obtain rfl:i=b:=by omega
     have hR:R=[]:=List.eq_nil_of_length_eq_zero (by
      have h1:=congrArg List.length (show x0::R1=M0 ++ R from HM0.out);have h2:=HBL.out; have h3:=HI.out; have h4:=HBR.out;change _=_ at h2; change _=_ at h3; change _=_ at h4
      rw [List.length_cons,List.length_append] at h1; omega)
     subst hR;have d2 : ¬ (i:Int)<(i:Int):=by omega
     go_wp2
     go_end0
     exact ⟨rfl,M,HSR.out,(by rw [show x0::R1=M0 ++ [] from HM0.out,List.append_nil]; exact HSE.out),HR.out⟩
theorem cut_at {α:Type} {l:List α} {k:Nat} (h:k<l.length) : ∃ a x b,l=a ++ x::b∧a.length=k:=⟨l.take k,l[k],l.drop (k+1),by rw [← List.drop_eq_getElem_cons h,List.take_append_drop],by simp; omega⟩
theorem swap_next' {α:Type} (p:List α) (y x:α) (q:List α) {k:Nat} (hk:k=p.length):((p ++ y::x::q).set k x).set (k+1) y=p ++ x::y::q:=by
 subst hk;rw [List.set_append_right _ _ (Nat.le_refl _),Nat.sub_self,List.set_cons_zero,List.set_append_right _ _ (by omega),show p.length+1 - p.length=1 by omega];rfl
theorem at_next {α:Type} (p:List α) (y x:α) (q:List α) {k:Nat} (hk:k=p.length):(p ++ y::x::q)[k+1]? = some x:=by
 subst hk;rw [List.getElem?_append_right (by omega),show p.length+1 - p.length=1 by omega]; rfl
def Merged (cf:S→S→Int) (B g cap N:Nat) (w0:World) (P U V Q:List S) (e:Ending) (w':World):Prop:=e = .returned (.tuple #[]) ∧ ∃ M,Srt (ltF cf) M∧SameE (ltF cf) (U ++ V) M∧SF B g cap N w0 w' (P ++ (M ++ Q))
set_option maxRecDepth 100000 in
set_option maxHeartbeats 4000000 in
theorem symLeft_any {B g cap N a m b:Nat} {w0:World} {cf:S→S→Int} (hC:CmpOk cf) (hW:Weak (ltF cf)) (P:List S) (x:S) (V Q:List S) (hN:N≤1000000) (ha:a=P.length) (hm:m=a+1) (hb:b=m+V.length) (hsx:x.size≤900000) (hsv:AllSmall V) (hV:Srt (ltF cf) V) (w:World) (h:SF B g cap N w0 w (P ++ x::(V ++ Q))) :
    Calls Tryz.prog 141 #[.slice (some ⟨g,0,none⟩) N cap,.int .i64 a,.int .i64 m,.int .i64 b,cmpF] w (Merged cf B g cap N w0 P [x] V Q):=by
 have hlen:=h.len;simp only [List.length_append,List.length_cons] at hlen;have HS:=Lib.hid h;have HC:=Lib.hid hC;have HA:=Lib.hid ha;have HM:=Lib.hid hm;have HBV:Hid (b=a+1+V.length):=by show _=_; omega
 have hbN:b≤N:=by omega
 have hmb:m≤b:=by omega
 have haN:a<N:=by omega
 have hm0:0<m:=by omega
 have e1:IntKind.i64.wrap ((m:Int) - (a:Int))=1:=by rw [show (m:Int) - (a:Int)=1 by omega]; exact IntWalk.i64_in _ (by omega)
 clear h hC hlen ha hb hm;have hen:=enters_cmp;unfold cmpF;go_enter Tryz.func141,Tryz.ntmps141
 go_wp2
 clear e1;go_loopw [10,11] (fun vi vj wr=>∃ (i j:Nat) (V1 V2 V3:List S),vi = .int .i64 i∧vj = .int .i64 j∧m≤i∧i≤j∧j≤b∧Hid (V=V1 ++ (V2 ++ V3))∧Hid (V1.length+m=i)∧Hid (V2.length+i=j)∧Hid (∀ v ∈ V1,ltF cf v x=true)∧Hid (∀ v ∈ V3,ltF cf v x=false)∧Hid (SF B g cap N w0 wr (P ++ x::(V ++ Q)))) (fun vi vj _=>(intOf vj).toNat - (intOf vi).toNat)
 case atStart=>exact ⟨m,b,[],V,[],rfl,rfl,Nat.le_refl _,hmb,Nat.le_refl _,(by show _=_; simp),(by show _=_; simp),(by show _=_; rw [HBV.out,HM.out]; omega),(by show ∀ _,_; simp),(by show ∀ _,_; simp),HS⟩
 case round =>
  clear HS;obtain ⟨i,j,V1,V2,V3,rfl,rfl,hmi,hij,hjb,HV,HI,HJ,HL,HG,HR⟩:=hrel;by_cases hlt:i<j
  · obtain ⟨k,hk⟩ : ∃ k:Nat,k=(i+j) / 2:=⟨_,rfl⟩
    have hik:i≤k:=by omega
    have hkj:k<j:=by omega
    have hkz:((i:Int)+(j:Int)) / 2=(k:Int):=by omega
    obtain ⟨A,v,C,rfl,hAl⟩:=cut_at (l:=V2) (k:=k - i) (by have:=HJ.out; change _=_ at this; omega);have HAl:Hid (A.length+i=k):=by show _=_; omega
    have g1:(P ++ x::(V ++ Q))[k]? = some v:=by
     have h1:=HV.out; have h2:=HA.out; have h3:=HI.out; have h4:=HAl.out; have h5:=HM.out;change _=_ at h1; change _=_ at h2; change _=_ at h3; change _=_ at h4; change _=_ at h5
     rw [h1,show P ++ x::((V1 ++ ((A ++ v::C) ++ V3)) ++ Q)=(P ++ x::(V1 ++ A)) ++ v::(C ++ V3 ++ Q) by simp];exact at_mid _ _ _ (by simp; omega)
    have g2:(P ++ x::(V ++ Q))[a]? = some x:=at_mid _ _ _ HA.out;have sv:v.size≤900000:=hsv v (by rw [show V=_ from HV.out]; simp);have HG1:=Lib.hid g1;have HG2:=Lib.hid g2;have HVS:Hid (Srt (ltF cf) (V1 ++ ((A ++ v::C) ++ V3))):=by have:=hV; rw [show V=_ from HV.out] at this; exact this
    have lk:(k:Int)<(N:Int):=by omega
    have la:(a:Int)<(N:Int):=by omega
    clear hk hAl g1 g2;have c1:=(HR.out.cell HG1.out).1;have c2:=(HR.out.cell HG2.out).1;have gl:=(HR.out.cell HG1.out).2.2;have hLL:=@Later.cells wr;have HCC:Hid (∀ z:Later wr,Calls Tryz.prog 49 #[.string v,.string x] z.at_ fun e w''=>e = .returned (.int .i64 (cf v x)) ∧ ∃ u:Later wr,w''=u.at_):=fun z=>Later.call (HC.out _ _ _ sv hsx);go_wp2_with fail
    refine region_later (by kernel_rfl) (by kernel_rfl) ?_
    repeat (go_big_quiet_step ((first | (go_at_call 49; with_reducible exact HCC.out _))))
    refine wpQuiet_nil ?_
    rintro _ ⟨nx,rfl⟩;have HR2:=Lib.hid (HR.out.later nx.below);clear hLL HCC c1 c2 gl HR;generalize nx.at_=w2 at *;have hq:ltF cf v x=decide (cf v x<0):=rfl;generalize decide (cf v x<0)=q at *;cases q with
    | true =>
     have HQ:=Lib.hid hq;have wk:IntKind.i64.wrap ((k:Int)+1)=(k:Int)+1:=IntWalk.i64_in _ (by omega);clear hq;go_wp2
     go_roundw
     case rel =>
      refine ⟨k+1,j,V1 ++ (A ++ [v]),C,V3,by first | rfl | go_num,rfl,by omega,by omega,hjb,?_,?_,?_,?_,HG,HR2⟩
      · show _=_; rw [show V=_ from HV.out]; simp
      · have h3:=HI.out; have h4:=HAl.out; change _=_ at h3; change _=_ at h4; show _=_; simp; omega
      · have h3:=HJ.out; have h4:=HAl.out; change _=_ at h3; change _=_ at h4; show _=_; simp at h3; omega
      · intro y hy
        rcases List.mem_append.1 hy with hy | hy
        · exact HL.out y hy
        · have hs:Srt (ltF cf) (A ++ v::C):=HVS.out.right.left
          rcases List.mem_append.1 hy with hy | hy
          · exact hW.of_lt (hs.across y hy v List.mem_cons_self) HQ.out
          · rw [List.mem_singleton.1 hy]; exact HQ.out
     case measure=>simp [intOf]; omega
    | false =>
     have HQ:=Lib.hid hq;clear hq;go_wp2
     go_roundw
     case rel =>
      refine ⟨i,k,V1,A,v::(C ++ V3),rfl,by first | rfl | go_num,hmi,hik,by omega,?_,HI,HAl,HL,?_,HR2⟩
      · show _=_; rw [show V=_ from HV.out]; simp
      · intro y hy
        rcases List.mem_cons.1 hy with rfl | hy
        · exact HQ.out
        · rcases List.mem_append.1 hy with hy | hy
          · have hs:Srt (ltF cf) (v::C):=HVS.out.right.left.right
            exact hW.leT (HQ.out) ((List.pairwise_cons.1 hs).1 y hy)
          · exact HG.out y hy
     case measure=>simp [intOf]; omega
  · obtain rfl:i=j:=by omega
    have hV2:V2=[]:=List.eq_nil_of_length_eq_zero (by have:=HJ.out; change _=_ at this; omega);subst hV2;clear HJ hij hlt;have w1:IntKind.i64.wrap ((i:Int) - 1)=(i:Int) - 1:=IntWalk.i64_in _ (by omega);go_wp2
    go_loopw [13] (fun vk wr=>∃ (k:Nat) (Va Vb:List S),vk = .int .i64 k∧k≤N∧Hid (V1=Va ++ Vb)∧Hid (k=a+Va.length)∧Hid (SF B g cap N w0 wr (P ++ (Va ++ x::(Vb ++ (V3 ++ Q)))))) (fun vk _=>i - (intOf vk).toNat)
    case atStart=>exact ⟨a,[],V1,rfl,by omega,rfl,rfl,(by show SF _ _ _ _ _ _ _; have:=HR.out; rw [show V=_ from HV.out] at this; simpa using this)⟩
    case round =>
     clear HR;obtain ⟨k,Va,Vb,rfl,hkN,HVab,HK,HR⟩:=hrel;cases Vb with
     | nil =>
      have d1 : ¬ (k:Int)<(i:Int) - 1:=by
       have h1:=HVab.out; have h2:=HK.out; have h3:=HI.out; have h4:=HM.out;change _=_ at h1; change _=_ at h2; change _=_ at h3; change _=_ at h4
       rw [h1] at h3; simp at h3; omega
      go_wp2
      go_end0
      have e:V1=Va ++ []:=HVab.out;rw [List.append_nil] at e;subst e;have hs:Srt (ltF cf) (V1 ++ V3):=by have:=hV; rw [show V=_ from HV.out] at this; simpa using this
      refine ⟨rfl,V1 ++ x::V3,?_,?_,(by have:=HR.out; simpa using this)⟩
      · refine Srt.app hs.left (List.pairwise_cons.2 ⟨HG.out,hs.right⟩) fun y hy z hz=>?_
        rcases List.mem_cons.1 hz with rfl | hz
        · exact hW.asym _ _ (HL.out y hy)
        · exact hs.across y hy z hz
      · rw [show V=_ from HV.out]
        have:=(SameE.turn hW (u:=[x]) (v:=V1) (fun p hp q hq=>by rw [List.mem_singleton.1 hp]; exact HL.out q hq)).app (SameE.refl V3)
        simpa using this
     | cons y Vc =>
      have hki:k+1<i:=by
       have h1:=HVab.out; have h2:=HK.out; have h3:=HI.out; have h4:=HM.out;change _=_ at h1; change _=_ at h2; change _=_ at h3; change _=_ at h4
       rw [h1] at h3; simp at h3; omega
      have d1:(k:Int)<(i:Int) - 1:=by omega
      have hp1:Hid (k=(P ++ Va).length):=by show _=_; have h1:=HA.out; have h2:=HK.out; change _=_ at h1; change _=_ at h2; simp; omega
      have HR':Hid (SF B g cap N w0 wr ((P ++ Va) ++ x::y::(Vc ++ (V3 ++ Q)))):=by show SF _ _ _ _ _ _ _; have:=HR.out; simpa using this
      have g1:=at_mid (P ++ Va) x (y::(Vc ++ (V3 ++ Q))) hp1.out;have g2:=at_next (P ++ Va) x y (Vc ++ (V3 ++ Q)) hp1.out;have c1:=(HR'.out.cell g1).1;have f1:=(HR'.out.cell g1).2.1;have c2:=(HR'.out.cell g2).1;have f2:=(HR'.out.cell g2).2.1;have c3:(wr.setCell ⟨g,k,none⟩ (.string y)).cell? ⟨g,k+1,none⟩=some (.string y):=by rw [World.cell?_setCell_other _ _ _ _ (by simp only [Addr.mk.injEq,not_and,ne_eq]; omega)]; exact c2
      have HS2:Hid (SF B g cap N w0 ((wr.setCell ⟨g,k,none⟩ (.string y)).setCell ⟨g,k+1,none⟩ (.string x)).drew ((P ++ Va) ++ y::x::(Vc ++ (V3 ++ Q)))):=by
       have:=HR'.out.swap g1 g2 (by omega)
       rw [swap_next' _ _ _ _ hp1.out] at this;exact this
      have lk1:(k:Int)+1<(N:Int):=by omega
      have lk:(k:Int)<(N:Int):=by omega
      have wk:IntKind.i64.wrap ((k:Int)+1)=(k:Int)+1:=IntWalk.i64_in _ (by omega);have tk:((k:Int)+1).toNat=k+1:=by omega
      have pk:(0:Int)≤(k:Int)+1:=by omega
      clear g1 g2 HR HR';go_wp2_with fail
      go_big_region
      clear c1 c2 c3 f1 f2;generalize ((wr.setCell ⟨g,k,none⟩ (.string y)).setCell ⟨g,k+1,none⟩ (.string x)).drew=w3 at *;go_wp2
      go_roundw
      case rel=>exact ⟨k+1,Va ++ [y],Vc,by first | rfl | go_num,by omega,(by show _=_; rw [show V1=_ from HVab.out]; simp),(by show _=_; rw [List.length_append,← Nat.add_assoc,← show k=_ from HK.out]; rfl),(by show SF _ _ _ _ _ _ _; have:=HS2.out; simpa using this)⟩
      case measure=>simp [intOf]; omega
set_option maxRecDepth 100000 in
set_option maxHeartbeats 4000000 in
theorem symRight_any {B g cap N a m b:Nat} {w0:World} {cf:S→S→Int} (hC:CmpOk cf) (hW:Weak (ltF cf)) (P U:List S) (x:S) (Q:List S) (hN:N≤1000000) (ha:a=P.length) (hm:m=a+U.length) (hb:b=m+1) (hu:U.length≠1) (hsx:x.size≤900000) (hsu:AllSmall U) (hU:Srt (ltF cf) U) (w:World) (h:SF B g cap N w0 w (P ++ (U ++ x::Q))) :
    Calls Tryz.prog 141 #[.slice (some ⟨g,0,none⟩) N cap,.int .i64 a,.int .i64 m,.int .i64 b,cmpF] w (Merged cf B g cap N w0 P U [x] Q):=by
 have hlen:=h.len;simp only [List.length_append,List.length_cons] at hlen;have HS:=Lib.hid h;have HC:=Lib.hid hC;have HA:=Lib.hid ha;have HM:=Lib.hid hm;have hmN:m<N:=by omega
 have ham:a≤m:=by omega
 obtain ⟨n,hn⟩ : ∃ n,n=U.length:=⟨_,rfl⟩;have e1:IntKind.i64.wrap ((m:Int) - (a:Int))=(n:Int):=by rw [show (m:Int) - (a:Int)=(n:Int) by omega]; exact IntWalk.i64_in _ (by omega)
 have e2:((n:Int) == 1)=false:=by rw [beq_eq_false_iff_ne]; omega
 have e2':(n == 1)=false:=by rw [beq_eq_false_iff_ne]; omega
 have e3:IntKind.i64.wrap ((b:Int) - (m:Int))=1:=by rw [show (b:Int) - (m:Int)=1 by omega]; exact IntWalk.i64_in _ (by omega)
 clear h hC hlen ha hb hm hn hu;have hen:=enters_cmp;unfold cmpF;go_enter Tryz.func141,Tryz.ntmps141
 go_wp2
 clear e1 e2 e2' e3;go_loopw [14,15] (fun vi vj wr=>∃ (i j:Nat) (U1 U2 U3:List S),vi = .int .i64 i∧vj = .int .i64 j∧a≤i∧i≤j∧j≤m∧Hid (U=U1 ++ (U2 ++ U3))∧Hid (U1.length+a=i)∧Hid (U2.length+i=j)∧Hid (∀ v ∈ U1,ltF cf x v=false)∧Hid (∀ v ∈ U3,ltF cf x v=true)∧Hid (SF B g cap N w0 wr (P ++ (U ++ x::Q)))) (fun vi vj _=>(intOf vj).toNat - (intOf vi).toNat)
 case atStart=>exact ⟨a,m,[],U,[],rfl,rfl,Nat.le_refl _,ham,Nat.le_refl _,(by show _=_; simp),(by show _=_; simp),(by show _=_; rw [HM.out]; omega),(by show ∀ _,_; simp),(by show ∀ _,_; simp),HS⟩
 case round =>
  clear HS;obtain ⟨i,j,U1,U2,U3,rfl,rfl,hmi,hij,hjb,HV,HI,HJ,HL,HG,HR⟩:=hrel;by_cases hlt:i<j
  · obtain ⟨k,hk⟩ : ∃ k:Nat,k=(i+j) / 2:=⟨_,rfl⟩
    have hik:i≤k:=by omega
    have hkj:k<j:=by omega
    have hkz:((i:Int)+(j:Int)) / 2=(k:Int):=by omega
    obtain ⟨A,v,C,rfl,hAl⟩:=cut_at (l:=U2) (k:=k - i) (by have:=HJ.out; change _=_ at this; omega);have HAl:Hid (A.length+i=k):=by show _=_; omega
    have g1:(P ++ (U ++ x::Q))[k]? = some v:=by
     have h1:=HV.out; have h2:=HA.out; have h3:=HI.out; have h4:=HAl.out;change _=_ at h1; change _=_ at h2; change _=_ at h3; change _=_ at h4
     rw [h1,show P ++ ((U1 ++ ((A ++ v::C) ++ U3)) ++ x::Q)=(P ++ (U1 ++ A)) ++ v::(C ++ U3 ++ x::Q) by simp];exact at_mid _ _ _ (by simp; omega)
    have g2:(P ++ (U ++ x::Q))[m]? = some x:=by
     rw [show P ++ (U ++ x::Q)=(P ++ U) ++ x::Q by simp];exact at_mid _ _ _ (by have h1:=HA.out; have h2:=HM.out; change _=_ at h1; change _=_ at h2; simp; omega)
    have sv:v.size≤900000:=hsu v (by rw [show U=_ from HV.out]; simp);have HG1:=Lib.hid g1;have HG2:=Lib.hid g2;have HVS:Hid (Srt (ltF cf) (U1 ++ ((A ++ v::C) ++ U3))):=by have:=hU; rw [show U=_ from HV.out] at this; exact this
    have lk:(k:Int)<(N:Int):=by omega
    have la:(m:Int)<(N:Int):=by omega
    clear hk hAl g1 g2;have c1:=(HR.out.cell HG2.out).1;have c2:=(HR.out.cell HG1.out).1;have gl:=(HR.out.cell HG2.out).2.2;have hLL:=@Later.cells wr;have HCC:Hid (∀ z:Later wr,Calls Tryz.prog 49 #[.string x,.string v] z.at_ fun e w''=>e = .returned (.int .i64 (cf x v)) ∧ ∃ u:Later wr,w''=u.at_):=fun z=>Later.call (HC.out _ _ _ hsx sv);go_wp2_with fail
    refine region_later (by kernel_rfl) (by kernel_rfl) ?_
    repeat (go_big_quiet_step ((first | (go_at_call 49; with_reducible exact HCC.out _))))
    refine wpQuiet_nil ?_
    rintro _ ⟨nx,rfl⟩;have HR2:=Lib.hid (HR.out.later nx.below);clear hLL HCC c1 c2 gl HR;generalize nx.at_=w2 at *;have hq:ltF cf x v=decide (cf x v<0):=rfl;generalize decide (cf x v<0)=q at *;cases q with
    | false =>
     have HQ:=Lib.hid hq;have wk:IntKind.i64.wrap ((k:Int)+1)=(k:Int)+1:=IntWalk.i64_in _ (by omega);clear hq;go_wp2
     go_roundw
     case rel =>
      refine ⟨k+1,j,U1 ++ (A ++ [v]),C,U3,by first | rfl | go_num,rfl,by omega,by omega,hjb,?_,?_,?_,?_,HG,HR2⟩
      · show _=_; rw [show U=_ from HV.out]; simp
      · have h3:=HI.out; have h4:=HAl.out; change _=_ at h3; change _=_ at h4; show _=_; simp; omega
      · have h3:=HJ.out; have h4:=HAl.out; change _=_ at h3; change _=_ at h4; show _=_; simp at h3; omega
      · intro y hy
        rcases List.mem_append.1 hy with hy | hy
        · exact HL.out y hy
        · have hs:Srt (ltF cf) (A ++ v::C):=HVS.out.right.left
          rcases List.mem_append.1 hy with hy | hy
          · exact hW.leT (hs.across y hy v List.mem_cons_self) HQ.out
          · rw [List.mem_singleton.1 hy]; exact HQ.out
     case measure=>simp [intOf]; omega
    | true =>
     have HQ:=Lib.hid hq;clear hq;go_wp2
     go_roundw
     case rel =>
      refine ⟨i,k,U1,A,v::(C ++ U3),rfl,by first | rfl | go_num,hmi,hik,by omega,?_,HI,HAl,HL,?_,HR2⟩
      · show _=_; rw [show U=_ from HV.out]; simp
      · intro y hy
        rcases List.mem_cons.1 hy with rfl | hy
        · exact HQ.out
        · rcases List.mem_append.1 hy with hy | hy
          · have hs:Srt (ltF cf) (v::C):=HVS.out.right.left.right
            exact hW.lt_of HQ.out ((List.pairwise_cons.1 hs).1 y hy)
          · exact HG.out y hy
     case measure=>simp [intOf]; omega
  · obtain rfl:i=j:=by omega
    have hV2:U2=[]:=List.eq_nil_of_length_eq_zero (by have:=HJ.out; change _=_ at this; omega);subst hV2;clear HJ hij hlt;go_wp2
    go_loopw [17] (fun vk wr=>∃ (k:Nat) (Ua Ub:List S),vk = .int .i64 k∧k≤m∧Hid (U3=Ua ++ Ub)∧Hid (k=i+Ua.length)∧Hid (SF B g cap N w0 wr (P ++ (U1 ++ (Ua ++ x::(Ub ++ Q)))))) (fun vk _=>(intOf vk).toNat)
    case atStart =>
     refine ⟨m,U3,[],rfl,Nat.le_refl _,(by show _=_; simp),?_,?_⟩
     · have h1:=HV.out; have h2:=HM.out; have h3:=HI.out
       change _=_ at h1; change _=_ at h2; change _=_ at h3
       show _=_
       rw [h1] at h2; simp at h2; omega
     · show SF _ _ _ _ _ _ _; have:=HR.out; rw [show U=_ from HV.out] at this; simpa using this
    case round =>
     clear HR;obtain ⟨k,Ua,Ub,rfl,hkN,HVab,HK,HR⟩:=hrel;by_cases hki:i<k
     · obtain ⟨Uc,y,rfl⟩:=snoc_of (l:=Ua) (fun e=>by have:=HK.out; change _=_ at this; rw [e] at this; simp at this; omega)
       obtain ⟨jp,hjp⟩ : ∃ jp,k=jp+1:=⟨k - 1,by omega⟩;subst hjp;have w1:IntKind.i64.wrap ((jp:Int)+1 - 1)=(jp:Int):=by rw [show (jp:Int)+1 - 1=(jp:Int) by omega]; exact IntWalk.i64_in _ (by omega)
       have d1:(i:Int)<(jp:Int)+1:=by omega
       have hp1:Hid (jp=(P ++ (U1 ++ Uc)).length):=by show _=_; have h1:=HA.out; have h2:=HK.out; have h3:=HI.out; change _=_ at h1; change _=_ at h2; change _=_ at h3; simp at *; omega
       have HR':Hid (SF B g cap N w0 wr ((P ++ (U1 ++ Uc)) ++ y::x::(Ub ++ Q))):=by show SF _ _ _ _ _ _ _; have:=HR.out; simpa using this
       have g1:=at_mid (P ++ (U1 ++ Uc)) y (x::(Ub ++ Q)) hp1.out;have g2:=at_next (P ++ (U1 ++ Uc)) y x (Ub ++ Q) hp1.out;have c1:=(HR'.out.cell g1).1;have f1:=(HR'.out.cell g1).2.1;have c2:=(HR'.out.cell g2).1;have f2:=(HR'.out.cell g2).2.1;have c3:(wr.setCell ⟨g,jp+1,none⟩ (.string y)).cell? ⟨g,jp,none⟩=some (.string y):=by rw [World.cell?_setCell_other _ _ _ _ (by simp only [Addr.mk.injEq,not_and,ne_eq]; omega)]; exact c1
       have HS2:Hid (SF B g cap N w0 ((wr.setCell ⟨g,jp+1,none⟩ (.string y)).setCell ⟨g,jp,none⟩ (.string x)).drew ((P ++ (U1 ++ Uc)) ++ x::y::(Ub ++ Q))):=by
        have:=HR'.out.swap g2 g1 (by omega)
        rw [swap_next _ _ _ _ hp1.out] at this;exact this
       have l1:(jp:Int)+1<(N:Int):=by omega
       have l2:(jp:Int)<(N:Int):=by omega
       have t1:((jp:Int)+1).toNat=jp+1:=by omega
       have p1:(0:Int)≤(jp:Int)+1:=by omega
       clear g1 g2 HR HR';go_wp2_with fail
       go_big_region
       clear c1 c2 c3 f1 f2;generalize ((wr.setCell ⟨g,jp+1,none⟩ (.string y)).setCell ⟨g,jp,none⟩ (.string x)).drew=w3 at *;go_wp2
       go_roundw
       case rel=>exact ⟨jp,Uc,y::Ub,by first | rfl | go_num,by omega,(by show _=_; rw [show U3=_ from HVab.out]; simp),(by have h2:=HK.out; change _=_ at h2; show _=_; simp at h2; omega),(by show SF _ _ _ _ _ _ _; have:=HS2.out; simpa using this)⟩
       case measure=>simp [intOf]
     · have d1 : ¬ (i:Int)<(k:Int):=by omega
       have hUa:Ua=[]:=List.eq_nil_of_length_eq_zero (by have:=HK.out; change _=_ at this; omega);subst hUa;go_wp2
       go_end0
       have e:U3=[] ++ Ub:=HVab.out;rw [List.nil_append] at e;subst e;have hs:Srt (ltF cf) (U1 ++ U3):=by have:=hU; rw [show U=_ from HV.out] at this; simpa using this
       refine ⟨rfl,U1 ++ x::U3,ins_srt hW hs HL.out HG.out,?_,(by have:=HR.out; simpa using this)⟩
       rw [show U=_ from HV.out];have:=ins_same hW (m1:=U1) HG.out
       simpa using this
def SymOk (cf:S→S→Int) (B g cap N:Nat) (w0:World) (k:Nat):Prop:=∀ (P U V Q:List S) (a m b:Nat) (w:World),U.length+V.length≤k→U≠[]→V≠[]→a=P.length→m=a+U.length→b=m+V.length→AllSmall U→AllSmall V→Srt (ltF cf) U→Srt (ltF cf) V →
 SF B g cap N w0 w (P ++ (U ++ (V ++ Q)))→Calls Tryz.prog 141 #[.slice (some ⟨g,0,none⟩) N cap,.int .i64 a,.int .i64 m,.int .i64 b,cmpF] w (Merged cf B g cap N w0 P U V Q)
set_option maxRecDepth 100000 in
set_option maxHeartbeats 4000000 in
theorem symBoth_any {B g cap N a m b:Nat} {w0:World} {cf:S→S→Int} (hC:CmpOk cf) (hW:Weak (ltF cf)) (P U V Q:List S) (hN:N≤1000000) (ha:a=P.length) (hm:m=a+U.length) (hb:b=m+V.length) (hu:2≤U.length) (hv:2≤V.length) (hsu:AllSmall U) (hsv:AllSmall V) (hU:Srt (ltF cf) U) (hV:Srt (ltF cf) V)
    (hI:SymOk cf B g cap N w0 (U.length+V.length - 1)) (w:World) (h:SF B g cap N w0 w (P ++ (U ++ (V ++ Q)))) :
    Calls Tryz.prog 141 #[.slice (some ⟨g,0,none⟩) N cap,.int .i64 a,.int .i64 m,.int .i64 b,cmpF] w (Merged cf B g cap N w0 P U V Q):=by
 have hlen:=h.len;simp only [List.length_append] at hlen;have HS:=Lib.hid h;have HC:=Lib.hid hC;have HI:=Lib.hid hI;have HA:=Lib.hid ha;have HM:=Lib.hid hm;have HB:=Lib.hid hb;obtain ⟨nu,hnu⟩ : ∃ n,n=U.length:=⟨_,rfl⟩;obtain ⟨nv,hnv⟩ : ∃ n,n=V.length:=⟨_,rfl⟩;have e1:IntKind.i64.wrap ((m:Int) - (a:Int))=(nu:Int):=by rw [show (m:Int) - (a:Int)=(nu:Int) by omega]; exact IntWalk.i64_in _ (by omega)
 have e2:((nu:Int) == 1)=false:=by rw [beq_eq_false_iff_ne]; omega
 have e2':(nu == 1)=false:=by rw [beq_eq_false_iff_ne]; omega
 have e3:IntKind.i64.wrap ((b:Int) - (m:Int))=(nv:Int):=by rw [show (b:Int) - (m:Int)=(nv:Int) by omega]; exact IntWalk.i64_in _ (by omega)
 have e4:((nv:Int) == 1)=false:=by rw [beq_eq_false_iff_ne]; omega
 have e4':(nv == 1)=false:=by rw [beq_eq_false_iff_ne]; omega
 obtain ⟨d,hd⟩ : ∃ d:Nat,d=(a+b) / 2:=⟨_,rfl⟩;have hdz:((a:Int)+(b:Int)) / 2=(d:Int):=by omega
 have hbN:b≤N:=by omega
 have had:a+2≤d:=by omega
 have hdb:d+2≤b:=by omega
 have ham:a+2≤m:=by omega
 have hmb:m+2≤b:=by omega
 have hab2:2*d≤a+b:=by omega
 have hab3:a+b≤2*d+1:=by omega
 obtain ⟨n,hn⟩ : ∃ n:Nat,n=d+m:=⟨_,rfl⟩;have wn:IntKind.i64.wrap ((d:Int)+(m:Int))=(n:Int):=by rw [show (d:Int)+(m:Int)=(n:Int) by omega]; exact IntWalk.i64_in _ (by omega)
 have wnb:IntKind.i64.wrap ((n:Int) - (b:Int))=(n:Int) - (b:Int):=IntWalk.i64_in _ (by omega);have wn1:IntKind.i64.wrap ((n:Int) - 1)=(n:Int) - 1:=IntWalk.i64_in _ (by omega);have hn2:2≤n:=by omega
 obtain ⟨s0,r0,hs0,hcase⟩ : ∃ s0 r0:Nat,(s0≤r0∧r0≤d∧r0≤m∧a≤s0)∧((d<m∧s0+b=n∧r0=d)∨(¬ d<m∧s0=a∧r0=m)):=by
  by_cases c:d<m
  · exact ⟨n - b,d,⟨by omega,by omega,by omega,by omega⟩,.inl ⟨c,by omega,rfl⟩⟩
  · exact ⟨a,m,⟨by omega,by omega,by omega,by omega⟩,.inr ⟨c,rfl,rfl⟩⟩
 obtain ⟨hsr,hrd,hrm,has⟩:=hs0;have HCS:=Lib.hid hcase;have HD:=Lib.hid hd;have HN2:=Lib.hid hn;have hq:(d:Int)<(m:Int)↔d<m:=by omega
 clear h hC hI hlen ha hb hm hu hv hnu hnv hd hn hcase;have hen:=enters_cmp;unfold cmpF;go_enter Tryz.func141,Tryz.ntmps141
 go_upto_if 140 with fail
 clear e1 e2 e2' e3 e4 e4' hdz wn;go_cut [20,21] from 140 to 146 (fun x y wx=>x = .int .i64 s0∧y = .int .i64 r0∧wx=w)
 case first =>
  rcases HCS.out with ⟨c1,c2,c3⟩ | ⟨c1,c2,c3⟩
  · have d1:(d:Int)<(m:Int):=by omega
    have d2:(n:Int) - (b:Int)=(s0:Int):=by omega
    have HX:=Lib.hid c3;clear c2 c3;go_wp2
    go_meet
    case rel=>exact ⟨rfl,by rw [show r0=d from HX.out],rfl⟩
  · have d1 : ¬ (d:Int)<(m:Int):=by omega
    have HX:=Lib.hid c2;have HY:=Lib.hid c3;clear c2 c3;go_wp2
    go_meet
    case rel=>exact ⟨by rw [show s0=a from HX.out],by rw [show r0=m from HY.out],rfl⟩
 case rest =>
  obtain ⟨rfl,rfl,rfl⟩:=hcut;go_wp2
  clear wn1;go_loopw [20,21] (fun vi vj wr=>∃ (i j:Nat),vi = .int .i64 i∧vj = .int .i64 j∧s0≤i∧i≤j∧j≤r0∧Hid (i=s0 ∨ ∃ x y,a<i∧U[i - 1 - a]? = some x∧V[d - i]? = some y∧ltF cf y x=false)∧Hid (j=r0 ∨ ∃ x y,U[j - a]? = some x∧V[d - 1 - j]? = some y∧ltF cf y x=true)∧Hid (SF B g cap N w0 wr (P ++ (U ++ (V ++ Q))))) (fun vi vj _=>(intOf vj).toNat - (intOf vi).toNat)
  case atStart=>exact ⟨s0,r0,rfl,rfl,Nat.le_refl _,hsr,Nat.le_refl _,.inl rfl,.inl rfl,HS⟩
  case round =>
   clear HS;obtain ⟨i,j,rfl,rfl,hsi,hij,hjr,HL,HG,HR⟩:=hrel;have hid:i≤d:=by omega
   by_cases hlt:i<j
   · obtain ⟨k,hk⟩ : ∃ k:Nat,k=(i+j) / 2:=⟨_,rfl⟩
     have hik:i≤k:=by omega
     have hkj:k<j:=by omega
     have hkz:((i:Int)+(j:Int)) / 2=(k:Int):=by omega
     have hdn:d+m=n:=HN2.out.symm;obtain ⟨p,hp⟩ : ∃ p:Nat,p+k+1=n:=⟨n - 1 - k,by omega⟩;have wp:IntKind.i64.wrap ((n:Int) - 1 - (k:Int))=(p:Int):=by rw [show (n:Int) - 1 - (k:Int)=(p:Int) by omega]; exact IntWalk.i64_in _ (by omega)
     have hku:k - a<U.length:=by have h2:=HM.out; change _=_ at h2; omega
     have hpv:d - 1 - k<V.length:=by have h1:=HB.out; have h2:=HM.out; have h3:=HCS.out; change _=_ at h1; change _=_ at h2; omega
     obtain ⟨u,hu⟩ : ∃ u,U[k - a]? = some u:=⟨_,List.getElem?_eq_getElem hku⟩;obtain ⟨v,hv⟩ : ∃ v,V[d - 1 - k]? = some v:=⟨_,List.getElem?_eq_getElem hpv⟩
     have HG1:Hid ((P ++ (U ++ (V ++ Q)))[k]? = some u):=by
      show _=_
      have h1:=HA.out; change _=_ at h1;rw [List.getElem?_append_right (by omega),List.getElem?_append_left (by omega),← h1]; exact hu
     have HG2:Hid ((P ++ (U ++ (V ++ Q)))[p]? = some v):=by
      show _=_
      have h1:=HA.out; have h2:=HM.out; change _=_ at h1; change _=_ at h2;rw [List.getElem?_append_right (by omega),List.getElem?_append_right (by omega),List.getElem?_append_left (by omega),show p - P.length - U.length=d - 1 - k by omega]; exact hv
     have su:u.size≤900000:=hsu u (List.mem_of_getElem? hu);have sv:v.size≤900000:=hsv v (List.mem_of_getElem? hv);have HU:=Lib.hid hu;have HV:=Lib.hid hv;have lk:(k:Int)<(N:Int):=by omega
     have lp:(p:Int)<(N:Int):=by have h1:=HB.out; have h2:=HM.out; change _=_ at h1; change _=_ at h2; omega
     clear hk hp hdn hku hpv hu hv;have c1:=(HR.out.cell HG2.out).1;have c2:=(HR.out.cell HG1.out).1;have gl:=(HR.out.cell HG2.out).2.2;have hLL:=@Later.cells wr;have HCC:Hid (∀ z:Later wr,Calls Tryz.prog 49 #[.string v,.string u] z.at_ fun e w''=>e = .returned (.int .i64 (cf v u)) ∧ ∃ u:Later wr,w''=u.at_):=fun z=>Later.call (HC.out _ _ _ sv su);go_wp2_with fail
     refine region_later (by kernel_rfl) (by kernel_rfl) ?_
     repeat (go_big_quiet_step ((first | (go_at_call 49; with_reducible exact HCC.out _))))
     refine wpQuiet_nil ?_
     rintro _ ⟨nx,rfl⟩;have HR2:=Lib.hid (HR.out.later nx.below);clear hLL HCC c1 c2 gl HR;generalize nx.at_=w2 at *;have hq:ltF cf v u=decide (cf v u<0):=rfl;generalize decide (cf v u<0)=q at *;cases q with
     | false =>
      have HQ:=Lib.hid hq;have wk:IntKind.i64.wrap ((k:Int)+1)=(k:Int)+1:=IntWalk.i64_in _ (by omega);clear hq;go_wp2
      go_roundw
      case rel=>exact ⟨k+1,j,by first | rfl | go_num,rfl,by omega,by omega,hjr,(.inr ⟨u,v,by omega,by rw [Nat.add_sub_cancel]; exact HU.out,by rw [show d - (k+1)=d - 1 - k by omega]; exact HV.out,HQ.out⟩),HG,HR2⟩
      case measure=>simp [intOf]; omega
     | true =>
      have HQ:=Lib.hid hq;clear hq;go_wp2
      go_roundw
      case rel=>exact ⟨i,k,rfl,by first | rfl | go_num,hsi,hik,by omega,HL,(.inr ⟨u,v,HU.out,HV.out,HQ.out⟩),HR2⟩
      case measure=>simp [intOf]; omega
   · obtain rfl:i=j:=by omega
     have hnd:n=d+m:=HN2.out;obtain ⟨en,hen2⟩ : ∃ en:Nat,en+i=n:=⟨n - i,by omega⟩;have wen:IntKind.i64.wrap ((n:Int) - (i:Int))=(en:Int):=by rw [show (n:Int) - (i:Int)=(en:Int) by omega]; exact IntWalk.i64_in _ (by omega)
     have hmU:m=a+U.length:=HM.out;have hbV:b=m+V.length:=HB.out;have hiu:i - a≤U.length:=by omega
     have hjv:d - i≤V.length:=by have:=HCS.out; omega
     obtain ⟨hh1,hh2⟩:=halves hW hU hV hiu hjv (fun x y hx hj hy=>by
         rcases HG.out with e | ⟨x',y',a1,a2,a3⟩
         · exfalso
           rcases HCS.out with ⟨c1,c2,c3⟩ | ⟨c1,c2,c3⟩
           · omega
           · have:=(List.getElem?_eq_some_iff.1 hx).1; omega
         · rw [hx] at a1; cases a1
           rw [show d - i - 1=d - 1 - i by omega] at hy;rw [hy] at a2; cases a2;exact a3) (fun x y hi hx hy=>by
         rcases HL.out with e | ⟨x',y',a0,a1,a2,a3⟩
         · exfalso
           rcases HCS.out with ⟨c1,c2,c3⟩ | ⟨c1,c2,c3⟩
           · have:=(List.getElem?_eq_some_iff.1 hy).1; omega
           · omega
         · rw [show i - 1 - a=i - a - 1 by omega,hx] at a1; cases a1
           rw [hy] at a2; cases a2
           exact a3)
     obtain ⟨U1,hU1⟩ : ∃ l,l=U.take (i - a):=⟨_,rfl⟩;obtain ⟨U2,hU2⟩ : ∃ l,l=U.drop (i - a):=⟨_,rfl⟩;obtain ⟨V1,hV1⟩ : ∃ l,l=V.take (d - i):=⟨_,rfl⟩;obtain ⟨V2,hV2⟩ : ∃ l,l=V.drop (d - i):=⟨_,rfl⟩;have eU:U=U1 ++ U2:=by rw [hU1,hU2,List.take_append_drop]
     have eV:V=V1 ++ V2:=by rw [hV1,hV2,List.take_append_drop]
     have lU1:U1.length=i - a:=by rw [hU1,List.length_take]; omega
     have lU2:U2.length=m - i:=by rw [hU2,List.length_drop]; omega
     have lV1:V1.length=d - i:=by rw [hV1,List.length_take]; omega
     have lV2:V2.length=b - en:=by rw [hV2,List.length_drop]; omega
     rw [← hU2,← hV1] at hh1;rw [← hU1,← hV2] at hh2;clear hU1 hU2 hV1 hV2 HL HG hlt hij;have HH1:=Lib.hid hh1;have HH2:=Lib.hid hh2;subst eU eV;have LU1:=Lib.hid lU1;have LU2:=Lib.hid lU2;have LV1:=Lib.hid lV1;have LV2:=Lib.hid lV2
     have eim:((i:Int)<(m:Int))=(U2≠[]):=by
      rw [eq_iff_iff];constructor
      · intro h e; rw [e] at lU2; simp at lU2; omega
      · intro h; have:=List.length_pos_iff.2 h; omega
     have hmn:m≤en:=by omega
     have hde:d≤en:=by omega
     have heb:en≤b:=by omega
     have hai:a≤i:=by omega
     have HEN:=Lib.hid hen2;clear eim hh1 hh2 lU1 lU2 lV1 lV2 hmU hbV hnd hen2 hiu hjv;obtain ⟨q1,hq1⟩ : ∃ q1:Bool,(q1=true↔i<m∧m<en):=⟨decide (i<m∧m<en),by simp⟩;go_upto_region 39 with fail
     go_cut [185] from 178 to 184 (fun x wx=>x = .bool q1∧wr=wx)
     case first =>
      by_cases b1:i<m
      · have d1:decide ((i:Int)<(m:Int))=true:=decide_eq_true (by omega)
        have d1n:decide (i<m)=true:=decide_eq_true b1;have d1p:(i:Int)<(m:Int):=by omega
        by_cases b2:m<en
        · have d2:decide ((m:Int)<(en:Int))=true:=decide_eq_true (by omega)
          have d2n:decide (m<en)=true:=decide_eq_true b2;have d2p:(m:Int)<(en:Int):=by omega
          obtain rfl:q1=true:=hq1.2 ⟨b1,b2⟩;go_wp2
          go_meet
          case rel=>exact ⟨rfl,rfl⟩
        · have d2:decide ((m:Int)<(en:Int))=false:=decide_eq_false (by omega)
          have d2n:decide (m<en)=false:=decide_eq_false b2;have d2p : ¬ (m:Int)<(en:Int):=by omega
          obtain rfl:q1=false:=by cases q1 with | false=>rfl | true=>exact absurd (hq1.1 rfl).2 b2
          go_wp2
          go_meet
          case rel=>exact ⟨rfl,rfl⟩
      · have d1:decide ((i:Int)<(m:Int))=false:=decide_eq_false (by omega)
        have d1n:decide (i<m)=false:=decide_eq_false b1;have d1p : ¬ (i:Int)<(m:Int):=by omega
        obtain rfl:q1=false:=by cases q1 with | false=>rfl | true=>exact absurd (hq1.1 rfl).1 b1
        go_wp2
        go_meet
        case rel=>exact ⟨rfl,rfl⟩
     case rest =>
     obtain ⟨rfl,rfl⟩:=hcut;have HR0:Hid (SF B g cap N w0 wr (P ++ (U1 ++ (U2 ++ (V1 ++ (V2 ++ Q)))))):=by show SF _ _ _ _ _ _ _; have:=HR.out; simpa using this
     clear HR;go_upto_if 185 with fail
     go_cut [] from 186 to 191 (fun wx=>Hid (SF B g cap N w0 wx (P ++ (U1 ++ (V1 ++ (U2 ++ (V2 ++ Q)))))))
     case first =>
      cases q1 with
      | true =>
       have h12:=hq1.1 rfl;have hn1:U2≠[]:=fun e=>by have:=LU2.out; change _=_ at this; rw [e] at this; simp at this; omega
       have hn2:V1≠[]:=fun e=>by have:=LV1.out; have h3:=HEN.out; have h4:=HN2.out; change _=_ at this; change _=_ at h3; change _=_ at h4; rw [e] at this; simp at this; omega
       have hc:=rotate_any (.func (.func 49) #[] #[]) (P ++ U1) U2 V1 (V2 ++ Q) (a:=i) (m:=m) (b:=en) hN (by have h1:=HA.out; have h2:=LU1.out; change _=_ at h1; change _=_ at h2; rw [List.length_append]; omega) (by have h2:=LU2.out; change _=_ at h2; omega) (by have h2:=LV1.out; have h3:=HEN.out; have h4:=HN2.out; change _=_ at h2; change _=_ at h3; change _=_ at h4; omega) hn1 hn2 wr (by have:=HR0.out; simpa using this);clear hn1 hn2 hq1;go_wp2_with fail
       refine hc.mono ?_
       rintro e w9 ⟨rfl,hs⟩;have HS9:Hid (SF B g cap N w0 w9 (P ++ (U1 ++ (V1 ++ (U2 ++ (V2 ++ Q)))))):=by show SF _ _ _ _ _ _ _; simpa using hs
       clear hs hc;go_wp2
       go_meet
       case rel=>exact HS9
      | false =>
       have h12:U2=[]∨V1=[]:=by
        by_cases c:i<m
        · right
          refine List.eq_nil_of_length_eq_zero ?_
          have h1 : ¬ m<en:=fun h=>by have:=hq1.2 ⟨c,h⟩; cases this
          have h2:=LV1.out; have h3:=HEN.out; have h4:=HN2.out; change _=_ at h2; change _=_ at h3; change _=_ at h4; omega
        · left
          refine List.eq_nil_of_length_eq_zero ?_
          have h2:=LU2.out; change _=_ at h2; omega
       have HS9:Hid (SF B g cap N w0 wr (P ++ (U1 ++ (V1 ++ (U2 ++ (V2 ++ Q)))))):=by
        show SF _ _ _ _ _ _ _
        have:=HR0.out
        rcases h12 with e | e
        · rw [e] at this ⊢; simpa using this
        · rw [e] at this ⊢; simpa using this
       clear h12 hq1;go_wp2
       go_meet
       case rel=>exact HS9
     case rest =>
     have HS1:=hcut;clear hcut HR0 hq1;obtain ⟨w1,hw1⟩ : ∃ W,W=wc:=⟨_,rfl⟩;rw [← hw1] at HS1;subst hw1;obtain ⟨q2,hq2⟩ : ∃ q2:Bool,(q2=true↔a<i∧i<d):=⟨decide (a<i∧i<d),by simp⟩;go_upto_region 41 with fail
     go_cut [199] from 192 to 198 (fun x wx=>x = .bool q2∧w1=wx)
     case first =>
      by_cases b1:a<i
      · have d1:decide ((a:Int)<(i:Int))=true:=decide_eq_true (by omega)
        have d1n:decide (a<i)=true:=decide_eq_true b1;have d1p:(a:Int)<(i:Int):=by omega
        by_cases b2:i<d
        · have d2:decide ((i:Int)<(d:Int))=true:=decide_eq_true (by omega)
          have d2n:decide (i<d)=true:=decide_eq_true b2;have d2p:(i:Int)<(d:Int):=by omega
          obtain rfl:q2=true:=hq2.2 ⟨b1,b2⟩;go_wp2
          go_meet
          case rel=>exact ⟨rfl,rfl⟩
        · have d2:decide ((i:Int)<(d:Int))=false:=decide_eq_false (by omega)
          have d2n:decide (i<d)=false:=decide_eq_false b2;have d2p : ¬ (i:Int)<(d:Int):=by omega
          obtain rfl:q2=false:=by cases q2 with | false=>rfl | true=>exact absurd (hq2.1 rfl).2 b2
          go_wp2
          go_meet
          case rel=>exact ⟨rfl,rfl⟩
      · have d1:decide ((a:Int)<(i:Int))=false:=decide_eq_false (by omega)
        have d1n:decide (a<i)=false:=decide_eq_false b1;have d1p : ¬ (a:Int)<(i:Int):=by omega
        obtain rfl:q2=false:=by cases q2 with | false=>rfl | true=>exact absurd (hq2.1 rfl).1 b1
        go_wp2
        go_meet
        case rel=>exact ⟨rfl,rfl⟩
     case rest =>
     obtain ⟨rfl,rfl⟩:=hcut;go_upto_if 199 with fail
     go_cut [] from 200 to 205 (fun wx=>Hid (∃ M1,Srt (ltF cf) M1∧SameE (ltF cf) (U1 ++ V1) M1∧SF B g cap N w0 wx (P ++ (M1 ++ (U2 ++ (V2 ++ Q))))))
     case first =>
      cases q2 with
      | true =>
       have h12:=hq2.1 rfl;have hn1:U1≠[]:=fun e=>by have:=LU1.out; change _=_ at this; rw [e] at this; simp at this; omega
       have hn2:V1≠[]:=fun e=>by have:=LV1.out; change _=_ at this; rw [e] at this; simp at this; omega
       have hc:=HI.out P U1 V1 (U2 ++ (V2 ++ Q)) a i d w1 (by
        have h1:=LU1.out; have h2:=LU2.out; have h3:=LV1.out; have h4:=HM.out; have h5:=HB.out;change _=_ at h1; change _=_ at h2; change _=_ at h3; change _=_ at h4; change _=_ at h5
        rw [List.length_append] at h4 h5 ⊢; rw [List.length_append]; omega) hn1 hn2 HA.out (by have h1:=LU1.out; change _=_ at h1; omega) (by have h1:=LV1.out; change _=_ at h1; omega) (fun x hx=>hsu x (List.mem_append_left _ hx)) (fun x hx=>hsv x (List.mem_append_left _ hx)) hU.left hV.left HS1.out
       clear hn1 hn2 hq2;go_wp2_with fail
       refine hc.mono ?_
       rintro e w9 ⟨rfl,hs⟩;have HS9:Hid (∃ M1,Srt (ltF cf) M1∧SameE (ltF cf) (U1 ++ V1) M1∧SF B g cap N w0 w9 (P ++ (M1 ++ (U2 ++ (V2 ++ Q))))):=hs;clear hs hc;go_wp2
       go_meet
       case rel=>exact HS9
      | false =>
       have h12:U1=[]∨V1=[]:=by
        by_cases c:a<i
        · right
          refine List.eq_nil_of_length_eq_zero ?_
          have h1 : ¬ i<d:=fun h=>by have:=hq2.2 ⟨c,h⟩; cases this
          have h2:=LV1.out; change _=_ at h2; omega
        · left
          refine List.eq_nil_of_length_eq_zero ?_
          have h2:=LU1.out; change _=_ at h2; omega
       have HS9:Hid (∃ M1,Srt (ltF cf) M1∧SameE (ltF cf) (U1 ++ V1) M1∧SF B g cap N w0 w1 (P ++ (M1 ++ (U2 ++ (V2 ++ Q))))):=by
        refine ⟨U1 ++ V1,?_,SameE.refl _,by have:=HS1.out; simpa using this⟩
        rcases h12 with e | e
        · rw [e]; simpa using hV.left
        · rw [e]; simpa using hU.left
       clear h12 hq2;go_wp2
       go_meet
       case rel=>exact HS9
     case rest =>
     obtain ⟨M1,hs1,he1,hr1⟩:=hcut.out
     have LM1:Hid (M1.length=d - a):=by
      have h0:=(he1.perm hW).length_eq;have h1:=LU1.out; have h3:=LV1.out;change _=_ at h1; change _=_ at h3
      show _=_
      rw [← h0,List.length_append]; omega
     have HS2:=Lib.hid hr1;have HM1:=Lib.hid hs1;have HE1:=Lib.hid he1;clear hcut HS1 hq2 hs1 he1 hr1;obtain ⟨w2,hw2⟩ : ∃ W,W=wc:=⟨_,rfl⟩;rw [← hw2] at HS2;subst hw2;obtain ⟨q3,hq3⟩ : ∃ q3:Bool,(q3=true↔d<en∧en<b):=⟨decide (d<en∧en<b),by simp⟩;go_upto_region 43 with fail
     go_cut [213] from 206 to 212 (fun x wx=>x = .bool q3∧w2=wx)
     case first =>
      by_cases b1:d<en
      · have d1:decide ((d:Int)<(en:Int))=true:=decide_eq_true (by omega)
        have d1n:decide (d<en)=true:=decide_eq_true b1;have d1p:(d:Int)<(en:Int):=by omega
        by_cases b2:en<b
        · have d2:decide ((en:Int)<(b:Int))=true:=decide_eq_true (by omega)
          have d2n:decide (en<b)=true:=decide_eq_true b2;have d2p:(en:Int)<(b:Int):=by omega
          obtain rfl:q3=true:=hq3.2 ⟨b1,b2⟩;go_wp2
          go_meet
          case rel=>exact ⟨rfl,rfl⟩
        · have d2:decide ((en:Int)<(b:Int))=false:=decide_eq_false (by omega)
          have d2n:decide (en<b)=false:=decide_eq_false b2;have d2p : ¬ (en:Int)<(b:Int):=by omega
          obtain rfl:q3=false:=by cases q3 with | false=>rfl | true=>exact absurd (hq3.1 rfl).2 b2
          go_wp2
          go_meet
          case rel=>exact ⟨rfl,rfl⟩
      · have d1:decide ((d:Int)<(en:Int))=false:=decide_eq_false (by omega)
        have d1n:decide (d<en)=false:=decide_eq_false b1;have d1p : ¬ (d:Int)<(en:Int):=by omega
        obtain rfl:q3=false:=by cases q3 with | false=>rfl | true=>exact absurd (hq3.1 rfl).1 b1
        go_wp2
        go_meet
        case rel=>exact ⟨rfl,rfl⟩
     case rest =>
     obtain ⟨rfl,rfl⟩:=hcut
     have hjoin : ∀ (M2:List S) (W:World),Srt (ltF cf) M2→SameE (ltF cf) (U2 ++ V2) M2→SF B g cap N w0 W (P ++ (M1 ++ (M2 ++ Q)))→Merged cf B g cap N w0 P (U1 ++ U2) (V1 ++ V2) Q (.returned (.tuple #[])) W:=fun M2 W s2 e2 hR=>by
      obtain ⟨j1,j2⟩:=halves_join hW hU hV HH1.out HH2.out HM1.out s2 HE1.out e2;exact ⟨rfl,M1 ++ M2,j1,j2,by simpa using hR⟩
     have HJ:=Lib.hid hjoin;clear hjoin;cases q3 with
     | true =>
      have h12:=hq3.1 rfl;have hn1:U2≠[]:=fun e=>by have:=LU2.out; have h3:=HEN.out; have h4:=HN2.out; change _=_ at this; change _=_ at h3; change _=_ at h4; rw [e] at this; simp at this; omega
      have hn2:V2≠[]:=fun e=>by have:=LV2.out; change _=_ at this; rw [e] at this; simp at this; omega
      have hc:=HI.out (P ++ M1) U2 V2 Q d en b w2 (by
          have h1:=LU1.out; have h2:=LV2.out; have h3:=LV1.out; have h4:=HM.out; have h5:=HB.out;change _=_ at h1; change _=_ at h2; change _=_ at h3; change _=_ at h4; change _=_ at h5
          rw [List.length_append] at h4 h5 ⊢; rw [List.length_append]; omega) hn1 hn2 (by have h1:=LM1.out; have h2:=HA.out; change _=_ at h1; change _=_ at h2; rw [List.length_append]; omega) (by have h1:=LU2.out; have h3:=HEN.out; have h4:=HN2.out; change _=_ at h1; change _=_ at h3; change _=_ at h4; omega) (by have h1:=LV2.out; change _=_ at h1; omega) (fun x hx=>hsu x (List.mem_append_right _ hx)) (fun x hx=>hsv x (List.mem_append_right _ hx)) hU.right hV.right (by have:=HS2.out; simpa using this)
      clear hn1 hn2 hq3;go_wp2_with fail
      refine hc.mono ?_
      rintro e w9 ⟨rfl,M2,s2,e2,r2⟩;have HZ:=Lib.hid (HJ.out M2 w9 s2 e2 (by simpa using r2));clear hc s2 e2 r2;go_wp2
      go_end0
      exact HZ.out
     | false =>
      have h12:U2=[]∨V2=[]:=by
       by_cases c:d<en
       · right
         refine List.eq_nil_of_length_eq_zero ?_
         have h1 : ¬ en<b:=fun h=>by have:=hq3.2 ⟨c,h⟩; cases this
         have h2:=LV2.out; change _=_ at h2; omega
       · left
         refine List.eq_nil_of_length_eq_zero ?_
         have h2:=LU2.out; have h3:=HEN.out; have h4:=HN2.out; change _=_ at h2; change _=_ at h3; change _=_ at h4; omega
      have HZ:=Lib.hid (HJ.out (U2 ++ V2) w2 (by
       rcases h12 with e | e
       · rw [e]; simpa using hV.right
       · rw [e]; simpa using hU.right) (SameE.refl _) (by have:=HS2.out; simpa using this))
      clear h12 hq3;go_wp2
      go_end0
      exact HZ.out
theorem sym_any {B g cap N:Nat} {w0:World} {cf:S→S→Int} (hC:CmpOk cf) (hW:Weak (ltF cf)) (hN:N≤1000000) : ∀ k,SymOk cf B g cap N w0 k
 | 0=>fun P U V Q a m b w hk hu _=>absurd (List.eq_nil_of_length_eq_zero (by omega)) hu
 | k+1=>fun P U V Q a m b w hk hu hv ha hm hb hsu hsv hU hV h=>by
  by_cases h1:U.length=1
  · obtain ⟨x,rfl⟩:=List.length_eq_one_iff.1 h1
    exact symLeft_any hC hW P x V Q hN ha hm hb (hsu x List.mem_cons_self) hsv hV w (by simpa using h)
  · by_cases h2:V.length=1
    · obtain ⟨x,rfl⟩:=List.length_eq_one_iff.1 h2
      exact symRight_any hC hW P U x Q hN ha hm hb h1 (hsv x List.mem_cons_self) hsu hU w (by simpa using h)
    · have a1:=List.length_pos_iff.2 hu
      have a2:=List.length_pos_iff.2 hv;refine symBoth_any hC hW P U V Q hN ha hm hb (by omega) (by omega) hsu hsv hU hV (fun P' U' V' Q' a' m' b' w' hk'=>sym_any hC hW hN k P' U' V' Q' a' m' b' w' (by omega)) w h
theorem SameE.small {cf:S→S→Int} (hW:Weak (ltF cf)) {l m:List S} (h:SameE (ltF cf) l m) (hs:AllSmall l):AllSmall m:=fun x hx=>hs x (h.symm.mem hW hx)
theorem AllSmall.left {a b:List S} (h:AllSmall (a ++ b)):AllSmall a:=fun x hx=>h x (List.mem_append_left _ hx)
theorem AllSmall.right {a b:List S} (h:AllSmall (a ++ b)):AllSmall b:=fun x hx=>h x (List.mem_append_right _ hx)
set_option maxRecDepth 100000 in
set_option maxHeartbeats 4000000 in
theorem stable_any {B g cap N:Nat} {w0:World} {cf:S→S→Int} (hC:CmpOk cf) (hW:Weak (ltF cf)) (l0:List S) (hN:N≤1000000) (hs0:AllSmall l0) (w:World) (h:SF B g cap N w0 w l0) :
    Calls Tryz.prog 123 #[.slice (some ⟨g,0,none⟩) N cap,.int .i64 N,cmpF] w fun e w'=>e = .returned (.tuple #[]) ∧ ∃ M,Srt (ltF cf) M∧SameE (ltF cf) l0 M∧SF B g cap N w0 w' M:=by
 have HS:=Lib.hid h;have HS0:=Lib.hid hs0;have HC:=Lib.hid hC;have HY:Hid (∀ k,SymOk cf B g cap N w0 k):=sym_any hC hW hN;clear h hs0 hC;go_enter Tryz.func123,Tryz.ntmps123
 unfold cmpF;go_wp2
 go_loopw [7,8] (fun va vb wr=>∃ (a:Nat) (P R:List S),va = .int .i64 a∧vb = .int .i64 ((a:Int)+20)∧a≤N∧Hid (a=P.length)∧Hid (Full (ltF cf) 20 P)∧Hid (SameE (ltF cf) l0 (P ++ R))∧Hid (SF B g cap N w0 wr (P ++ R))) (fun va _ _=>N - (intOf va).toNat)
 case atStart=>exact ⟨0,[],l0,rfl,rfl,Nat.zero_le _,rfl,.nil,SameE.refl _,HS⟩
 case round =>
  clear HS;obtain ⟨a,P,R,rfl,rfl,haN,HA,HF,HE,HR⟩:=hrel
  have HL:Hid (a+R.length=N):=by
   have h1:=HR.out.len; have h2:=HA.out; change _=_ at h2;rw [List.length_append] at h1; show _=_; omega
  by_cases hb:a+20≤N
  · have d1:(a:Int)+20≤(N:Int):=by omega
    obtain ⟨X,R',rfl,hX⟩:=cut_len (l:=R) (k:=20) (by have:=HL.out; change _=_ at this; omega);have hc:=insert_any (a:=a) (b:=a+20) HC.out hW P X R' hN HA.out (by omega) (HE.out.small hW HS0.out).right.left wr HR.out;rw [show ((a+20:Nat):Int)=(a:Int)+20 by omega] at hc;have HX:=Lib.hid hX;have wa:IntKind.i64.wrap ((a:Int)+20+20)=(a:Int)+20+20:=IntWalk.i64_in _ (by omega);clear hX;unfold cmpF at hc;go_wp2_with fail
    refine hc.mono ?_
    rintro e w1 ⟨rfl,M,hm1,hm2,hm3⟩;have HM1:=Lib.hid hm1;have HM2:=Lib.hid hm2;have HM3:=Lib.hid hm3;clear hm1 hm2 hm3 hc HR;go_wp2
    go_roundw
    case rel =>
     have hml:M.length=20:=(HM2.out.perm hW).length_eq.symm.trans HX.out;refine ⟨a+20,P ++ M,R',by first | rfl | go_num,by first | rfl | go_num,hb,?_,.snoc _ _ HF.out hml HM1.out,?_,?_⟩
     · show _=_; rw [List.length_append,hml,← show a=_ from HA.out]
     · refine SameE.trans HE.out ?_
       rw [List.append_assoc];exact (SameE.refl P).app (HM2.out.app (SameE.refl R'))
     · show SF _ _ _ _ _ _ _; have:=HM3.out; simpa using this
    case measure=>simp [intOf]; omega
  · have d1 : ¬ (a:Int)+20≤(N:Int):=by omega
    have hc:=insert_any (a:=a) (b:=N) HC.out hW P R [] hN HA.out HL.out.symm (HE.out.small hW HS0.out).right wr (by have:=HR.out; simpa using this);unfold cmpF at hc;have HBL:Hid (N<a+20):=by show _<_; omega
    clear hb;go_wp2_with fail
    refine hc.mono ?_
    rintro e w1 ⟨rfl,M,hm1,hm2,hm3⟩;have HM3:Hid (SF B g cap N w0 w1 (P ++ M)):=by show SF _ _ _ _ _ _ _; simpa using hm3
    have HCH:Hid (Chunks (ltF cf) 20 (P ++ M)):=HF.out.chunks (.last _ (by
     have h0:=(hm2.perm hW).length_eq;have h1:=HL.out; have h2:=HBL.out;change _=_ at h1; change _<_ at h2
     omega) hm1)
    have HE2:Hid (SameE (ltF cf) l0 (P ++ M)):=SameE.trans HE.out ((SameE.refl P).app hm2);clear hm1 hm2 hm3 hc HR HE HF HA HL HBL haN;generalize P ++ M=l1 at *;clear d1;go_wp2
    go_loopw [6] (fun vs wr=>∃ (s:Nat) (l:List S),vs = .int .i64 s∧20≤s∧s≤2000000∧Hid (Chunks (ltF cf) s l)∧Hid (SameE (ltF cf) l0 l)∧Hid (SF B g cap N w0 wr l)) (fun vs _=>N - (intOf vs).toNat)
    case atStart=>exact ⟨20,l1,rfl,Nat.le_refl _,by omega,HCH,HE2,HM3⟩
    case round =>
     clear HCH HE2 HM3;obtain ⟨s,l,rfl,hs,hsM,HCH,HE,HR⟩:=hrel;by_cases hsN:s<N
     · have d1:(s:Int)<(N:Int):=by omega
       have ws:IntKind.i64.wrap (2*(s:Int))=2*(s:Int):=IntWalk.i64_in _ (by omega);have ws2:IntKind.i64.wrap ((s:Int)*2)=(s:Int)*2:=IntWalk.i64_in _ (by omega);go_wp2
       go_loopw [7,8] (fun va vb wr=>∃ (a:Nat) (P R:List S),va = .int .i64 a∧vb = .int .i64 ((a:Int)+2*(s:Int))∧a≤N∧Hid (a=P.length)∧Hid (Full (ltF cf) (2*s) P)∧Hid (Chunks (ltF cf) s R)∧Hid (SameE (ltF cf) l0 (P ++ R))∧Hid (SF B g cap N w0 wr (P ++ R))) (fun va _ _=>N - (intOf va).toNat)
       case atStart=>exact ⟨0,[],l,rfl,by simp,Nat.zero_le _,rfl,.nil,HCH,HE,HR⟩
       case round =>
        clear HCH HE HR;obtain ⟨a,P,R,rfl,rfl,haN,HA,HF,HCH,HE,HR⟩:=hrel
        have HL:Hid (a+R.length=N):=by
         have h1:=HR.out.len; have h2:=HA.out; change _=_ at h2;rw [List.length_append] at h1; show _=_; omega
        have was:IntKind.i64.wrap ((a:Int)+(s:Int))=(a:Int)+(s:Int):=IntWalk.i64_in _ (by omega);have wab:IntKind.i64.wrap ((a:Int)+2*(s:Int)+2*(s:Int))=(a:Int)+2*(s:Int)+2*(s:Int):=IntWalk.i64_in _ (by omega);by_cases hb:a+2*s≤N
        · have d2:(a:Int)+2*(s:Int)≤(N:Int):=by omega
          obtain ⟨X,R1,rfl,hX,hXs,hc1⟩:=HCH.out.first (by have:=HL.out; change _=_ at this; omega);obtain ⟨Y,R',rfl,hY,hYs,hc2⟩:=hc1.first (by have:=HL.out; change _=_ at this; rw [List.length_append] at this; omega);have hsm:=HE.out.small hW HS0.out;have hc:=HY.out (s+s) P X Y R' a (a+s) (a+2*s) wr (by omega) (fun e=>by rw [e] at hX; simp at hX; omega) (fun e=>by rw [e] at hY; simp at hY; omega) HA.out (by omega) (by omega) hsm.right.left hsm.right.right.left hXs hYs HR.out;rw [show ((a+s:Nat):Int)=(a:Int)+(s:Int) by omega,show ((a+2*s:Nat):Int)=(a:Int)+2*(s:Int) by omega] at hc;have HC2:=Lib.hid hc2;have HXY:Hid (X.length+Y.length=2*s):=by show _=_; omega
          clear hX hXs hc1 hY hYs hc2 hsm HCH;unfold cmpF at hc;go_wp2_with fail
          refine hc.mono ?_
          rintro e w2 ⟨rfl,M,hm1,hm2,hm3⟩;have HM1:=Lib.hid hm1;have HM2:=Lib.hid hm2;have HM3:=Lib.hid hm3;clear hm1 hm2 hm3 hc HR;go_wp2
          go_roundw
          case rel =>
           have hml:M.length=2*s:=(HM2.out.perm hW).length_eq.symm.trans (by rw [List.length_append]; exact HXY.out);refine ⟨a+2*s,P ++ M,R',by first | rfl | go_num,by first | rfl | go_num,hb,?_,.snoc _ _ HF.out hml HM1.out,HC2,?_,?_⟩
           · show _=_; rw [List.length_append,hml,← show a=_ from HA.out]
           · refine SameE.trans HE.out ?_
             have:=(SameE.refl (lt:=ltF cf) P).app (HM2.out.app (SameE.refl R'))
             simpa using this
           · show SF _ _ _ _ _ _ _; have:=HM3.out; simpa using this
          case measure=>simp [intOf]; omega
        · have d2 : ¬ (a:Int)+2*(s:Int)≤(N:Int):=by omega
          by_cases hm:a+s<N
          · have d3:(a:Int)+(s:Int)<(N:Int):=by omega
            obtain ⟨X,Y,rfl,hX,hXs,hc1⟩:=HCH.out.first (by have:=HL.out; change _=_ at this; omega);have hXY:a+(X.length+Y.length)=N:=by have:=HL.out; change _=_ at this; rw [List.length_append] at this; exact this
            have hYs:=hc1.whole (by omega);have hsm:=HE.out.small hW HS0.out;have hc:=HY.out (s+s) P X Y [] a (a+s) N wr (by omega) (fun e=>by rw [e] at hX; simp at hX; omega) (fun e=>by rw [e] at hXY; simp at hXY; omega) HA.out (by omega) (by omega) hsm.right.left hsm.right.right hXs hYs (by have:=HR.out; simpa using this);rw [show ((a+s:Nat):Int)=(a:Int)+(s:Int) by omega] at hc;have HXY:Hid (X.length+Y.length≤2*s):=by show _≤_; omega
            clear hX hXs hc1 hXY hYs hsm HCH;unfold cmpF at hc;go_wp2_with fail
            refine hc.mono ?_
            rintro e w2 ⟨rfl,M,hm1,hm2,hm3⟩;have HM3:Hid (SF B g cap N w0 w2 (P ++ M)):=by show SF _ _ _ _ _ _ _; simpa using hm3
            have HCH:Hid (Chunks (ltF cf) (2*s) (P ++ M)):=HF.out.chunks (.last _ (by
             have h0:=(hm2.perm hW).length_eq;rw [List.length_append] at h0;have h1:=HXY.out;change _≤_ at h1
             omega) hm1)
            have HE2:Hid (SameE (ltF cf) l0 (P ++ M)):=SameE.trans HE.out ((SameE.refl P).app hm2);clear hm1 hm2 hm3 hc HR HE HF HA HL;go_wp2
            go_roundw
            case rel=>exact ⟨2*s,P ++ M,by first | rfl | go_num | (congr 1; omega),by omega,by omega,HCH,HE2,HM3⟩
            case measure=>simp [intOf]; omega
          · have d3 : ¬ (a:Int)+(s:Int)<(N:Int):=by omega
            have HCH2:Hid (Chunks (ltF cf) (2*s) (P ++ R)):=HF.out.chunks (.last _ (by have:=HL.out; change _=_ at this; omega) (HCH.out.whole (by have:=HL.out; change _=_ at this; omega)));clear HF HA HL HCH;go_wp2
            go_roundw
            case rel=>exact ⟨2*s,P ++ R,by first | rfl | go_num | (congr 1; omega),by omega,by omega,HCH2,HE,HR⟩
            case measure=>simp [intOf]; omega
     · have d1 : ¬ (s:Int)<(N:Int):=by omega
       go_wp2
       go_end0
       exact ⟨rfl,l,HCH.out.whole (by have:=HR.out.len; omega),HE.out,HR.out⟩
theorem sortStable_any {B g cap N:Nat} {w0:World} {cf:S→S→Int} (hC:CmpOk cf) (hW:Weak (ltF cf)) (l0:List S) (hN:N≤1000000) (hs0:AllSmall l0) (w:World) (h:SF B g cap N w0 w l0) :
    Calls Tryz.prog 98 #[.slice (some ⟨g,0,none⟩) N cap,cmpF] w fun e w'=>e = .returned (.tuple #[]) ∧ ∃ M,Srt (ltF cf) M∧SameE (ltF cf) l0 M∧SF B g cap N w0 w' M:=by
 have HT:=Lib.hid (stable_any hC hW l0 hN hs0 w h);clear h hs0 hC;unfold cmpF at *;go_enter Tryz.func98,Tryz.ntmps98
 go_wp2_with fail
 refine HT.out.mono ?_
 rintro e w1 ⟨rfl,h1⟩;go_wp2
 go_end0
 exact ⟨rfl,h1⟩
theorem cmpOk_sv:CmpOk cmpSV:=fun a b W ha hb=>compareV_any a b W ha hb
theorem strC_flat (l:List S):l.flatMap strC=l.map Value.string:=by
 induction l with
 | nil=>rfl
 | cons x l ih=>rw [List.flatMap_cons,ih]; rfl
set_option maxRecDepth 100000 in
theorem insert_nil (ao:Option Addr) (c:Nat) (w:World):Calls Tryz.prog 140 #[.slice ao 0 c,.int .i64 0,.int .i64 0,cmpF] w fun e w'=>e = .returned (.tuple #[])∧w=w':=by
 unfold cmpF;go_enter Tryz.func140,Tryz.ntmps140
 go_wp2
 refine wp_loop_rounds 1 ?_
 rw [rounds_succ];go_wp2
 go_end0
 exact ⟨rfl,rfl⟩
set_option maxRecDepth 100000 in
theorem stable_nil (ao:Option Addr) (c:Nat) (w:World):Calls Tryz.prog 98 #[.slice ao 0 c,cmpF] w fun e w'=>e = .returned (.tuple #[])∧w=w':=by
 have hc:Calls Tryz.prog 123 #[.slice ao 0 c,.int .i64 0,cmpF] w fun e w'=>e = .returned (.tuple #[])∧w=w':=by
  have h1:=insert_nil ao c w;unfold cmpF at *;go_enter Tryz.func123,Tryz.ntmps123
  go_wp2
  refine wp_loop_rounds 1 ?_
  rw [rounds_succ];go_wp2_with fail
  refine h1.mono ?_
  rintro e w1 ⟨rfl,rfl⟩;go_wp2
  refine wp_loop_rounds 1 ?_
  rw [rounds_succ];go_wp2
  go_end0
  exact ⟨rfl,rfl⟩
 unfold cmpF at *;go_enter Tryz.func98,Tryz.ntmps98
 go_wp2_with fail
 refine hc.mono ?_
 rintro e w1 ⟨rfl,rfl⟩;go_wp2
 go_end0
 exact ⟨rfl,rfl⟩
theorem clone_any {w:World} {v:Value} {l:List S} (h:SliceOf 1 strC w v l) (hl:l.length≤1000000):Calls Tryz.prog 97 #[v] w fun e w'=>∃ v',e = .returned v'∧Owns w.heap.size 9 1 strC w' v' l∧Below w.heap.size w w':=by
 obtain ⟨ao,cap,rfl,h2,hm,h3,h4⟩:=h;cases l with
 | nil =>
  cases ao with
  | none=>exact (Tryz.slices_Clone_string_nil 0 cap w).mono fun e w' ⟨h1,h2⟩=>by subst h2; exact ⟨_,h1,Owns.nil,Below.refl _ _⟩
  | some a=>exact (Tryz.slices_Clone_string_zero a cap w).mono fun e w' ⟨v',h1,h2,_,h4⟩=>⟨v',h1,h2,h4⟩
 | cons x r =>
  obtain ⟨b,o,rfl,hb,hc⟩:=h4 0 x rfl;refine (Tryz.slices_Clone_string b o (x::r).length cap (x::r) w (Nat.le_refl _) (by omega) fun j hj=>?_).mono fun e w' ⟨v',h1,h2,_,h4⟩=>⟨v',h1,?_,h4⟩
  · obtain ⟨b',o',e,_,hc'⟩:=h4 j (x::r)[j] (List.getElem?_eq_getElem hj)
    cases e
    have:=hc' 0 _ rfl
    rw [Nat.mul_one,Nat.add_zero] at this;rw [this,List.getD_eq_getElem?_getD,List.getElem?_eq_getElem hj]; rfl
  · unfold Owns
    rw [List.take_length] at h2;rw [strC_flat]; exact h2
set_option maxRecDepth 100000 in
theorem sort_any {w:World} {v:Value} {l:List S} (h:SliceOf 1 strC w v l) (hl:l.length≤1000000) (hs:AllSmall l):Calls Tryz.prog 68 #[v] w fun e w'=>∃ v' M,e = .returned v'∧Owns w.heap.size 9 1 strC w' v' M∧Srt ltSV M∧SameE ltSV l M∧Below w.heap.size w w':=by
 have HC:=Lib.hid (clone_any h hl);have HS:=Lib.hid hs;clear h hs;go_enter Tryz.func68,Tryz.ntmps68
 go_wp2_with fail
 refine HC.out.mono ?_
 rintro e w1 ⟨v',rfl,hO,hB⟩;have HO:=Lib.hid hO;have HB:=Lib.hid hB;obtain ⟨ao,c,rfl⟩:=hO.shape;clear hO hB HC;by_cases h0:l=[]
 · subst h0
   have hc:=stable_nil ao c w1;unfold cmpF at hc;go_wp2_with fail
   refine hc.mono ?_
   rintro e w2 ⟨rfl,rfl⟩;go_wp2
   go_ret
   exact ⟨_,[],rfl,HO.out,srt_nil,SameE.refl _,HB.out⟩
 · obtain ⟨g,cap,hg⟩ : ∃ g cap,(Value.slice ao l.length c) = .slice (some ⟨g,0,none⟩) l.length cap:=by
    rcases HO.out.2 with ⟨e,h1⟩ | ⟨g,cap,cur,e,h1⟩
    · exact absurd (List.eq_nil_of_length_eq_zero h1) h0
    · exact ⟨g,cap,e⟩
   cases hg
   have HG:=Lib.hid (HO.out.lt g rfl);have hc:=sortStable_any (w0:=w1) cmpOk_sv ltSV_weak l hl HS.out w1 ⟨rfl,HO.out,World.grownBy.refl _ _⟩;unfold cmpF at hc;clear h0;generalize hn:l.length=n at *;have HN:=Lib.hid hn;clear hn;go_wp2_with fail
   refine hc.mono ?_
   rintro e w2 ⟨rfl,M,h1,h2,h3⟩;have H1:=Lib.hid h1;have H2:=Lib.hid h2;have H3:=Lib.hid h3;clear h1 h2 h3 hc;go_wp2
   go_ret
   have h3:=H3.out.own;rw [H3.out.len] at h3;refine ⟨_,M,rfl,?_,H1.out,H2.out,?_⟩
   · exact h3
   · exact HB.out.grown H3.out.grown HB.out.size (fun j hj=>by cases hj; exact HG.out.1)
theorem small_list : ∀ (l:List S),AllSmall l → ∃ zs:List SmallS,zs.map (·.1)=l
 | [],_=>⟨[],rfl⟩
 | x::l,h=>by
  obtain ⟨zs,e⟩:=small_list l fun y hy=>h y (List.mem_cons_of_mem _ hy);exact ⟨⟨x,h x List.mem_cons_self⟩::zs,by rw [List.map_cons,e]⟩
theorem releaseV_any {w:World} {v:Value} {l:List S} (h:SliceOf 1 strC w v l) (hl:l.length≤1000000) (hs:AllSmall l):Calls Tryz.prog 50 #[v] w fun e w'=>e = .returned (.string (relV l))∧Below w.heap.size w w':=by
 obtain ⟨zs,rfl⟩:=small_list l hs;obtain ⟨ao,c,rfl⟩:=h.shape;rw [List.length_map] at h hl ⊢;exact release_any zs ao c w h hl
def lastV (l:List S):S:=l.getLastD ⟨#[]⟩
theorem lastV_at {l:List S} {n:Nat} (h:l.length=n+1):l[n]? = some (lastV l):=by
 unfold lastV;rw [List.getLastD_eq_getLast?,List.getLast?_eq_getElem?,h];simp [h]
theorem gr_belowV {B g:Nat} {w w' w1:World} (h:Below B w w') (hg:w'.grownBy w1 (some g)) (hB:B≤g) (hs:B≤w.heap.size):Below B w w1:=h.grown hg (Nat.le_trans hs h.size) (fun j hj=>by cases hj; exact hB)
def metaZ:List Value:=[.string ⟨#[]⟩,.string ⟨#[]⟩,.slice none 0 0,.string ⟨#[]⟩,.string ⟨#[]⟩]
set_option maxRecDepth 100000 in
set_option maxHeartbeats 4000000 in
theorem metaOf_any (d:Id) (l:List S) (v:Value) (w:World) (h:SliceOf 1 strC w v l) (hl:l.length≤1000000) (hs:AllSmall l) (hne:l≠[]) :
    Calls Tryz.prog 44 #[.agg (idC d).toArray,v] w fun e w'=>e = .returned (metaAg ⟨d,l,lastV l,relV l⟩ v)∧Below w.heap.size w w':=by
 obtain ⟨ao,c,rfl⟩:=h.shape;have hrel : ∀ W,Below w.heap.size w W→Calls Tryz.prog 50 #[.slice ao l.length c] W fun e w'=>e = .returned (.string (relV l))∧Below W.heap.size W w':=fun W hb=>releaseV_any (h.below hb) hl hs;obtain ⟨n,hn⟩ : ∃ n,l.length=n+1:=⟨l.length - 1,by have:=List.length_pos_iff.2 hne; omega⟩;have hat:=lastV_at hn;obtain ⟨b,o,hao,hbl,hc⟩:=h.at1 (k:=n) (by omega);rw [(List.getElem?_eq_some_iff.1 hat).2] at hc;cases hao
 have HR:=Lib.hid hrel;clear h hs hne hrel hat;generalize lastV l=la at *;generalize relV l=re at *;rw [hn] at HR ⊢;have w1:IntKind.i64.wrap (n:Int)=(n:Int):=IntWalk.i64_in _ (by omega);have lt1:(n:Int)<(n:Int)+1:=by omega
 clear hn hl;unfold idC metaAg metaC;obtain ⟨dg,da⟩:=d;go_enter Tryz.func44,Tryz.ntmps44
 go_upto_region 1 with fail
 refine wp_world ?_
 intro W hW;have x1:Box W w.heap.size [.string dg,.string da]:=by rw [hW]; exact (Box.new w [.string dg,.string da] _ _ rfl).alloc _
 have y1:Box W (w.heap.size+1) metaZ:=by rw [hW]; exact Box.new _ metaZ _ _ (by simp)
 have hb:Below w.heap.size w W:=by rw [hW]; exact ((Below.refl _ w).alloc (Nat.le_refl _) _).alloc (by simp) _
 clear hW;have c1:W.cell? ⟨b,o+n,none⟩=some (.string la):=(hb.cell (p:=⟨b,o+n,none⟩) hbl).trans hc;have hbl2:=Nat.lt_of_lt_of_le hbl hb.size;have HRR:Hid (∀ z:Later W,Calls Tryz.prog 50 #[.slice (some ⟨b,o,none⟩) (n+1) c] z.at_ fun e w''=>e = .returned (.string re) ∧ ∃ u:Later W,w''=u.at_):=fun z=>Later.call (HR.out _ (hb.trans (z.below.mono hb.size)));have HY:=Lib.hid y1;have HB:=Lib.hid hb;have x0:=x1.cell 0 _ rfl;have x1':=x1.cell 1 _ rfl;have xl:=x1.lt;have hLL:=@Later.cells W;clear x1 y1 hb hc hbl HR;refine region_later_tail 11 (by kernel_rfl) (by kernel_rfl) ?_
 simp only [List.take_succ_cons,List.take_zero,List.drop_succ_cons,List.drop_zero];repeat (go_big_quiet_step ((go_at_call 50; with_reducible exact HRR.out _)))
 refine wpQuiet_nil ?_
 rintro _ ⟨nx,rfl⟩;have HYn:=Lib.hid (HY.out.below nx.below HY.out.lt);have HBn:=Lib.hid (HB.out.trans (nx.below.mono HB.out.size));clear hLL x0 x1' xl c1 hbl2 HRR HY HB;generalize nx.at_=wn at *;refine wpList_store_box rfl 26 (.tmp 4) (.tmp 15) rfl (w.heap.size+1) _ [.string dg,.string da,.slice (some ⟨b,o,none⟩) (n+1) c,.string la,.string re] rfl rfl HYn.out rfl (by kernel_rfl) (by simp [Value.oneCell']) ?_
 intro W7 v7 hg7;have HV7:=Lib.hid v7;have HB7:=Lib.hid (gr_belowV HBn.out hg7 (by omega) (Nat.le_refl _));clear v7 hg7 HYn HBn;go_wp2
 refine bodyPost_ret (v:=.agg #[.string dg,.string da,.slice (some ⟨b,o,none⟩) (n+1) c,.string la,.string re]) (results_cell_box rfl _ _ _ [.string dg,.string da,.slice (some ⟨b,o,none⟩) (n+1) c,.string la,.string re] rfl HV7.out Tryz.underlying26 rfl (by kernel_rfl)) rfl ?_
 exact ⟨rfl,HB7.out⟩
theorem relV_snoc (l:List S) (x:S):relV (l ++ [x])=if snapV x.data.toList=true then relV l else x:=by
 unfold relV;rw [List.reverse_append];simp only [List.reverse_cons,List.reverse_nil,List.nil_append,List.singleton_append,List.find?_cons];cases snapV x.data.toList <;> simp
theorem take_snoc {l:List S} {k:Nat} (h:k<l.length):l.take (k+1)=l.take k ++ [l[k]]:=by rw [List.take_add_one,List.getElem?_eq_getElem h]; rfl
theorem lastV_snoc (l:List S) (x:S):lastV (l ++ [x])=x:=by simp [lastV]
set_option maxRecDepth 100000 in
set_option maxHeartbeats 4000000 in
theorem refMetaOf_of (HPT:RefPartsOk) (d:Id) (l:List S) (v:Value) (w:World) (h:SliceOf 1 strC w v l) (hl:l.length≤1000000) (hs:AllSmall l) :
    Calls Tryz.prog 16 #[.agg (idC d).toArray,v] w fun e w'=>e = .returned (metaAg ⟨d,l,lastV l,relV l⟩ v)∧Below w.heap.size w w':=by
 obtain ⟨ao,c,rfl⟩:=h.shape;have HS:=Lib.hid h;have HSN:Hid (∀ (s:S) (W:World),s ∈ l→Calls Tryz.prog 39 #[.string s] W fun e w'=>e = .returned (.bool (snapV s.data.toList))∧Below W.heap.size W w'):=fun s W hm=>refIsSnapshot_of HPT s W (hs s hm);have HL:=Lib.hid hl;clear h hs hl HPT;unfold idC;obtain ⟨dg,da⟩:=d;have HR:Hid (∀ x:S × S,metaAg ⟨⟨dg,da⟩,l,x.1,x.2⟩ (.slice ao l.length c) = .agg #[.string dg,.string da,.slice ao l.length c,.string x.1,.string x.2]):=fun _=>rfl;rw [HR.out (lastV l,relV l)];simp only;clear HR;go_enter Tryz.func16,Tryz.ntmps16
 go_upto_region 1 with fail
 refine wp_world ?_
 intro W hW;have x1:Box W w.heap.size [.string dg,.string da]:=by rw [hW]; exact (Box.new w [.string dg,.string da] _ _ rfl).alloc _
 have y1:Box W (w.heap.size+1) metaZ:=by rw [hW]; exact Box.new _ metaZ _ _ (by simp)
 have hb:Below w.heap.size w W:=by rw [hW]; exact ((Below.refl _ w).alloc (Nat.le_refl _) _).alloc (by simp) _
 have hsz:W.heap.size=w.heap.size+2:=by rw [hW]; simp
 clear hW;have HY:=Lib.hid y1;have HB:=Lib.hid hb;have HSZ:=Lib.hid hsz;have x0:=x1.cell 0 _ rfl;have x1':=x1.cell 1 _ rfl;have xl:=x1.lt;clear x1 y1 hb hsz;go_upto_region 2 with fail
 refine wp_world ?_
 intro W2 hW2;have z1:Box W2 (w.heap.size+2) [.string dg,.string da,.slice ao l.length c,.string ⟨#[]⟩,.string ⟨#[]⟩]:=by rw [hW2]; exact Box.new W [.string dg,.string da,.slice ao l.length c,.string ⟨#[]⟩,.string ⟨#[]⟩] _ _ HSZ.out
 have hb2:Below W.heap.size W W2:=by rw [hW2]; exact (Below.refl _ _).alloc (Nat.le_refl _) _
 have hH:W.heap.size=w.heap.size+2:=HSZ.out;clear hW2;have HY2:=Lib.hid (HY.out.below hb2 HY.out.lt);have HB2:=Lib.hid (HB.out.trans (hb2.mono HB.out.size));have HZ:=Lib.hid z1;rw [hH];clear z1 hb2 hH x0 x1' xl HY HB HSZ;go_wp2
 go_loopw [13] (fun i wr=>∃ k:Nat,i = .int .i64 k∧k≤l.length∧Hid (Box wr (w.heap.size+2) [.string dg,.string da,.slice ao l.length c,.string (lastV (l.take k)),.string (relV (l.take k))])∧Hid (Box wr (w.heap.size+1) metaZ)∧Hid (Below w.heap.size w wr)) (fun i _=>l.length - (intOf i).toNat)
 case atStart=>exact ⟨0,rfl,Nat.zero_le _,HZ,HY2,HB2⟩
 case round =>
  clear HZ HY2 HB2;obtain ⟨k,rfl,hk,HZ,HY,HB⟩:=hrel;by_cases hlt:k<l.length
  · obtain ⟨b,o,hao,hbl,hc⟩:=(HS.out.below HB.out).at1 hlt
    cases hao
    have d1:(k:Int)<(l.length:Int):=by omega
    have wk:IntKind.i64.wrap ((k:Int)+1)=(k:Int)+1:=IntWalk.i64_in _ (by have:=HL.out; omega);have HT:=Lib.hid (take_snoc hlt);have HSX:Hid (∀ W,Calls Tryz.prog 39 #[.string l[k]] W fun e w'=>e = .returned (.bool (snapV l[k].data.toList))∧Below W.heap.size W w'):=fun W=>HSN.out _ W (List.getElem_mem hlt);have HRS:=Lib.hid (relV_snoc (l.take k) l[k]);generalize l[k]=x at *;generalize snapV x.data.toList=q at *;have z3:=HZ.out.cell 3 _ rfl;have zf:=HZ.out.free 3;have zl:=HZ.out.lt;go_upto_region 6 with fail
    refine wp_world ?_
    intro W3 hW3;have HZ3:Hid (Box W3 (w.heap.size+2) [.string dg,.string da,.slice (some ⟨b,o,none⟩) l.length c,.string x,.string (relV (l.take k))]):=by show Box _ _ _; rw [hW3]; exact HZ.out.setOne (o:=3) rfl (by simp)
    have hg3:wr.grownBy W3 (some (w.heap.size+2)):=by rw [hW3]; exact setCell_grown _ _ _ _
    have HY3:=Lib.hid (HY.out.grown hg3 (by simp));have HB3:=Lib.hid (gr_belowV HB.out hg3 (by omega) (Nat.le_refl _));clear hW3 hc z3 zf zl hbl hg3 HZ HY HB;go_wp2_with fail
    refine (HSX.out _).mono ?_
    rintro e w4 ⟨rfl,hb4⟩;have HZ4:=Lib.hid (HZ3.out.below hb4 HZ3.out.lt);have HY4:=Lib.hid (HY3.out.below hb4 HY3.out.lt);have HB4:=Lib.hid (HB3.out.trans (hb4.mono HB3.out.size));clear hb4 HZ3 HY3 HB3 HSX;cases q with
    | true =>
     go_wp2
     go_roundw
     case rel=>exact ⟨k+1,by first | rfl | go_num,hlt,(by show Box _ _ _; rw [HT.out,lastV_snoc,HRS.out]; exact HZ4.out),HY4,HB4⟩
     case measure=>simp [intOf]; omega
    | false =>
     have z4:=HZ4.out.cell 4 _ rfl;have zf:=HZ4.out.free 4;have zl:=HZ4.out.lt;go_upto_region 8 with fail
     refine wp_world ?_
     intro W5 hW5;have HZ5:Hid (Box W5 (w.heap.size+2) [.string dg,.string da,.slice (some ⟨b,o,none⟩) l.length c,.string x,.string x]):=by show Box _ _ _; rw [hW5]; exact HZ4.out.setOne (o:=4) rfl (by simp)
     have hg5:w4.grownBy W5 (some (w.heap.size+2)):=by rw [hW5]; exact setCell_grown _ _ _ _
     have HY5:=Lib.hid (HY4.out.grown hg5 (by simp));have HB5:=Lib.hid (gr_belowV HB4.out hg5 (by omega) (Nat.le_refl _));clear hW5 z4 zf zl hg5 HZ4 HY4 HB4;go_wp2
     go_roundw
     case rel=>exact ⟨k+1,by first | rfl | go_num,hlt,(by show Box _ _ _; rw [HT.out,lastV_snoc,HRS.out]; exact HZ5.out),HY5,HB5⟩
     case measure=>simp [intOf]; omega
  · obtain rfl:k=l.length:=by omega
    have d1 : ¬ (l.length:Int)<(l.length:Int):=by omega
    rw [List.take_length] at HZ;clear hlt;obtain ⟨la,hla⟩ : ∃ x,lastV l=x:=⟨_,rfl⟩;obtain ⟨re,hre⟩ : ∃ x,relV l=x:=⟨_,rfl⟩;rw [hla,hre] at HZ;have HLA:=Lib.hid hla;have HRE:=Lib.hid hre;clear hla hre;go_wp2_with (first | ((with_reducible show wpList _ _ _ (Oper.mk _ (Op.load 26 (.tmp 5)) _ _ _ _::_) _ _); refine wpList_load_box rfl 26 (.tmp 5) rfl (w.heap.size+2) [.string dg,.string da,.slice ao l.length c,.string la,.string re] rfl HZ.out Tryz.underlying26 rfl (by kernel_rfl) ?_) | ((with_reducible show wpList _ _ _ (Oper.mk none (Op.store 26 (.tmp 4) (.tmp 25)) _ _ _ _::_) _ _); refine wpList_store_box rfl 26 (.tmp 4) (.tmp 25) rfl (w.heap.size+1) _ [.string dg,.string da,.slice ao l.length c,.string la,.string re] rfl rfl HY.out rfl (by kernel_rfl) (by simp [Value.oneCell']) ?_; intro W7 v7 hg7; have HV7:=Lib.hid v7; have HB7:=Lib.hid (gr_belowV HB.out hg7 (by omega) (Nat.le_refl _)); clear v7 hg7))
    refine bodyPost_ret (v:=.agg #[.string dg,.string da,.slice ao l.length c,.string la,.string re]) (results_cell_box rfl _ _ _ [.string dg,.string da,.slice ao l.length c,.string la,.string re] rfl HV7.out Tryz.underlying26 rfl (by kernel_rfl)) rfl ?_
    exact ⟨by rw [HLA.out,HRE.out],HB7.out⟩
end Go.Proofs.YtecffghcpknmjaaGreatDoor
