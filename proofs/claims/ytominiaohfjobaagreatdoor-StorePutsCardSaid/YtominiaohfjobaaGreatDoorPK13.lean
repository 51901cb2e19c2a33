/- The walk of slices.symMergeCmpFunc at texts, in general; the conditions stand in the theorems. -/
import Derived.Test.YtominiaohfjobaaGreatDoorPK12
import Derived.Deep.CutRange
import Derived.Test.YtominiaohfjobaaGreatDoorShelf
import Derived.Test.YtominiaohfjobaaGreatDoorPK08
import Derived.Test.YtominiaohfjobaaGreatDoorPK11
import Derived.Test.YtominiaohfjobaaGreatDoorPK07
import Derived.KernelRfl
import Derived.Laws.StructEq
import Derived.MapKept
import Derived.WalkKit
set_option maxRecDepth 100000
set_option maxHeartbeats 64000000
namespace Go.Proofs.YtominiaohfjobaaGreatDoor
open Go Go.RowKit
def zw (A:S→S→Int) (B g cap N:Nat) (w0:World) (k:Nat):Prop:=∀ (P U V Q:List S) (a m b:Nat) (w:World),U.length+V.length≤k→U≠[]→V≠[]→a=P.length→m=a+U.length→b=m+V.length→ci U→ci V→dL (dO A) U→dL (dO A) V →
 SF B g cap N w0 w (P ++ (U ++ (V ++ Q)))→Calls Tryz.prog 109 #[.slice (some ⟨g,0,none⟩) N cap,.int .i64 a,.int .i64 m,.int .i64 b,fo] w (oN A B g cap N w0 P U V Q)
theorem rR {B g cap N a m b:Nat} {w0:World} {D:S→S→Int} (hC:mL D) (hW:eG (dO D)) (P U V Q:List S) (hN:N≤1000000) (ha:a=P.length) (hm:m=a+U.length) (hb:b=m+V.length) (hu:2≤U.length) (hv:2≤V.length) (d8:ci U) (d7:ci V) (hU:dL (dO D) U) (hV:dL (dO D) V)
    (hI:zw D B g cap N w0 (U.length+V.length - 1)) (w:World) (h:SF B g cap N w0 w (P ++ (U ++ (V ++ Q)))) :
    Calls Tryz.prog 109 #[.slice (some ⟨g,0,none⟩) N cap,.int .i64 a,.int .i64 m,.int .i64 b,fo] w (oN D B g cap N w0 P U V Q):=by
 have ef:=h.len;simp only [List.length_append] at ef;have HS:=zH h;have HC:=zH hC;have HI:=zH hI;have HA:=zH ha;have HM:=zH hm;have HB:=zH hb;obtain ⟨nu,hY⟩ : ∃ n,n=U.length:=⟨_,rfl⟩;obtain ⟨nv,hX⟩ : ∃ n,n=V.length:=⟨_,rfl⟩;have e1:IntKind.i64.wrap ((m:Int) - (a:Int))=(nu:Int):=by rw [show (m:Int) - (a:Int)=(nu:Int) by omega]; exact IntWalk.i64_in _ (by omega)
 have e2:((nu:Int) == 1)=false:=by rw [beq_eq_false_iff_ne]; omega
 have k1:(nu == 1)=false:=by rw [beq_eq_false_iff_ne]; omega
 have e3:IntKind.i64.wrap ((b:Int) - (m:Int))=(nv:Int):=by rw [show (b:Int) - (m:Int)=(nv:Int) by omega]; exact IntWalk.i64_in _ (by omega)
 have e4:((nv:Int) == 1)=false:=by rw [beq_eq_false_iff_ne]; omega
 have k0:(nv == 1)=false:=by rw [beq_eq_false_iff_ne]; omega
 obtain ⟨d,hd⟩ : ∃ d:Nat,d=(a+b) / 2:=⟨_,rfl⟩;have ih:((a:Int)+(b:Int)) / 2=(d:Int):=by omega
 have n4:b≤N:=by omega
 have n7:a+2≤d:=by omega
 have n0:d+2≤b:=by omega
 have n5:a+2≤m:=by omega
 have m4:m+2≤b:=by omega
 have l0:2*d≤a+b:=by omega
 have lV:a+b≤2*d+1:=by omega
 obtain ⟨n,hn⟩ : ∃ n:Nat,n=d+m:=⟨_,rfl⟩;have wn:IntKind.i64.wrap ((d:Int)+(m:Int))=(n:Int):=by rw [show (d:Int)+(m:Int)=(n:Int) by omega]; exact IntWalk.i64_in _ (by omega)
 have mc:IntKind.i64.wrap ((n:Int) - (b:Int))=(n:Int) - (b:Int):=IntWalk.i64_in _ (by omega);have hK:IntKind.i64.wrap ((n:Int) - 1)=(n:Int) - 1:=IntWalk.i64_in _ (by omega);have ag:2≤n:=by omega
 obtain ⟨s0,r0,hT,cT⟩ : ∃ s0 r0:Nat,(s0≤r0∧r0≤d∧r0≤m∧a≤s0)∧((d<m∧s0+b=n∧r0=d)∨(¬ d<m∧s0=a∧r0=m)):=by
  by_cases c:d<m
  · exact ⟨n - b,d,⟨by omega,by omega,by omega,by omega⟩,.inl ⟨c,by omega,rfl⟩⟩
  · exact ⟨a,m,⟨by omega,by omega,by omega,by omega⟩,.inr ⟨c,rfl,rfl⟩⟩
 obtain ⟨hP,ms,mo,has⟩:=hT;have b6:=zH cT;have HD:=zH hd;have a7:=zH hn;have hq:(d:Int)<(m:Int)↔d<m:=by omega
 clear h hC hI ef ha hb hm hu hv hY hX hd hn cT;have nl:=iF;unfold fo;go_enter Tryz.func109,Tryz.ntmps109
 go_upto_if 140 with fail
 clear e1 e2 k1 e3 e4 k0 ih wn;go_cut [20,21] from 140 to 146 (fun x y wx=>x = .int .i64 s0∧y = .int .i64 r0∧wx=w)
 case first =>
  rcases b6.out with ⟨c1,c2,c3⟩ | ⟨c1,c2,c3⟩
  · have d1:(d:Int)<(m:Int):=by omega
    have d2:(n:Int) - (b:Int)=(s0:Int):=by omega
    have HX:=zH c3;clear c2 c3;go_wp2
    go_meet
    case rel=>exact ⟨rfl,by rw [show r0=d from HX.out],rfl⟩
  · have d1 : ¬ (d:Int)<(m:Int):=by omega
    have HX:=zH c2;have HY:=zH c3;clear c2 c3;go_wp2
    go_meet
    case rel=>exact ⟨by rw [show s0=a from HX.out],by rw [show r0=m from HY.out],rfl⟩
 case rest =>
  obtain ⟨rfl,rfl,rfl⟩:=hcut;go_wp2
  clear hK;go_loopw [20,21] (fun vi vj wr=>∃ (i j:Nat),vi = .int .i64 i∧vj = .int .i64 j∧s0≤i∧i≤j∧j≤r0∧Hid (i=s0 ∨ ∃ x y,a<i∧U[i - 1 - a]? = some x∧V[d - i]? = some y∧dO D y x=false)∧Hid (j=r0 ∨ ∃ x y,U[j - a]? = some x∧V[d - 1 - j]? = some y∧dO D y x=true)∧Hid (SF B g cap N w0 wr (P ++ (U ++ (V ++ Q))))) (fun vi vj _=>(intOf vj).toNat - (intOf vi).toNat)
  case atStart=>exact ⟨s0,r0,rfl,rfl,Nat.le_refl _,hP,Nat.le_refl _,.inl rfl,.inl rfl,HS⟩
  case round =>
   clear HS;obtain ⟨i,j,rfl,rfl,hS,h9,h7,HL,HG,HR⟩:=hrel;have nc:i≤d:=by omega
   by_cases hlt:i<j
   · obtain ⟨k,hk⟩ : ∃ k:Nat,k=(i+j) / 2:=⟨_,rfl⟩
     have h8:i≤k:=by omega
     have m6:k<j:=by omega
     have m5:((i:Int)+(j:Int)) / 2=(k:Int):=by omega
     have iv:d+m=n:=a7.out.symm;obtain ⟨p,hp⟩ : ∃ p:Nat,p+k+1=n:=⟨n - 1 - k,by omega⟩;have wp:IntKind.i64.wrap ((n:Int) - 1 - (k:Int))=(p:Int):=by rw [show (n:Int) - 1 - (k:Int)=(p:Int) by omega]; exact IntWalk.i64_in _ (by omega)
     have g7:k - a<U.length:=by have h2:=HM.out; change _=_ at h2; omega
     have g6:d - 1 - k<V.length:=by have h1:=HB.out; have h2:=HM.out; have h3:=b6.out; change _=_ at h1; change _=_ at h2; omega
     obtain ⟨u,hu⟩ : ∃ u,U[k - a]? = some u:=⟨_,List.getElem?_eq_getElem g7⟩;obtain ⟨v,hv⟩ : ∃ v,V[d - 1 - k]? = some v:=⟨_,List.getElem?_eq_getElem g6⟩
     have lb:Hid ((P ++ (U ++ (V ++ Q)))[k]? = some u):=by
      show _=_
      have h1:=HA.out; change _=_ at h1;rw [List.getElem?_append_right (by omega),List.getElem?_append_left (by omega),← h1]; exact hu
     have hl:Hid ((P ++ (U ++ (V ++ Q)))[p]? = some v):=by
      show _=_
      have h1:=HA.out; have h2:=HM.out; change _=_ at h1; change _=_ at h2;rw [List.getElem?_append_right (by omega),List.getElem?_append_right (by omega),List.getElem?_append_left (by omega),show p - P.length - U.length=d - 1 - k by omega]; exact hv
     have su:u.size≤900000:=d8 u (List.mem_of_getElem? hu);have sv:v.size≤900000:=d7 v (List.mem_of_getElem? hv);have HU:=zH hu;have HV:=zH hv;have lk:(k:Int)<(N:Int):=by omega
     have lp:(p:Int)<(N:Int):=by have h1:=HB.out; have h2:=HM.out; change _=_ at h1; change _=_ at h2; omega
     clear hk hp iv g7 g6 hu hv;have c1:=(HR.out.cell hl.out).1;have c2:=(HR.out.cell lb.out).1;have gl:=(HR.out.cell hl.out).2.2;have kn:=@aJ.cells wr;have hr:Hid (∀ z:aJ wr,Calls Tryz.prog 49 #[.string v,.string u] z.at_ fun e hL=>e = .returned (.int .i64 (D v u)) ∧ ∃ u:aJ wr,hL=u.at_):=fun z=>aJ.call (HC.out _ _ _ sv su);go_wp2_with fail
     refine cG (by kernel_rfl) (by kernel_rfl) ?_
     repeat (go_big_quiet_step ((first | (go_at_call 49; with_reducible exact hr.out _))))
     refine wpQuiet_nil ?_
     rintro _ ⟨nx,rfl⟩;have hg:=zH (HR.out.later nx.below);clear kn hr c1 c2 gl HR;generalize nx.at_=w2 at *;have hq:dO D v u=decide (D v u<0):=rfl;generalize decide (D v u<0)=q at *;cases q with
     | false =>
      have HQ:=zH hq;have wk:IntKind.i64.wrap ((k:Int)+1)=(k:Int)+1:=IntWalk.i64_in _ (by omega);clear hq;go_wp2
      go_roundw
      case rel=>exact ⟨k+1,j,by first | rfl | go_num,rfl,by omega,by omega,h7,(.inr ⟨u,v,by omega,by rw [Nat.add_sub_cancel]; exact HU.out,by rw [show d - (k+1)=d - 1 - k by omega]; exact HV.out,HQ.out⟩),HG,hg⟩
      case measure=>simp [intOf]; omega
     | true =>
      have HQ:=zH hq;clear hq;go_wp2
      go_roundw
      case rel=>exact ⟨i,k,rfl,by first | rfl | go_num,hS,h8,by omega,HL,(.inr ⟨u,v,HU.out,HV.out,HQ.out⟩),hg⟩
      case measure=>simp [intOf]; omega
   · obtain rfl:i=j:=by omega
     have hZ:n=d+m:=a7.out;obtain ⟨A,el⟩ : ∃ A:Nat,A+i=n:=⟨n - i,by omega⟩;have mn:IntKind.i64.wrap ((n:Int) - (i:Int))=(A:Int):=by rw [show (n:Int) - (i:Int)=(A:Int) by omega]; exact IntWalk.i64_in _ (by omega)
     have h6:m=a+U.length:=HM.out;have kb:b=m+V.length:=HB.out;have g9:i - a≤U.length:=by omega
     have g8:d - i≤V.length:=by have:=b6.out; omega
     obtain ⟨ei,eg⟩:=Bc hW hU hV g9 g8 (fun x y hx hj hy=>by
         rcases HG.out with e | ⟨x',y',a1,a2,a3⟩
         · exfalso
           rcases b6.out with ⟨c1,c2,c3⟩ | ⟨c1,c2,c3⟩
           · omega
           · have:=(List.getElem?_eq_some_iff.1 hx).1; omega
         · rw [hx] at a1; cases a1
           rw [show d - i - 1=d - 1 - i by omega] at hy;rw [hy] at a2; cases a2;exact a3) (fun x y hi hx hy=>by
         rcases HL.out with e | ⟨x',y',a0,a1,a2,a3⟩
         · exfalso
           rcases b6.out with ⟨c1,c2,c3⟩ | ⟨c1,c2,c3⟩
           · have:=(List.getElem?_eq_some_iff.1 hy).1; omega
           · omega
         · rw [show i - 1 - a=i - a - 1 by omega,hx] at a1; cases a1
           rw [hy] at a2; cases a2
           exact a3)
     obtain ⟨U1,dk⟩ : ∃ l,l=U.take (i - a):=⟨_,rfl⟩;obtain ⟨I,dg⟩ : ∃ l,l=U.drop (i - a):=⟨_,rfl⟩;obtain ⟨V1,c9⟩ : ∃ l,l=V.take (d - i):=⟨_,rfl⟩;obtain ⟨Z,c8⟩ : ∃ l,l=V.drop (d - i):=⟨_,rfl⟩;have eU:U=U1 ++ I:=by rw [dk,dg,List.take_append_drop]
     have eV:V=V1 ++ Z:=by rw [c9,c8,List.take_append_drop]
     have gv:U1.length=i - a:=by rw [dk,List.length_take]; omega
     have cm:I.length=m - i:=by rw [dg,List.length_drop]; omega
     have gc:V1.length=d - i:=by rw [c9,List.length_take]; omega
     have ga:Z.length=b - A:=by rw [c8,List.length_drop]; omega
     rw [← dg,← c9] at ei;rw [← dk,← c8] at eg;clear dk dg c9 c8 HL HG hlt h9;have la:=zH ei;have k9:=zH eg;subst eU eV;have bg:=zH gv;have bc:=zH cm;have al:=zH gc;have dl:=zH ga
     have kE:((i:Int)<(m:Int))=(I≠[]):=by
      rw [eq_iff_iff];constructor
      · intro h e; rw [e] at cm; simp at cm; omega
      · intro h; have:=List.length_pos_iff.2 h; omega
     have m3:m≤A:=by omega
     have nz:d≤A:=by omega
     have nm:A≤b:=by omega
     have n6:a≤i:=by omega
     have bo:=zH el;clear kE ei eg gv cm gc ga h6 kb hZ el g9 g8;obtain ⟨q1,a5⟩ : ∃ q1:Bool,(q1=true↔i<m∧m<A):=⟨decide (i<m∧m<A),by simp⟩;go_upto_region 39 with fail
     go_cut [185] from 178 to 184 (fun x wx=>x = .bool q1∧wr=wx)
     case first =>
      by_cases b1:i<m
      · have d1:decide ((i:Int)<(m:Int))=true:=decide_eq_true (by omega)
        have b5:decide (i<m)=true:=decide_eq_true b1;have b4:(i:Int)<(m:Int):=by omega
        by_cases b2:m<A
        · have d2:decide ((m:Int)<(A:Int))=true:=decide_eq_true (by omega)
          have b3:decide (m<A)=true:=decide_eq_true b2;have b0:(m:Int)<(A:Int):=by omega
          obtain rfl:q1=true:=a5.2 ⟨b1,b2⟩;go_wp2
          go_meet
          case rel=>exact ⟨rfl,rfl⟩
        · have d2:decide ((m:Int)<(A:Int))=false:=decide_eq_false (by omega)
          have b3:decide (m<A)=false:=decide_eq_false b2;have b0 : ¬ (m:Int)<(A:Int):=by omega
          obtain rfl:q1=false:=by cases q1 with | false=>rfl | true=>exact absurd (a5.1 rfl).2 b2
          go_wp2
          go_meet
          case rel=>exact ⟨rfl,rfl⟩
      · have d1:decide ((i:Int)<(m:Int))=false:=decide_eq_false (by omega)
        have b5:decide (i<m)=false:=decide_eq_false b1;have b4 : ¬ (i:Int)<(m:Int):=by omega
        obtain rfl:q1=false:=by cases q1 with | false=>rfl | true=>exact absurd (a5.1 rfl).1 b1
        go_wp2
        go_meet
        case rel=>exact ⟨rfl,rfl⟩
     case rest =>
     obtain ⟨rfl,rfl⟩:=hcut;have e6:Hid (SF B g cap N w0 wr (P ++ (U1 ++ (I ++ (V1 ++ (Z ++ Q)))))):=by show SF _ _ _ _ _ _ _; have:=HR.out; simpa using this
     clear HR;go_upto_if 185 with fail
     go_cut [] from 186 to 191 (fun wx=>Hid (SF B g cap N w0 wx (P ++ (U1 ++ (V1 ++ (I ++ (Z ++ Q)))))))
     case first =>
      cases q1 with
      | true =>
       have O:=a5.1 rfl;have a6:I≠[]:=fun e=>by have:=bc.out; change _=_ at this; rw [e] at this; simp at this; omega
       have ag:V1≠[]:=fun e=>by have:=al.out; have h3:=bo.out; have J:=a7.out; change _=_ at this; change _=_ at h3; change _=_ at J; rw [e] at this; simp at this; omega
       have hc:=tK (.func (.func 49) #[] #[]) (P ++ U1) I V1 (Z ++ Q) (a:=i) (m:=m) (b:=A) hN (by have h1:=HA.out; have h2:=bg.out; change _=_ at h1; change _=_ at h2; rw [List.length_append]; omega) (by have h2:=bc.out; change _=_ at h2; omega) (by have h2:=al.out; have h3:=bo.out; have J:=a7.out; change _=_ at h2; change _=_ at h3; change _=_ at J; omega) a6 ag wr (by have:=e6.out; simpa using this);clear a6 ag a5;go_wp2_with fail
       refine hc.mono ?_
       rintro e w9 ⟨rfl,hs⟩;have bl:Hid (SF B g cap N w0 w9 (P ++ (U1 ++ (V1 ++ (I ++ (Z ++ Q)))))):=by show SF _ _ _ _ _ _ _; simpa using hs
       clear hs hc;go_wp2
       go_meet
       case rel=>exact bl
      | false =>
       have O:I=[]∨V1=[]:=by
        by_cases c:i<m
        · right
          refine List.eq_nil_of_length_eq_zero ?_
          have h1 : ¬ m<A:=fun h=>by have:=a5.2 ⟨c,h⟩; cases this
          have h2:=al.out; have h3:=bo.out; have J:=a7.out; change _=_ at h2; change _=_ at h3; change _=_ at J; omega
        · left
          refine List.eq_nil_of_length_eq_zero ?_
          have h2:=bc.out; change _=_ at h2; omega
       have bl:Hid (SF B g cap N w0 wr (P ++ (U1 ++ (V1 ++ (I ++ (Z ++ Q)))))):=by
        show SF _ _ _ _ _ _ _
        have:=e6.out
        rcases O with e | e
        · rw [e] at this ⊢; simpa using this
        · rw [e] at this ⊢; simpa using this
       clear O a5;go_wp2
       go_meet
       case rel=>exact bl
     case rest =>
     have dn:=hcut;clear hcut e6 a5;obtain ⟨w1,g1⟩ : ∃ W,W=wc:=⟨_,rfl⟩;rw [← g1] at dn;subst g1;obtain ⟨q2,a4⟩ : ∃ q2:Bool,(q2=true↔a<i∧i<d):=⟨decide (a<i∧i<d),by simp⟩;go_upto_region 41 with fail
     go_cut [199] from 192 to 198 (fun x wx=>x = .bool q2∧w1=wx)
     case first =>
      by_cases b1:a<i
      · have d1:decide ((a:Int)<(i:Int))=true:=decide_eq_true (by omega)
        have b5:decide (a<i)=true:=decide_eq_true b1;have b4:(a:Int)<(i:Int):=by omega
        by_cases b2:i<d
        · have d2:decide ((i:Int)<(d:Int))=true:=decide_eq_true (by omega)
          have b3:decide (i<d)=true:=decide_eq_true b2;have b0:(i:Int)<(d:Int):=by omega
          obtain rfl:q2=true:=a4.2 ⟨b1,b2⟩;go_wp2
          go_meet
          case rel=>exact ⟨rfl,rfl⟩
        · have d2:decide ((i:Int)<(d:Int))=false:=decide_eq_false (by omega)
          have b3:decide (i<d)=false:=decide_eq_false b2;have b0 : ¬ (i:Int)<(d:Int):=by omega
          obtain rfl:q2=false:=by cases q2 with | false=>rfl | true=>exact absurd (a4.1 rfl).2 b2
          go_wp2
          go_meet
          case rel=>exact ⟨rfl,rfl⟩
      · have d1:decide ((a:Int)<(i:Int))=false:=decide_eq_false (by omega)
        have b5:decide (a<i)=false:=decide_eq_false b1;have b4 : ¬ (a:Int)<(i:Int):=by omega
        obtain rfl:q2=false:=by cases q2 with | false=>rfl | true=>exact absurd (a4.1 rfl).1 b1
        go_wp2
        go_meet
        case rel=>exact ⟨rfl,rfl⟩
     case rest =>
     obtain ⟨rfl,rfl⟩:=hcut;go_upto_if 199 with fail
     go_cut [] from 200 to 205 (fun wx=>Hid (∃ M1,dL (dO D) M1∧aH (dO D) (U1 ++ V1) M1∧SF B g cap N w0 wx (P ++ (M1 ++ (I ++ (Z ++ Q))))))
     case first =>
      cases q2 with
      | true =>
       have O:=a4.1 rfl;have a6:U1≠[]:=fun e=>by have:=bg.out; change _=_ at this; rw [e] at this; simp at this; omega
       have ag:V1≠[]:=fun e=>by have:=al.out; change _=_ at this; rw [e] at this; simp at this; omega
       have hc:=HI.out P U1 V1 (I ++ (Z ++ Q)) a i d w1 (by
        have h1:=bg.out; have h2:=bc.out; have h3:=al.out; have J:=HM.out; have h5:=HB.out;change _=_ at h1; change _=_ at h2; change _=_ at h3; change _=_ at J; change _=_ at h5
        rw [List.length_append] at J h5 ⊢; rw [List.length_append]; omega) a6 ag HA.out (by have h1:=bg.out; change _=_ at h1; omega) (by have h1:=al.out; change _=_ at h1; omega) (fun x hx=>d8 x (List.mem_append_left _ hx)) (fun x hx=>d7 x (List.mem_append_left _ hx)) hU.left hV.left dn.out
       clear a6 ag a4;go_wp2_with fail
       refine hc.mono ?_
       rintro e w9 ⟨rfl,hs⟩;have bl:Hid (∃ M1,dL (dO D) M1∧aH (dO D) (U1 ++ V1) M1∧SF B g cap N w0 w9 (P ++ (M1 ++ (I ++ (Z ++ Q))))):=hs;clear hs hc;go_wp2
       go_meet
       case rel=>exact bl
      | false =>
       have O:U1=[]∨V1=[]:=by
        by_cases c:a<i
        · right
          refine List.eq_nil_of_length_eq_zero ?_
          have h1 : ¬ i<d:=fun h=>by have:=a4.2 ⟨c,h⟩; cases this
          have h2:=al.out; change _=_ at h2; omega
        · left
          refine List.eq_nil_of_length_eq_zero ?_
          have h2:=bg.out; change _=_ at h2; omega
       have bl:Hid (∃ M1,dL (dO D) M1∧aH (dO D) (U1 ++ V1) M1∧SF B g cap N w0 w1 (P ++ (M1 ++ (I ++ (Z ++ Q))))):=by
        refine ⟨U1 ++ V1,?_,aH.refl _,by have:=dn.out; simpa using this⟩
        rcases O with e | e
        · rw [e]; simpa using hV.left
        · rw [e]; simpa using hU.left
       clear O a4;go_wp2
       go_meet
       case rel=>exact bl
     case rest =>
     obtain ⟨M1,g4,em,g5⟩:=hcut.out
     have k2:Hid (M1.length=d - a):=by
      have h0:=(em.perm hW).length_eq;have h1:=bg.out; have h3:=al.out;change _=_ at h1; change _=_ at h3
      show _=_
      rw [← h0,List.length_append]; omega
     have e5:=zH g5;have k6:=zH g4;have lc:=zH em;clear hcut dn a4 g4 em g5;obtain ⟨w2,g0⟩ : ∃ W,W=wc:=⟨_,rfl⟩;rw [← g0] at e5;subst g0;obtain ⟨q3,bb⟩ : ∃ q3:Bool,(q3=true↔d<A∧A<b):=⟨decide (d<A∧A<b),by simp⟩;go_upto_region 43 with fail
     go_cut [213] from 206 to 212 (fun x wx=>x = .bool q3∧w2=wx)
     case first =>
      by_cases b1:d<A
      · have d1:decide ((d:Int)<(A:Int))=true:=decide_eq_true (by omega)
        have b5:decide (d<A)=true:=decide_eq_true b1;have b4:(d:Int)<(A:Int):=by omega
        by_cases b2:A<b
        · have d2:decide ((A:Int)<(b:Int))=true:=decide_eq_true (by omega)
          have b3:decide (A<b)=true:=decide_eq_true b2;have b0:(A:Int)<(b:Int):=by omega
          obtain rfl:q3=true:=bb.2 ⟨b1,b2⟩;go_wp2
          go_meet
          case rel=>exact ⟨rfl,rfl⟩
        · have d2:decide ((A:Int)<(b:Int))=false:=decide_eq_false (by omega)
          have b3:decide (A<b)=false:=decide_eq_false b2;have b0 : ¬ (A:Int)<(b:Int):=by omega
          obtain rfl:q3=false:=by cases q3 with | false=>rfl | true=>exact absurd (bb.1 rfl).2 b2
          go_wp2
          go_meet
          case rel=>exact ⟨rfl,rfl⟩
      · have d1:decide ((d:Int)<(A:Int))=false:=decide_eq_false (by omega)
        have b5:decide (d<A)=false:=decide_eq_false b1;have b4 : ¬ (d:Int)<(A:Int):=by omega
        obtain rfl:q3=false:=by cases q3 with | false=>rfl | true=>exact absurd (bb.1 rfl).1 b1
        go_wp2
        go_meet
        case rel=>exact ⟨rfl,rfl⟩
     case rest =>
     obtain ⟨rfl,rfl⟩:=hcut
     have co : ∀ (M2:List S) (W:World),dL (dO D) M2→aH (dO D) (I ++ Z) M2→SF B g cap N w0 W (P ++ (M1 ++ (M2 ++ Q)))→oN D B g cap N w0 P (U1 ++ I) (V1 ++ Z) Q (.returned (.tuple #[])) W:=fun M2 W s2 e2 hR=>by
      obtain ⟨j1,j2⟩:=sN hW hU hV la.out k9.out k6.out s2 lc.out e2;exact ⟨rfl,M1 ++ M2,j1,j2,by simpa using hR⟩
     have HJ:=zH co;clear co;cases q3 with
     | true =>
      have O:=bb.1 rfl;have a6:I≠[]:=fun e=>by have:=bc.out; have h3:=bo.out; have J:=a7.out; change _=_ at this; change _=_ at h3; change _=_ at J; rw [e] at this; simp at this; omega
      have ag:Z≠[]:=fun e=>by have:=dl.out; change _=_ at this; rw [e] at this; simp at this; omega
      have hc:=HI.out (P ++ M1) I Z Q d A b w2 (by
          have h1:=bg.out; have h2:=dl.out; have h3:=al.out; have J:=HM.out; have h5:=HB.out;change _=_ at h1; change _=_ at h2; change _=_ at h3; change _=_ at J; change _=_ at h5
          rw [List.length_append] at J h5 ⊢; rw [List.length_append]; omega) a6 ag (by have h1:=k2.out; have h2:=HA.out; change _=_ at h1; change _=_ at h2; rw [List.length_append]; omega) (by have h1:=bc.out; have h3:=bo.out; have J:=a7.out; change _=_ at h1; change _=_ at h3; change _=_ at J; omega) (by have h1:=dl.out; change _=_ at h1; omega) (fun x hx=>d8 x (List.mem_append_right _ hx)) (fun x hx=>d7 x (List.mem_append_right _ hx)) hU.right hV.right (by have:=e5.out; simpa using this)
      clear a6 ag bb;go_wp2_with fail
      refine hc.mono ?_
      rintro e w9 ⟨rfl,M2,s2,e2,r2⟩;have HZ:=zH (HJ.out M2 w9 s2 e2 (by simpa using r2));clear hc s2 e2 r2;go_wp2
      go_end0
      exact HZ.out
     | false =>
      have O:I=[]∨Z=[]:=by
       by_cases c:d<A
       · right
         refine List.eq_nil_of_length_eq_zero ?_
         have h1 : ¬ A<b:=fun h=>by have:=bb.2 ⟨c,h⟩; cases this
         have h2:=dl.out; change _=_ at h2; omega
       · left
         refine List.eq_nil_of_length_eq_zero ?_
         have h2:=bc.out; have h3:=bo.out; have J:=a7.out; change _=_ at h2; change _=_ at h3; change _=_ at J; omega
      have HZ:=zH (HJ.out (I ++ Z) w2 (by
       rcases O with e | e
       · rw [e]; simpa using hV.right
       · rw [e]; simpa using hU.right) (aH.refl _) (by have:=e5.out; simpa using this))
      clear O bb;go_wp2
      go_end0
      exact HZ.out
theorem uO {B g cap N:Nat} {w0:World} {cf:S→S→Int} (O:mL cf) (I:eG (dO cf)) (J:N≤1000000) : ∀ k,zw cf B g cap N w0 k
 | 0=>fun P U V Q a m b w hk Z _=>absurd (List.eq_nil_of_length_eq_zero (by omega)) Z
 | k+1=>fun P U V Q a m b w hk Z hv ha hm hb D A hU hV h=>by
  by_cases h1:U.length=1
  · obtain ⟨x,rfl⟩:=List.length_eq_one_iff.1 h1
    exact rQ O I P x V Q J ha hm hb (D x List.mem_cons_self) A hV w (by simpa using h)
  · by_cases h2:V.length=1
    · obtain ⟨x,rfl⟩:=List.length_eq_one_iff.1 h2
      exact qF O I P U x Q J ha hm hb h1 (A x List.mem_cons_self) D hU w (by simpa using h)
    · have a1:=List.length_pos_iff.2 Z
      have a2:=List.length_pos_iff.2 hv;refine rR O I P U V Q J ha hm hb (by omega) (by omega) D A hU hV (fun P' U' V' Q' a' m' b' w' a6=>uO O I J k P' U' V' Q' a' m' b' w' (by omega)) w h
theorem aH.small {A:S→S→Int} (I:eG (dO A)) {l m:List S} (h:aH (dO A) l m) (D:ci l):ci m:=fun x hx=>D x (h.symm.mem I hx)
theorem ci.left {a b:List S} (h:ci (a ++ b)):ci a:=fun x hx=>h x (List.mem_append_left _ hx)
theorem ci.right {a b:List S} (h:ci (a ++ b)):ci b:=fun x hx=>h x (List.mem_append_right _ hx)
theorem tH {B g cap N:Nat} {w0:World} {J:S→S→Int} (hC:mL J) (hW:eG (dO J)) (l0:List S) (hN:N≤1000000) (b3:ci l0) (w:World) (h:SF B g cap N w0 w l0) :
    Calls Tryz.prog 77 #[.slice (some ⟨g,0,none⟩) N cap,.int .i64 N,fo] w fun e w'=>e = .returned (.tuple #[]) ∧ ∃ M,dL (dO J) M∧aH (dO J) l0 M∧SF B g cap N w0 w' M:=by
 have HS:=zH h;have bg:=zH b3;have HC:=zH hC;have HY:Hid (∀ k,zw J B g cap N w0 k):=uO hC hW hN;clear h b3 hC;go_enter Tryz.func77,Tryz.ntmps77
 unfold fo;go_wp2
 go_loopw [7,8] (fun va vb wr=>∃ (a:Nat) (P R:List S),va = .int .i64 a∧vb = .int .i64 ((a:Int)+20)∧a≤N∧Hid (a=P.length)∧Hid (uG (dO J) 20 P)∧Hid (aH (dO J) l0 (P ++ R))∧Hid (SF B g cap N w0 wr (P ++ R))) (fun va _ _=>N - (intOf va).toNat)
 case atStart=>exact ⟨0,[],l0,rfl,rfl,Nat.zero_le _,rfl,.nil,aH.refl _,HS⟩
 case round =>
  clear HS;obtain ⟨a,P,R,rfl,rfl,b5,HA,HF,HE,Z⟩:=hrel
  have HL:Hid (a+R.length=N):=by
   have h1:=Z.out.len; have h2:=HA.out; change _=_ at h2;rw [List.length_append] at h1; show _=_; omega
  by_cases hb:a+20≤N
  · have d1:(a:Int)+20≤(N:Int):=by omega
    obtain ⟨X,R',rfl,hX⟩:=rc (l:=R) (k:=20) (by have:=HL.out; change _=_ at this; omega);have I:=og (a:=a) (b:=a+20) HC.out hW P X R' hN HA.out (by omega) (HE.out.small hW bg.out).right.left wr Z.out;rw [show ((a+20:Nat):Int)=(a:Int)+20 by omega] at I;have HX:=zH hX;have wa:IntKind.i64.wrap ((a:Int)+20+20)=(a:Int)+20+20:=IntWalk.i64_in _ (by omega);clear hX;unfold fo at I;go_wp2_with fail
    refine I.mono ?_
    rintro e w1 ⟨rfl,M,U,D,O⟩;have b0:=zH U;have ba:=zH D;have ad:=zH O;clear U D O I Z;go_wp2
    go_roundw
    case rel =>
     have a6:M.length=20:=(ba.out.perm hW).length_eq.symm.trans HX.out;refine ⟨a+20,P ++ M,R',by first | rfl | go_num,by first | rfl | go_num,hb,?_,.snoc _ _ HF.out a6 b0.out,?_,?_⟩
     · show _=_; rw [List.length_append,a6,← show a=_ from HA.out]
     · refine aH.trans HE.out ?_
       rw [List.append_assoc];exact (aH.refl P).app (ba.out.app (aH.refl R'))
     · show SF _ _ _ _ _ _ _; have:=ad.out; simpa using this
    case measure=>simp [intOf]; omega
  · have d1 : ¬ (a:Int)+20≤(N:Int):=by omega
    have I:=og (a:=a) (b:=N) HC.out hW P R [] hN HA.out HL.out.symm (HE.out.small hW bg.out).right wr (by have:=Z.out; simpa using this);unfold fo at I;have b6:Hid (N<a+20):=by show _<_; omega
    clear hb;go_wp2_with fail
    refine I.mono ?_
    rintro e w1 ⟨rfl,M,U,D,O⟩;have ad:Hid (SF B g cap N w0 w1 (P ++ M)):=by show SF _ _ _ _ _ _ _; simpa using O
    have A:Hid (ez (dO J) 20 (P ++ M)):=HF.out.chunks (.last _ (by
     have h0:=(D.perm hW).length_eq;have h1:=HL.out; have h2:=b6.out;change _=_ at h1; change _<_ at h2
     omega) U)
    have bl:Hid (aH (dO J) l0 (P ++ M)):=aH.trans HE.out ((aH.refl P).app D);clear U D O I Z HE HF HA HL b6 b5;generalize P ++ M=l1 at *;clear d1;go_wp2
    go_loopw [6] (fun vs wr=>∃ (s:Nat) (l:List S),vs = .int .i64 s∧20≤s∧s≤2000000∧Hid (ez (dO J) s l)∧Hid (aH (dO J) l0 l)∧Hid (SF B g cap N w0 wr l)) (fun vs _=>N - (intOf vs).toNat)
    case atStart=>exact ⟨20,l1,rfl,Nat.le_refl _,by omega,A,bl,ad⟩
    case round =>
     clear A bl ad;obtain ⟨s,l,rfl,hs,d8,A,HE,Z⟩:=hrel;by_cases d7:s<N
     · have d1:(s:Int)<(N:Int):=by omega
       have ws:IntKind.i64.wrap (2*(s:Int))=2*(s:Int):=IntWalk.i64_in _ (by omega);have d4:IntKind.i64.wrap ((s:Int)*2)=(s:Int)*2:=IntWalk.i64_in _ (by omega);go_wp2
       go_loopw [7,8] (fun va vb wr=>∃ (a:Nat) (P R:List S),va = .int .i64 a∧vb = .int .i64 ((a:Int)+2*(s:Int))∧a≤N∧Hid (a=P.length)∧Hid (uG (dO J) (2*s) P)∧Hid (ez (dO J) s R)∧Hid (aH (dO J) l0 (P ++ R))∧Hid (SF B g cap N w0 wr (P ++ R))) (fun va _ _=>N - (intOf va).toNat)
       case atStart=>exact ⟨0,[],l,rfl,by simp,Nat.zero_le _,rfl,.nil,A,HE,Z⟩
       case round =>
        clear A HE Z;obtain ⟨a,P,R,rfl,rfl,b5,HA,HF,A,HE,Z⟩:=hrel
        have HL:Hid (a+R.length=N):=by
         have h1:=Z.out.len; have h2:=HA.out; change _=_ at h2;rw [List.length_append] at h1; show _=_; omega
        have d5:IntKind.i64.wrap ((a:Int)+(s:Int))=(a:Int)+(s:Int):=IntWalk.i64_in _ (by omega);have d6:IntKind.i64.wrap ((a:Int)+2*(s:Int)+2*(s:Int))=(a:Int)+2*(s:Int)+2*(s:Int):=IntWalk.i64_in _ (by omega);by_cases hb:a+2*s≤N
        · have d2:(a:Int)+2*(s:Int)≤(N:Int):=by omega
          obtain ⟨X,R1,rfl,hX,a9,a7⟩:=A.out.first (by have:=HL.out; change _=_ at this; omega);obtain ⟨Y,R',rfl,hY,a8,b4⟩:=a7.first (by have:=HL.out; change _=_ at this; rw [List.length_append] at this; omega);have ah:=HE.out.small hW bg.out;have I:=HY.out (s+s) P X Y R' a (a+s) (a+2*s) wr (by omega) (fun e=>by rw [e] at hX; simp at hX; omega) (fun e=>by rw [e] at hY; simp at hY; omega) HA.out (by omega) (by omega) ah.right.left ah.right.right.left a9 a8 Z.out;rw [show ((a+s:Nat):Int)=(a:Int)+(s:Int) by omega,show ((a+2*s:Nat):Int)=(a:Int)+2*(s:Int) by omega] at I;have dg:=zH b4;have bv:Hid (X.length+Y.length=2*s):=by show _=_; omega
          clear hX a9 a7 hY a8 b4 ah A;unfold fo at I;go_wp2_with fail
          refine I.mono ?_
          rintro e w2 ⟨rfl,M,U,D,O⟩;have b0:=zH U;have ba:=zH D;have ad:=zH O;clear U D O I Z;go_wp2
          go_roundw
          case rel =>
           have a6:M.length=2*s:=(ba.out.perm hW).length_eq.symm.trans (by rw [List.length_append]; exact bv.out);refine ⟨a+2*s,P ++ M,R',by first | rfl | go_num,by first | rfl | go_num,hb,?_,.snoc _ _ HF.out a6 b0.out,dg,?_,?_⟩
           · show _=_; rw [List.length_append,a6,← show a=_ from HA.out]
           · refine aH.trans HE.out ?_
             have:=(aH.refl (lt:=dO J) P).app (ba.out.app (aH.refl R'))
             simpa using this
           · show SF _ _ _ _ _ _ _; have:=ad.out; simpa using this
          case measure=>simp [intOf]; omega
        · have d2 : ¬ (a:Int)+2*(s:Int)≤(N:Int):=by omega
          by_cases hm:a+s<N
          · have d3:(a:Int)+(s:Int)<(N:Int):=by omega
            obtain ⟨X,Y,rfl,hX,a9,a7⟩:=A.out.first (by have:=HL.out; change _=_ at this; omega);have bo:a+(X.length+Y.length)=N:=by have:=HL.out; change _=_ at this; rw [List.length_append] at this; exact this
            have a8:=a7.whole (by omega);have ah:=HE.out.small hW bg.out;have I:=HY.out (s+s) P X Y [] a (a+s) N wr (by omega) (fun e=>by rw [e] at hX; simp at hX; omega) (fun e=>by rw [e] at bo; simp at bo; omega) HA.out (by omega) (by omega) ah.right.left ah.right.right a9 a8 (by have:=Z.out; simpa using this);rw [show ((a+s:Nat):Int)=(a:Int)+(s:Int) by omega] at I;have bv:Hid (X.length+Y.length≤2*s):=by show _≤_; omega
            clear hX a9 a7 bo a8 ah A;unfold fo at I;go_wp2_with fail
            refine I.mono ?_
            rintro e w2 ⟨rfl,M,U,D,O⟩;have ad:Hid (SF B g cap N w0 w2 (P ++ M)):=by show SF _ _ _ _ _ _ _; simpa using O
            have A:Hid (ez (dO J) (2*s) (P ++ M)):=HF.out.chunks (.last _ (by
             have h0:=(D.perm hW).length_eq;rw [List.length_append] at h0;have h1:=bv.out;change _≤_ at h1
             omega) U)
            have bl:Hid (aH (dO J) l0 (P ++ M)):=aH.trans HE.out ((aH.refl P).app D);clear U D O I Z HE HF HA HL;go_wp2
            go_roundw
            case rel=>exact ⟨2*s,P ++ M,by first | rfl | go_num | (congr 1; omega),by omega,by omega,A,bl,ad⟩
            case measure=>simp [intOf]; omega
          · have d3 : ¬ (a:Int)+(s:Int)<(N:Int):=by omega
            have cT:Hid (ez (dO J) (2*s) (P ++ R)):=HF.out.chunks (.last _ (by have:=HL.out; change _=_ at this; omega) (A.out.whole (by have:=HL.out; change _=_ at this; omega)));clear HF HA HL A;go_wp2
            go_roundw
            case rel=>exact ⟨2*s,P ++ R,by first | rfl | go_num | (congr 1; omega),by omega,by omega,cT,HE,Z⟩
            case measure=>simp [intOf]; omega
     · have d1 : ¬ (s:Int)<(N:Int):=by omega
       go_wp2
       go_end0
       exact ⟨rfl,l,A.out.whole (by have:=Z.out.len; omega),HE.out,Z.out⟩
theorem nB {B g cap N:Nat} {w0:World} {D:S→S→Int} (J:mL D) (O:eG (dO D)) (A:List S) (U:N≤1000000) (I:ci A) (w:World) (h:SF B g cap N w0 w A) :
    Calls Tryz.prog 48 #[.slice (some ⟨g,0,none⟩) N cap,fo] w fun e w'=>e = .returned (.tuple #[]) ∧ ∃ M,dL (dO D) M∧aH (dO D) A M∧SF B g cap N w0 w' M:=by
 have Z:=zH (tH J O A U I w h);clear h I J;unfold fo at *;go_enter Tryz.func48,Tryz.ntmps48
 go_wp2_with fail
 refine Z.out.mono ?_
 rintro e w1 ⟨rfl,h1⟩;go_wp2
 go_end0
 exact ⟨rfl,h1⟩
theorem ze:mL lJ:=fun a b W ha A=>rj a b W ha A
theorem vN (l:List S):l.flatMap gq=l.map Value.string:=by
 induction l with
 | nil=>rfl
 | cons x l A=>rw [List.flatMap_cons,A]; rfl
theorem ud (ao:Option Addr) (c:Nat) (w:World):Calls Tryz.prog 108 #[.slice ao 0 c,.int .i64 0,.int .i64 0,fo] w fun e w'=>e = .returned (.tuple #[])∧w=w':=by
 unfold fo;go_enter Tryz.func108,Tryz.ntmps108
 go_wp2
 refine wp_loop_rounds 1 ?_
 rw [rounds_succ];go_wp2
 go_end0
 exact ⟨rfl,rfl⟩
theorem tG (ao:Option Addr) (c:Nat) (w:World):Calls Tryz.prog 48 #[.slice ao 0 c,fo] w fun e w'=>e = .returned (.tuple #[])∧w=w':=by
 have A:Calls Tryz.prog 77 #[.slice ao 0 c,.int .i64 0,fo] w fun e w'=>e = .returned (.tuple #[])∧w=w':=by
  have h1:=ud ao c w;unfold fo at *;go_enter Tryz.func77,Tryz.ntmps77
  go_wp2
  refine wp_loop_rounds 1 ?_
  rw [rounds_succ];go_wp2_with fail
  refine h1.mono ?_
  rintro e w1 ⟨rfl,rfl⟩;go_wp2
  refine wp_loop_rounds 1 ?_
  rw [rounds_succ];go_wp2
  go_end0
  exact ⟨rfl,rfl⟩
 unfold fo at *;go_enter Tryz.func48,Tryz.ntmps48
 go_wp2_with fail
 refine A.mono ?_
 rintro e w1 ⟨rfl,rfl⟩;go_wp2
 go_end0
 exact ⟨rfl,rfl⟩
theorem xk {w:World} {v:Value} {l:List S} (h:af 1 gq w v l) (O:l.length≤1000000):Calls Tryz.prog 47 #[v] w fun e w'=>∃ A,e = .returned A∧aj w.heap.size 9 1 gq w' A l∧Below w.heap.size w w':=by
 obtain ⟨ao,cap,rfl,h2,hm,h3,D⟩:=h;cases l with
 | nil =>
  cases ao with
  | none=>exact (Tryz.slices_Clone_string_nil 0 cap w).mono fun e w' ⟨h1,h2⟩=>by subst h2; exact ⟨_,h1,aj.nil,Below.refl _ _⟩
  | some a=>exact (Tryz.slices_Clone_string_zero a cap w).mono fun e w' ⟨A,h1,h2,_,D⟩=>⟨A,h1,h2,D⟩
 | cons x r =>
  obtain ⟨b,o,rfl,Z,U⟩:=D 0 x rfl;refine (Tryz.slices_Clone_string b o (x::r).length cap (x::r) w (Nat.le_refl _) (by omega) fun j I=>?_).mono fun e w' ⟨A,h1,h2,_,D⟩=>⟨A,h1,?_,D⟩
  · obtain ⟨b',o',e,_,J⟩:=D j (x::r)[j] (List.getElem?_eq_getElem I)
    cases e
    have:=J 0 _ rfl
    rw [Nat.mul_one,Nat.add_zero] at this;rw [this,List.getD_eq_getElem?_getD,List.getElem?_eq_getElem I]; rfl
  · unfold aj
    rw [List.take_length] at h2;rw [vN]; exact h2
theorem xW {w:World} {v:Value} {l:List S} (h:af 1 gq w v l) (hl:l.length≤1000000) (Z:ci l):Calls Tryz.prog 28 #[v] w fun e w'=>∃ I M,e = .returned I∧aj w.heap.size 9 1 gq w' I M∧dL lW M∧aH lW l M∧Below w.heap.size w w':=by
 have HC:=zH (xk h hl);have HS:=zH Z;clear h Z;go_enter Tryz.func28,Tryz.ntmps28
 go_wp2_with fail
 refine HC.out.mono ?_
 rintro e w1 ⟨I,rfl,J,hB⟩;have D:=zH J;have O:=zH hB;obtain ⟨ao,c,rfl⟩:=J.shape;clear J hB HC;by_cases h0:l=[]
 · subst h0
   have A:=tG ao c w1;unfold fo at A;go_wp2_with fail
   refine A.mono ?_
   rintro e w2 ⟨rfl,rfl⟩;go_wp2
   go_ret
   exact ⟨_,[],rfl,D.out,mV,aH.refl _,O.out⟩
 · obtain ⟨g,cap,hg⟩ : ∃ g cap,(Value.slice ao l.length c) = .slice (some ⟨g,0,none⟩) l.length cap:=by
    rcases D.out.2 with ⟨e,h1⟩ | ⟨g,cap,a5,e,h1⟩
    · exact absurd (List.eq_nil_of_length_eq_zero h1) h0
    · exact ⟨g,cap,e⟩
   cases hg
   have HG:=zH (D.out.lt g rfl);have A:=nB (w0:=w1) ze wF l hl HS.out w1 ⟨rfl,D.out,World.grownBy.refl _ _⟩;unfold fo at A;clear h0;generalize hn:l.length=n at *;have HN:=zH hn;clear hn;go_wp2_with fail
   refine A.mono ?_
   rintro e w2 ⟨rfl,M,h1,h2,h3⟩;have H1:=zH h1;have H2:=zH h2;have U:=zH h3;clear h1 h2 h3 A;go_wp2
   go_ret
   have h3:=U.out.own;rw [U.out.len] at h3;refine ⟨_,M,rfl,?_,H1.out,H2.out,?_⟩
   · exact h3
   · exact O.out.grown U.out.grown O.out.size (fun j hj=>by cases hj; exact HG.out.1)
def zy:Prop:=∀ (a b:S) (W:World),a.size≤900000→b.size≤900000→Calls Tryz.prog 18 #[.string a,.string b] W fun e w'=>e = .returned (.int .i64 (lJ a b))∧Below W.heap.size W w'
theorem sc (A:gk):zy:=fun a b W ha D=>nD A a b W ha D
theorem gF (a b:S):dD a b = -1∨dD a b=0∨dD a b=1:=gf _ _
theorem Cg : ∀ l m:Bs,Op.bytesLess l m=decide (Lib.compareBytes l m = -1)
 | [],[]=>rfl
 | [],_::_=>rfl
 | _::_,[]=>rfl
 | x::l,y::m=>by
  simp only [Op.bytesLess,Lib.compareBytes];by_cases h1:x<y
  · simp [h1]
  · by_cases h2:y<x
    · have h3 : ¬ x=y:=by intro e; subst e; exact h1 h2
      simp [h1,h2,h3]
    · have:x=y:=by rw [UInt8.lt_iff_toNat_lt] at h1 h2; exact UInt8.toNat_inj.1 (by omega)
      subst this;simp [Cg l m]
theorem Ci (a b:S):Op.bytesLess a.toList b.toList=decide (dD a b = -1):=by rw [ByteArray.toList_eq,ByteArray.toList_eq]; exact Cg _ _
theorem Ch (a b:S):(a.toList == b.toList)=decide (dD a b=0):=by
 rw [ByteArray.toList_eq,ByteArray.toList_eq,Bool.eq_iff_iff,beq_iff_eq,decide_eq_true_iff];constructor
 · intro h; unfold dD; rw [h]; exact ip _
 · intro h; rw [iI.1 h]
theorem zu (a5:gk) (a b:bp) (w:World) (ha:a.version.size≤900000) (hb:b.version.size≤900000):Calls Tryz.prog 27 #[.agg #[.string a.group,.string a.artifact,.string a.version],.agg #[.string b.group,.string b.artifact,.string b.version]] w fun e w'=>e = .returned (.bool (jd b a))∧Below w.heap.size w w':=by
 have HC:Hid (∀ W,Calls Tryz.prog 18 #[.string a.version,.string b.version] W fun e w'=>e = .returned (.int .i64 (lJ a.version b.version))∧Below W.heap.size W w'):=fun W=>sc a5 a.version b.version W ha hb
 have A:Hid (jd b a=if dD a.group b.group=0 then (if dD a.artifact b.artifact=0 then decide (0<lJ a.version b.version) else decide (dD a.artifact b.artifact=1)) else decide (dD a.group b.group=1)):=by
  show _=_
  have e:jd b a=decide (0<rn a b):=by
   unfold jd;have h:=jV.flip a b;rw [decide_eq_decide]; omega
  rw [e];have r1:=gF a.group b.group;have r2:=gF a.artifact b.artifact;unfold rn mQ;by_cases h1:dD a.group b.group=0
  · rw [if_pos h1]
    simp only [h1,ne_eq,not_true_eq_false,if_false];by_cases h2:dD a.artifact b.artifact=0
    · rw [if_pos h2]
      simp only [h2,not_true_eq_false,if_false]
    · rw [if_neg h2]
      simp only [h2,not_false_eq_true,if_true];rw [decide_eq_decide]; omega
  · rw [if_neg h1]
    simp only [h1,ne_eq,not_false_eq_true,if_true];rw [decide_eq_decide]; omega
 clear ha hb a5;obtain ⟨O,U,av⟩:=a;obtain ⟨I,J,bv⟩:=b;simp only at HC A ⊢;have g1:=Ch O I;have g2:=Ci O I;have g3:=Ch U J;have g4:=Ci U J;have r1:=gF O I;have r2:=gF U J;generalize jd ⟨I,J,bv⟩ ⟨O,U,av⟩=L at *;generalize dD O I=c1 at *;generalize dD U J=c2 at *;generalize lJ av bv=c3 at *;go_enter Tryz.func27,Tryz.ntmps27
 go_upto_region 1 with fail
 refine ai fun W hW=>?_
 have x1:ak W w.heap.size [.string O,.string U,.string av]:=by rw [hW]; exact (ak.new w [.string O,.string U,.string av] _ _ rfl).alloc _
 have y1:ak W (w.heap.size+1) [.string I,.string J,.string bv]:=by rw [hW]; exact ak.new _ [.string I,.string J,.string bv] _ _ (by simp)
 have hb:Below w.heap.size w W:=by rw [hW]; exact ((Below.refl _ w).alloc (Nat.le_refl _) _).alloc (by simp) _
 clear hW;have Z:=zH hb;obtain ⟨x0,x2,x3⟩:=ej x1;have xl:=x1.lt;obtain ⟨y0,y2,y3⟩:=ej y1;have yl:=y1.lt;clear x1 y1 hb;rcases r1 with rfl | rfl | rfl
 · have D:Hid (L=false):=by show _=_; rw [A.out,if_neg (by decide)]; rfl
   rw [show decide ((-1:Int)=0)=false from rfl] at g1;rw [show decide ((-1:Int) = -1)=true from rfl] at g2;clear A g3 g4 r2;go_wp2
   go_ret
   exact ⟨by rw [D.out]; rfl,Z.out⟩
 · rw [show decide ((0:Int)=0)=true from rfl] at g1
   clear g2;rcases r2 with rfl | rfl | rfl
   · have D:Hid (L=false):=by show _=_; rw [A.out,if_pos rfl,if_neg (by decide)]; rfl
     rw [show decide ((-1:Int)=0)=false from rfl] at g3;rw [show decide ((-1:Int) = -1)=true from rfl] at g4;clear A;go_wp2
     go_ret
     exact ⟨by rw [D.out]; rfl,Z.out⟩
   · rw [show decide ((0:Int)=0)=true from rfl] at g3
     have D:Hid (L=decide (0<c3)):=by show _=_; rw [A.out,if_pos rfl,if_pos rfl]
     clear A g4;go_wp2_with fail
     refine (HC.out _).mono ?_
     rintro e w1 ⟨rfl,a4⟩;have bb:=zH (Z.out.trans (a4.mono Z.out.size));clear a4;go_wp2
     go_ret
     exact ⟨by rw [D.out]; rfl,bb.out⟩
   · have D:Hid (L=true):=by show _=_; rw [A.out,if_pos rfl,if_neg (by decide)]; rfl
     rw [show decide ((1:Int)=0)=false from rfl] at g3;rw [show decide ((1:Int) = -1)=false from rfl] at g4;clear A;go_wp2
     go_ret
     exact ⟨by rw [D.out]; rfl,Z.out⟩
 · have D:Hid (L=true):=by show _=_; rw [A.out,if_neg (by decide)]; rfl
   rw [show decide ((1:Int)=0)=false from rfl] at g1;rw [show decide ((1:Int) = -1)=false from rfl] at g2;clear A g3 g4 r2;go_wp2
   go_ret
   exact ⟨by rw [D.out]; rfl,Z.out⟩
theorem yO:Tryz.prog.stoodInHeld 26=false:=by kernel_rfl
theorem yQ (I a1 a2 D b1 A:S) (w:World):(binOp .eql 26 (.agg #[.string I,.string a1,.string a2]) (.agg #[.string D,.string b1,.string A])).run Tryz.prog w = .ok (.bool (decide ((⟨I,a1,a2⟩:bp)=⟨D,b1,A⟩))) w:=by
 have h:=yO;by_cases h0:I=D <;> by_cases h1:a1=b1 <;> by_cases h2:a2=A <;> simp [go_sem,h,h0,h1,h2,jn]
theorem af.atG {w:World} {ao:Option Addr} {len cap:Nat} {l:List bp} (h:af 3 gu w (.slice ao len cap) l) {k:Nat} (hk:k<l.length) :
    ∃ b o,ao=some ⟨b,o,none⟩∧b<w.heap.size∧w.cell? ⟨b,o+k*3,none⟩=some (.string l[k].group)∧w.cell? ⟨b,o+k*3+1,none⟩=some (.string l[k].artifact)∧w.cell? ⟨b,o+k*3+2,none⟩=some (.string l[k].version):=by
 obtain ⟨J,I,h1,h2,hm,h3,D⟩:=h;cases h1
 obtain ⟨b,o,e,hlt,A⟩:=D k l[k] (List.getElem?_eq_getElem hk);exact ⟨b,o,e,hlt,A 0 _ rfl,A 1 _ rfl,A 2 _ rfl⟩
theorem Bu (g:bp) (b:Nat) (vg vt vr va:Value) (gs:List bp) (w:World) (hx:ak w b [vg,vt,vr,va]) (hs:af 3 gu w vg gs) (hl:gs.length≤1000000) :
    Calls Tryz.prog 10 #[.pointer (some ⟨b,0,none⟩),.agg #[.string g.group,.string g.artifact,.string g.version]] w fun e w'=>∃ i:Int,e = .returned (.int .i64 i)∧(0≤i↔g ∈ gs)∧Below w.heap.size w w':=by
 obtain ⟨ao,c,rfl⟩:=hs.shape;have HL:=zH hl;have HS:=zH hs;have HX:=zH hx;clear hl hs hx;obtain ⟨gg,D,A⟩:=g;simp only;go_enter Tryz.func10,Tryz.ntmps10
 go_upto_region 1 with fail
 refine ai fun W I=>?_
 have y1:ak W w.heap.size [.string gg,.string D,.string A]:=by rw [I]; exact ak.new w [.string gg,.string D,.string A] _ _ rfl
 have hb:Below w.heap.size w W:=by rw [I]; exact (Below.refl _ w).alloc (Nat.le_refl _) _
 clear I;have HY:=zH y1;have HB:=zH hb;have ad:=zH (HX.out.below hb HX.out.lt);have b3:=zH (HS.out.below hb);clear y1 hb HX HS;have x0:=ad.out.cell 0 _ rfl;have xl:=ad.out.lt;go_upto_region 2 with fail
 clear x0 xl ad;go_loopw [12] (fun i wr=>∃ k:Nat,i = .int .i64 k∧k≤gs.length∧Hid (Below W.heap.size W wr)∧Hid ((⟨gg,D,A⟩:bp) ∈ gs↔(⟨gg,D,A⟩:bp) ∈ gs.drop k)) (fun i _=>gs.length - (intOf i).toNat)
 case atStart=>exact ⟨0,rfl,Nat.zero_le _,Below.refl _ _,Iff.rfl⟩
 case round =>
  obtain ⟨k,rfl,hk,HW,HM⟩:=hrel;by_cases hlt:k<gs.length
  · obtain ⟨b1,o1,bv,bo,c0,c1,c2⟩:=(b3.out.below HW.out).atG hlt
    cases bv
    have d1:(k:Int)<(gs.length:Int):=by omega
    have wk:IntKind.i64.wrap ((k:Int)+1)=(k:Int)+1:=IntWalk.i64_in _ (by have:=HL.out; omega)
    have HD:Hid ((⟨gg,D,A⟩:bp) ∈ gs↔gs[k]=⟨gg,D,A⟩∨(⟨gg,D,A⟩:bp) ∈ gs.drop (k+1)):=by
     show _↔_
     rw [HM.out,List.drop_eq_getElem_cons hlt,List.mem_cons];exact or_congr eq_comm Iff.rfl
    have a6:Hid (k+1≤gs.length):=hlt;generalize gs[k]=y at *;clear HM hlt;obtain ⟨O,U,J⟩:=y;simp only at c0 c1 c2;have ac:=zH (HY.out.below HW.out HY.out.lt);go_upto_region 4 with fail
    refine ai fun W1 I=>?_
    have z1:ak W1 wr.heap.size [.string O,.string U,.string J]:=by rw [I]; exact ak.new wr [.string O,.string U,.string J] _ _ rfl
    have aa:Below wr.heap.size wr W1:=by rw [I]; exact (Below.refl _ wr).alloc (Nat.le_refl _) _
    clear I c0 c1 c2 bo;have a5:=zH (HW.out.trans (aa.mono HW.out.size));have y2:=ac.out.below aa ac.out.lt;obtain ⟨y0,y1,y3⟩:=ej y2;have yl:=y2.lt;obtain ⟨z0,z2,z3⟩:=ej z1;have zl:=z1.lt;clear y2 z1 aa ac;have he:=yQ O U J gg D A;by_cases Z:(⟨O,U,J⟩:bp)=⟨gg,D,A⟩
    · have bl : ∀ w,(binOp .eql 26 (.agg #[.string O,.string U,.string J]) (.agg #[.string gg,.string D,.string A])).run Tryz.prog w = .ok (.bool true) w:=fun w=>by rw [he w,decide_eq_true Z]
      clear he;have b5:Hid ((⟨gg,D,A⟩:bp) ∈ gs):=HD.out.2 (.inl Z);clear Z HD;go_wp2
      go_ret
      exact ⟨k,rfl,⟨fun _=>b5.out,fun _=>by omega⟩,HB.out.trans (a5.out.mono HB.out.size)⟩
    · have bl : ∀ w,(binOp .eql 26 (.agg #[.string O,.string U,.string J]) (.agg #[.string gg,.string D,.string A])).run Tryz.prog w = .ok (.bool false) w:=fun w=>by rw [he w,decide_eq_false Z]
      clear he
      have HN:Hid ((⟨gg,D,A⟩:bp) ∈ gs↔(⟨gg,D,A⟩:bp) ∈ gs.drop (k+1)):=by
       show _↔_
       rw [HD.out];exact ⟨fun h=>h.resolve_left Z,.inr⟩
      clear Z HD;go_wp2
      go_roundw
      case rel=>exact ⟨k+1,by first | rfl | go_num,a6.out,a5,HN⟩
      case measure=>simp [intOf]; have:=a6.out; omega
  · obtain rfl:k=gs.length:=by omega
    have d1 : ¬ (gs.length:Int)<(gs.length:Int):=by omega
    have HN:Hid (¬ (⟨gg,D,A⟩:bp) ∈ gs):=by show ¬ _; rw [HM.out,List.drop_length]; exact List.not_mem_nil
    clear HM;go_wp2
    go_ret
    exact ⟨-1,rfl,⟨fun h=>absurd h (by decide),fun h=>absurd h HN.out⟩,HB.out.trans (HW.out.mono HB.out.size)⟩
theorem vu (a b:S):(a.toList == b.toList)=decide (a=b):=by
 rw [Bool.eq_iff_iff,beq_iff_eq,decide_eq_true_iff,ByteArray.toList_eq,ByteArray.toList_eq];constructor
 · intro h
   obtain ⟨⟨x⟩⟩:=a;obtain ⟨⟨y⟩⟩:=b;simpa using h
 · rintro rfl; rfl
theorem Aa:Tryz.prog.stoodInHeld 26=false:=by kernel_rfl
theorem A8:Tryz.prog.stoodInHeld 24=false:=by kernel_rfl
theorem AA (a b:bp) (w:World):(Op.equal 26 (fY a) (fY b)).run Tryz.prog w = .ok (decide (a=b)) w:=by
 have h:=Aa;obtain ⟨I,a1,a2⟩:=a;obtain ⟨D,b1,A⟩:=b;simp only [Op.equal,Op.maxDepth,fY,gu];by_cases h0:I=D <;> by_cases h1:a1=b1 <;> by_cases h2:a2=A <;> simp [go_sem,h,h0,h1,h2,vu]
theorem Bg (a b:Id) (w:World):(Op.equal 24 (oP a) (oP b)).run Tryz.prog w = .ok (decide (a=b)) w:=by
 have h:=A8;obtain ⟨D,a1⟩:=a;obtain ⟨A,b1⟩:=b;simp only [Op.equal,Op.maxDepth,oP,jj];by_cases h0:D=A <;> by_cases h1:a1=b1 <;> simp [go_sem,h,h0,h1,vu]
theorem vp (b:Bool) (n:Nat) (s:S) (w:World):(Instr.checkKey b (n+1) 9 (.string s)).run Tryz.prog w = .ok () w:=by
 simp [Instr.checkKey,run_underlying Tryz.underlying9]
theorem AR (b:Bool) (k:bp) (w:World):(Instr.checkKey b 10000 26 (fY k)).run Tryz.prog w = .ok () w:=by
 obtain ⟨D,a1,a2⟩:=k;rw [show (10000:Nat)=9998+1+1 from rfl];generalize 9998=n;rw [Instr.checkKey];simp only [fY,gu,Sem.run_bind,run_underlying Tryz.underlying26,Result.andThen_ok];have A:=fun b n s w=>vp b n s w;simp [go_sem,A]
theorem Bj (b:Bool) (k:Id) (w:World):(Instr.checkKey b 10000 24 (oP k)).run Tryz.prog w = .ok () w:=by
 obtain ⟨D,a1⟩:=k;rw [show (10000:Nat)=9998+1+1 from rfl];generalize 9998=n;rw [Instr.checkKey];simp only [oP,jj,Sem.run_bind,run_underlying Tryz.underlying24,Result.andThen_ok];have A:=fun b n s w=>vp b n s w;simp [go_sem,A]
theorem yw:uF Tryz.prog 26 fY:=⟨⟨_,Tryz.underlying26⟩,AA,AR⟩
theorem A2:uF Tryz.prog 24 oP:=⟨⟨_,Tryz.underlying24⟩,Bg,Bj⟩
theorem oG (s:S):(s == s)=true:=by rw [beq_toListBytes]; simp
theorem yb (k:bp):Instr.sameBits 10000 (fY k) (fY k)=true:=by
 rw [show (10000:Nat)=9998+1+1 from rfl];simp [Instr.sameBits,fY,gu,oG]
theorem Af (k:Id):Instr.sameBits 10000 (oP k) (oP k)=true:=by
 rw [show (10000:Nat)=9998+1+1 from rfl];simp [Instr.sameBits,oP,jj,oG]
theorem zO (w:World):(zeroValue 80).run Tryz.prog w = .ok (.pointer none) w:=by kernel_rfl
theorem zM (w:World):(zeroValue 36).run Tryz.prog w = .ok iC w:=by kernel_rfl
theorem sA {w:World} {m:Nat} {L:List (aF bp)} {c:Nat} (g:bp) (h:de fY w m L c) :
    (Instr.lookup 68 (.map (some m)) (.agg #[.string g.group,.string g.artifact,.string g.version]) false).run Tryz.prog w = .ok ((eQ L g).getD (.pointer none)) w :=
 mt yw Tryz.underlying68 zO g h
theorem sz {w:World} {m:Nat} {L:List (aF Id)} {c:Nat} (x:Id) (h:de oP w m L c) :
    (Instr.lookup 69 (.map (some m)) (.agg #[.string x.group,.string x.artifact]) false).run Tryz.prog w = .ok (fe L x) w :=
 mt A2 Tryz.underlying69 zM x h
theorem Ae {w:World} {m:Nat} {L:List (aF bp)} {c:Nat} (g:bp) (v:Value) (h:de fY w m L c) :
    (Instr.mapUpdate 68 (.map (some m)) (.agg #[.string g.group,.string g.artifact,.string g.version]) v).run Tryz.prog w = .ok () (fG fY w m (dV L g v c) (fl L g c)) :=
 mr yw yb Tryz.underlying68 g v h
theorem Ad {w:World} {m:Nat} {L:List (aF Id)} {c:Nat} (x:Id) (v:Value) (h:de oP w m L c) :
    (Instr.mapUpdate 69 (.map (some m)) (.agg #[.string x.group,.string x.artifact]) v).run Tryz.prog w = .ok () (fG oP w m (dV L x v c) (fl L x c)) :=
 mr A2 Af Tryz.underlying69 x v h
theorem vc {K:Type} {P:Program} {kc:K→Value} {w:World} {m:Nat} {L:List (aF K)} {c:Nat} {t k e:TypeId} (h:de kc w m L c) (D:P.underlying t=some (.map k e)) (A:TypeId):(Builtin.len_ #[t] A #[.map (some m)]).run P w = .ok (.int .i64 L.length) w:=by
 simp [Builtin.len_,run_underlying D,MapKept.run_getObj_map (show w.heap[m]? = _ from h),goInt,Result.andThen]
def Bh (es:List (bF × Nat)) (g:bp):Value:=((es.find? fun e=>decide (g=e.1.gav)).map fun e=>jr e.2).getD (.pointer none)
theorem BD (es:List (bF × Nat)) (g:bp):Bh es g=if je es g then Bh es g else .pointer none:=by
 unfold Bh je;cases es.find? fun e=>decide (g=e.1.gav) <;> simp
def Bn (w:World) (e:Ending) (w':World):Prop:=∃ b F,e = .returned (jr b)∧bR F w' b [] 0 0∧(∀ k,F k→w.heap.size≤k)∧Below w.heap.size w w'
theorem Ao (w:World):Calls Tryz.prog 21 #[] w (Bn w):=by
 have D:=@run_makeMap Tryz.prog;go_enter Tryz.func21,Tryz.ntmps21
 go_wp2_with fail
 go_ret
 have e0:de fY (w.alloc (.map #[] 0)) w.heap.size [] 0:=heap_alloc_new w _
 have e1:de oP ((w.alloc (.map #[] 0)).alloc (.map #[] 0)) (w.heap.size+1) [] 0:=by
  have:=heap_alloc_new (w.alloc (.map #[] 0)) (.map #[] 0)
  simpa [de] using this
 have A:Below w.heap.size w (((w.alloc (.map #[] 0)).alloc (.map #[] 0)).alloc (.cells #[.map (some w.heap.size),.map (some (w.heap.size+1)),.int .i64 0,.int .i64 0] 76)) :=
  (((Below.refl _ _).alloc (Nat.le_refl _) _).alloc (by simp) _).alloc (by simp; omega) _
 refine ⟨w.heap.size+2,fun k=>w.heap.size≤k∧k<w.heap.size+3,rfl,⟨w.heap.size,w.heap.size+1,[],0,[],0,?_⟩,fun k h=>h.1,A⟩
 refine ⟨ak.new _ [.map (some w.heap.size),.map (some (w.heap.size+1)),.int .i64 0,.int .i64 0] _ _ (by simp),?_,?_,rfl,by simp,fun x=>.inl ⟨rfl,rfl⟩,?_,?_,⟨⟨by omega,by omega⟩,⟨by omega,by omega⟩,⟨by omega,by omega⟩,by simp⟩,?_,⟨by omega,by omega,by omega,by simp⟩,by simp,by simp,mT.nil _,mT.nil _,Nat.le_refl _⟩
 · exact (e0.below ((Below.refl _ _).alloc (Nat.le_refl _) _) e0.lt).below ((Below.refl _ _).alloc (Nat.le_refl _) _) (by simp; omega)
 · exact e1.below ((Below.refl _ _).alloc (Nat.le_refl _) _) e1.lt
 · intro x v k h; cases h
 · intro x y v u k h; cases h
 · intro k h; simp; omega
def zD (b:Bool) (w:World) (e:Ending) (w':World):Prop:=e = .returned (.bool b)∧Below w.heap.size w w'
theorem qW (g:bp) (w:World) {F:Nat→Prop} {b:Nat} {es:List (bF × Nat)} {r a:Int} (h:bR F w b es r a) :
    Calls Tryz.prog 9 #[jr b,.agg #[.string g.group,.string g.artifact,.string g.version]] w (zD (je es g) w):=by
 obtain ⟨me,mv,L,cl,V,cv,h⟩:=h;have U:=h.get g;have hlt:=h.box.lt;have J:=zH h;clear h;unfold jr;go_enter Tryz.func9,Tryz.ntmps9
 go_upto_region 1 with fail
 refine ai fun W hW=>?_
 have hx:ak W w.heap.size [.string g.group,.string g.artifact,.string g.version]:=by rw [hW]; exact ak.new w (gu g) _ _ rfl
 have I:Below w.heap.size w W:=by rw [hW]; exact (Below.refl _ _).alloc (Nat.le_refl _) _
 clear hW;have HX:=zH hx;have O:=zH I;obtain ⟨x0,x1,x2⟩:=ej hx;have lx:=hx.lt;have b0:=(J.out.box.below I hlt).cell 0 _ rfl;have lb:=(J.out.box.below I hlt).lt;have hm:=J.out.ents.below I J.out.ents.lt;have A : ∀ x:aJ W,(Instr.lookup 68 (.map (some me)) (.agg #[.string g.group,.string g.artifact,.string g.version]) false).run Tryz.prog x.at_ = .ok ((eQ L g).getD (.pointer none)) x.at_:=fun x=>sA g (hm.below x.below hm.lt);clear hx I hm HX;have Z:=@aJ.cellsS W;rw [U] at A;clear U;cases hf:es.find? fun e=>decide (g=e.1.gav) with
 | none =>
  rw [hf] at A;simp only [Option.map_none,Option.getD_none] at A;have HG:Hid (je es g=false):=by show _=_; unfold je; rw [hf]; rfl
  clear hf;refine bK (by kernel_rfl) (by kernel_rfl) ?_
  repeat (go_big_quiet_step (fail))
  refine wpQuiet_nil ?_
  rintro _ ⟨D,rfl⟩;have HN:=zH D.below;generalize D.at_=wn at *;clear A Z x0 x1 x2 lx b0 lb;go_wp2
  go_ret
  exact ⟨by rw [HG.out]; rfl,O.out.trans (HN.out.mono O.out.size)⟩
 | some e =>
  rw [hf] at A;simp only [Option.map_some,Option.getD_some,jr] at A;have HG:Hid (je es g=true):=by show _=_; unfold je; rw [hf]; rfl
  clear hf;refine bK (by kernel_rfl) (by kernel_rfl) ?_
  repeat (go_big_quiet_step (fail))
  refine wpQuiet_nil ?_
  rintro _ ⟨D,rfl⟩;have HN:=zH D.below;generalize D.at_=wn at *;clear A Z x0 x1 x2 lx b0 lb;go_wp2
  go_ret
  exact ⟨by rw [HG.out]; rfl,O.out.trans (HN.out.mono O.out.size)⟩
theorem BP (g:bp) (w:World):Calls Tryz.prog 9 #[.pointer none,.agg #[.string g.group,.string g.artifact,.string g.version]] w (zD false w):=by
 go_enter Tryz.func9,Tryz.ntmps9
 go_upto_region 1 with fail
 refine ai fun W I=>?_
 have D:Below w.heap.size w W:=by rw [I]; exact (Below.refl _ _).alloc (Nat.le_refl _) _
 clear I;have J:=zH D;clear D;refine bK (by kernel_rfl) (by kernel_rfl) ?_
 repeat (go_big_quiet_step (fail))
 refine wpQuiet_nil ?_
 rintro _ ⟨A,rfl⟩;have O:=zH A.below;generalize A.at_=U at *;go_wp2
 go_ret
 exact ⟨rfl,J.out.trans (O.out.mono J.out.size)⟩
theorem BO (w:World) {F:Nat→Prop} {b:Nat} {es:List (bF × Nat)} {r a:Int} (h:bR F w b es r a) :
    Calls Tryz.prog 17 #[jr b] w fun e w'=>e = .returned (.int .i64 es.length)∧Below w.heap.size w w':=by
 obtain ⟨me,mv,L,cl,V,cv,h⟩:=h
 have D : ∀ A,(Builtin.len_ #[68] A #[.map (some me)]).run Tryz.prog w = .ok (.int .i64 es.length) w:=fun A=>by
  rw [vc h.ents Tryz.underlying68 A,h.len]
 have I:=h.box.cell 0 _ rfl;clear h;unfold jr;go_enter Tryz.func17,Tryz.ntmps17
 go_wp2_with fail
 go_ret
 exact ⟨rfl,Below.refl _ _⟩
theorem BN (w:World):Calls Tryz.prog 17 #[.pointer none] w fun e w'=>e = .returned (.int .i64 0)∧Below w.heap.size w w':=by
 go_enter Tryz.func17,Tryz.ntmps17
 go_wp2_with fail
 go_ret
 exact ⟨rfl,Below.refl _ _⟩
theorem yF (g:bp) (w:World):Calls Tryz.prog 42 #[.agg #[.string g.group,.string g.artifact,.string g.version]] w fun e w'=>e = .returned (.agg #[.string g.group,.string g.artifact])∧Below w.heap.size w w':=by
 go_enter Tryz.func42,Tryz.ntmps42
 go_wp2_with fail
 refine bodyPost_ret (v:=.agg #[.string g.group,.string g.artifact]) (by simp [results,Tryz.results42,go_sem]) rfl ?_
 refine ⟨rfl,?_⟩
 exact ((Below.refl _ _).alloc (Nat.le_refl _) _).alloc (by simp) _
end Go.Proofs.YtominiaohfjobaaGreatDoor
