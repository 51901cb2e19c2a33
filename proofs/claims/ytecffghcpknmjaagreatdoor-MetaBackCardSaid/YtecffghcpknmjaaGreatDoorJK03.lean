/- The walks of meta.May and of the document's; the conditions stand in the theorems. -/
import Derived.Test.YtecffghcpknmjaaGreatDoorJK02
import Derived.Test.YtecffghcpknmjaaGreatDoorOwn
import Derived.Test.YtecffghcpknmjaaGreatDoorL1
import Derived.Test.YtecffghcpknmjaaGreatDoorL0
import Derived.Test.YtecffghcpknmjaaGreatDoorG1
import Derived.StillTailTactics
import Derived.IntWalk
import Derived.Test.YtecffghcpknmjaaGreatDoorK19
import Derived.Test.YtecffghcpknmjaaGreatDoorL11
import Derived.Test.YtecffghcpknmjaaGreatDoorG2
import Derived.Test.YtecffghcpknmjaaGreatDoorQB
import Derived.Deep.CutBlock
import Derived.Test.YtecffghcpknmjaaGreatDoorSB
import Derived.KernelRfl
import Derived.Laws.StructEq
import Derived.MapKept
import Derived.WalkKit
namespace Go.Proofs.YtecffghcpknmjaaGreatDoor
open Go Go.RowKit
def memB (l:List S) (x:S):Bool:=l.any fun y=>decide (y=x)
theorem memB_iff {l:List S} {x:S}:memB l x=true↔x ∈ l:=by unfold memB; rw [List.any_eq_true]; simp
def stepM (l:List S) (k:Nat) (v:S):Bool:=verMay v && !memB (l.take k) v && !(decide (0<k) && decide (0<cmpSV (l.getD (k - 1) ⟨#[]⟩) v))
def rowM (l:List S):Nat→Nat→Bool
 | 0,_=>true
 | n+1,k=>(match l[k]? with
  | none=>true
  | some v=>stepM l k v) && rowM l n (k+1)
def mayM (m:MetaD):Bool:=isIdB m.id.group && isIdB m.id.artifact && !m.vers.isEmpty && decide (m.vers.length≤1024) && rowM m.vers m.vers.length 0 && decide (m.latest=lastV m.vers) && decide (m.rel=relV m.vers)
theorem rowM_step {l:List S} {k:Nat} (h:k<l.length):rowM l (l.length - k) k=(stepM l k l[k] && rowM l (l.length - (k+1)) (k+1)):=by
 rw [show l.length - k=(l.length - (k+1))+1 by omega];conv=>lhs; unfold rowM
 rw [List.getElem?_eq_getElem h]
theorem rowM_end (l:List S):rowM l (l.length - l.length) l.length=true:=by rw [Nat.sub_self]; rfl
structure MetaSm (m:MetaD):Prop where
 g:m.id.group.size≤9223372036854775807
 a:m.id.artifact.size≤9223372036854775807
 n:m.vers.length≤1000000
 v:AllSmall m.vers
theorem containsV_any {w:World} {b o c n:Nat} {l:List S} (x:S) (h:SliceOf 1 strC w (.slice (some ⟨b,o,none⟩) l.length c) l) (hn:n≤l.length) (hl:l.length≤1000000) (c':Nat) :
    Calls Tryz.prog 48 #[.slice (some ⟨b,o,none⟩) n c',.string x] w fun e w'=>e = .returned (.bool (memB (l.take n) x))∧w=w' :=
 (Tryz.slices_Contains_string b o n c' l x w hn (by omega) (cellsOf h)).mono fun e w' ⟨h1,h2⟩=>⟨by
  rw [h1];congr 2
  rw [Bool.eq_iff_iff,Lib.containsS_iff,memB_iff],h2.symm⟩
attribute [local go_sem ↓] str_beqV in
set_option maxRecDepth 100000 in
set_option maxHeartbeats 4000000 in
theorem metaMay_any (m:MetaD) (v:Value) (w:World) (h:SliceOf 1 strC w v m.vers) (hsm:MetaSm m) :
    Calls Tryz.prog 25 #[metaAg m v] w fun e w'=>e = .returned (.bool (mayM m))∧Below w.heap.size w w':=by
 have HG:=Lib.hid hsm.g;have HA:=Lib.hid hsm.a;have HLN:=Lib.hid hsm.n;have HSMALL:=Lib.hid hsm.v;have HS:=Lib.hid h;obtain ⟨ao,c,rfl⟩:=h.shape;have HM:Hid (mayM m=(isIdB m.id.group && isIdB m.id.artifact && !m.vers.isEmpty && decide (m.vers.length≤1024) && rowM m.vers m.vers.length 0 && decide (m.latest=lastV m.vers) && decide (m.rel=relV m.vers))):=rfl;clear h hsm;obtain ⟨⟨mg,ma⟩,l,la,re⟩:=m;simp only at HG HA HLN HSMALL HS HM;obtain ⟨MM,hMM⟩ : ∃ x,mayM ⟨⟨mg,ma⟩,l,la,re⟩=x:=⟨_,rfl⟩;rw [hMM] at HM ⊢;clear hMM;unfold metaAg metaC;go_enter Tryz.func25,Tryz.ntmps25
 go_upto_region 1 with fail
 refine wp_world ?_
 intro W hW;have x1:Box W w.heap.size [.string mg,.string ma,.slice ao l.length c,.string la,.string re]:=by rw [hW]; exact Box.new w [.string mg,.string ma,.slice ao l.length c,.string la,.string re] _ _ rfl
 have hb:Below w.heap.size w W:=by rw [hW]; exact (Below.refl _ w).alloc (Nat.le_refl _) _
 clear hW;have HX:=Lib.hid x1;have HB:=Lib.hid hb;clear x1 hb;have x0:=HX.out.cell 0 _ rfl;have x1:=HX.out.cell 1 _ rfl;have x2:=HX.out.cell 2 _ rfl;have x3:=HX.out.cell 3 _ rfl;have x4:=HX.out.cell 4 _ rfl;have xl:=HX.out.lt;go_wp2_with fail
 refine (isId_any mg _ HG.out).mono ?_
 rintro e w1 ⟨rfl,hb1⟩;have HX1:=Lib.hid (HX.out.below hb1 HX.out.lt);have HB1:=Lib.hid (HB.out.trans (hb1.mono HB.out.size));clear x0 x1 x2 x3 x4 xl;clear hb1 HX HB;cases hg:isIdB mg with
 | false =>
  rw [hg] at HM;clear hg;go_wp2
  go_ret
  exact ⟨by rw [HM.out]; simp,HB1.out⟩
 | true =>
  rw [hg] at HM;clear hg;have x0:=HX1.out.cell 0 _ rfl;have x1:=HX1.out.cell 1 _ rfl;have x2:=HX1.out.cell 2 _ rfl;have x3:=HX1.out.cell 3 _ rfl;have x4:=HX1.out.cell 4 _ rfl;have xl:=HX1.out.lt;go_wp2_with fail
  refine (isId_any ma _ HA.out).mono ?_
  rintro e w2 ⟨rfl,hb2⟩;have HX2:=Lib.hid (HX1.out.below hb2 HX1.out.lt);have HB2:=Lib.hid (HB1.out.trans (hb2.mono HB1.out.size));clear x0 x1 x2 x3 x4 xl;clear hb2 HX1 HB1;have x0:=HX2.out.cell 0 _ rfl;have x1:=HX2.out.cell 1 _ rfl;have x2:=HX2.out.cell 2 _ rfl;have x3:=HX2.out.cell 3 _ rfl;have x4:=HX2.out.cell 4 _ rfl;have xl:=HX2.out.lt;cases hg:isIdB ma with
  | false =>
   rw [hg] at HM;clear hg;go_wp2
   go_ret
   exact ⟨by rw [HM.out]; simp,HB2.out⟩
  | true =>
   rw [hg] at HM;clear hg;by_cases h0:l.length=0
   · have e0:((l.length:Int) == 0)=true:=by rw [beq_iff_eq]; omega
     have e0n:(l.length == 0)=true:=by rw [beq_iff_eq]; exact h0
     have HE:Hid (l.isEmpty=true):=by show _=_; rw [List.isEmpty_iff]; exact List.eq_nil_of_length_eq_zero h0
     clear h0;go_wp2
     go_ret
     exact ⟨by rw [HM.out,HE.out]; simp,HB2.out⟩
   · have e0:((l.length:Int) == 0)=false:=by rw [beq_eq_false_iff_ne]; omega
     have e0n:(l.length == 0)=false:=by rw [beq_eq_false_iff_ne]; exact h0
     have HE:Hid (l.isEmpty=false):=by show _=_; rw [List.isEmpty_eq_false_iff]; intro e; rw [e] at h0; exact h0 rfl
     by_cases h1:l.length≤1024
     · have d1:decide ((1024:Int)<(l.length:Int))=false:=decide_eq_false (by omega)
       have d1n:decide (1024<l.length)=false:=decide_eq_false (by omega);have d1p : ¬ (1024:Int)<(l.length:Int):=by omega
       have HM2:Hid (MM=(rowM l (l.length - 0) 0 && decide (la=lastV l) && decide (re=relV l))):=by show _=_; rw [HM.out,HE.out,decide_eq_true h1]; simp
       obtain ⟨b,o,hao,hx1,hx2⟩:=(HS.out).at1 (k:=0) (by omega);clear hx1 hx2;cases hao
       have HNZ:=Lib.hid h0;have HLE:=Lib.hid h1;clear h0 h1 HM HE HG HA;go_wp2
       clear x0 x1 x2 x3 x4 xl;clear d1 d1n d1p e0 e0n;go_loopw [32] (fun i wr=>∃ k:Nat,i = .int .i64 k∧k≤l.length∧Hid (Box wr w.heap.size [.string mg,.string ma,.slice (some ⟨b,o,none⟩) l.length c,.string la,.string re])∧Hid (Below w.heap.size w wr)∧Hid (MM=(rowM l (l.length - k) k && decide (la=lastV l) && decide (re=relV l)))) (fun i _=>l.length - (intOf i).toNat)
       case atStart=>exact ⟨0,rfl,Nat.zero_le _,HX2,HB2,HM2⟩
       case round =>
        clear HX2 HB2 HM2;obtain ⟨k,rfl,hk,HX,HB,HM⟩:=hrel;by_cases hlt:k<l.length
        · have hSr:=HS.out.below HB.out
          obtain ⟨b',o',hao,hbl,hc⟩:=hSr.at1 hlt;cases hao
          have HSr:=Lib.hid hSr;clear hSr;have HSTEP:=Lib.hid (rowM_step hlt);have HV:=Lib.hid (HSMALL.out l[k] (List.getElem_mem hlt));have d1:(k:Int)<(l.length:Int):=by omega
          have wk:IntKind.i64.wrap ((k:Int)+1)=(k:Int)+1:=IntWalk.i64_in _ (by have:=HLN.out; omega);have HST:Hid (stepM l k l[k]=(verMay l[k] && !memB (l.take k) l[k] && !(decide (0<k) && decide (0<cmpSV (l.getD (k - 1) ⟨#[]⟩) l[k])))):=rfl;generalize l[k]=x at *;generalize stepM l k x=st at *;rw [show rowM l (l.length - k) k=_ from HSTEP.out] at HM;have x0:=HX.out.cell 0 _ rfl;have x1:=HX.out.cell 1 _ rfl;have x2:=HX.out.cell 2 _ rfl;have x3:=HX.out.cell 3 _ rfl;have x4:=HX.out.cell 4 _ rfl;have xl:=HX.out.lt;go_wp2_with fail
          refine (ver_any x _ (by have:=HV.out; omega)).mono ?_
          rintro e w3 ⟨rfl,hb3⟩;have HX3:=Lib.hid (HX.out.below hb3 HX.out.lt);have HB3:=Lib.hid (HB.out.trans (hb3.mono HB.out.size));have HSr3:=Lib.hid (HSr.out.below hb3);clear x0 x1 x2 x3 x4 xl;clear hb3 HX HB HSr hc hbl HSTEP;cases hq:verMay x with
          | false =>
           rw [hq] at HST;clear hq;have HMF:Hid (MM=false):=by show _=_; rw [HM.out,HST.out]; simp
           clear HM HST;go_wp2
           go_ret
           exact ⟨by rw [HMF.out]; rfl,HB3.out⟩
          | true =>
           rw [hq] at HST;clear hq;have x0:=HX3.out.cell 0 _ rfl;have x1:=HX3.out.cell 1 _ rfl;have x2:=HX3.out.cell 2 _ rfl;have x3:=HX3.out.cell 3 _ rfl;have x4:=HX3.out.cell 4 _ rfl;have xl:=HX3.out.lt;have pk1:(0:Int)≤(k:Int):=by omega
           have pk2:(k:Int)≤(l.length:Int):=by omega
           have pk3:(l.length:Int)≤(c:Int):=by obtain ⟨_,_,e1,e2,_⟩:=HS.out; cases e1; omega
           have HCO:=Lib.hid (containsV_any x HSr3.out hk HLN.out c);go_wp2_with fail
           refine HCO.out.mono ?_
           rintro e w4 ⟨rfl,rfl⟩;cases hq:memB (l.take k) x with
           | true =>
            rw [hq] at HST;clear hq;have HMF:Hid (MM=false):=by show _=_; rw [HM.out,HST.out]; simp
            clear HM HST HCO;go_wp2
            go_ret
            exact ⟨by rw [HMF.out]; rfl,HB3.out⟩
           | false =>
            rw [hq] at HST;clear hq HCO pk1 pk2 pk3;cases k with
            | zero =>
             have HM2:Hid (MM=(rowM l (l.length - (0+1)) (0+1) && decide (la=lastV l) && decide (re=relV l))):=by show _=_; rw [HM.out,HST.out]; simp
             clear HM HST;go_wp2
             go_roundw
             case rel=>exact ⟨1,rfl,by omega,HX3,HB3,HM2⟩
             case measure=>simp [intOf]; omega
            | succ kp =>
             have hkp:kp<l.length:=by omega
             obtain ⟨b',o',hao,hbl,hc⟩:=HSr3.out.at1 hkp;cases hao
             have HV2:=Lib.hid (HSMALL.out l[kp] (List.getElem_mem hkp));have HGD:Hid (l.getD (kp+1 - 1) ⟨#[]⟩=l[kp]):=by show _=_; rw [Nat.add_sub_cancel,List.getD_eq_getElem?_getD,List.getElem?_eq_getElem hkp]; rfl
             have pg1:decide ((0:Int)<(kp:Int)+1)=true:=decide_eq_true (by omega);have pg2:(0:Int)<(kp:Int)+1:=by omega
             have pg3:IntKind.i64.wrap ((kp:Int)+1 - 1)=(kp:Int):=by rw [show (kp:Int)+1 - 1=(kp:Int) by omega]; exact IntWalk.i64_in _ (by have:=HLN.out; omega)
             have pg4:IntKind.i64.wrap (kp:Int)=(kp:Int):=IntWalk.i64_in _ (by have:=HLN.out; omega);have pg5:(kp:Int)<(l.length:Int):=by omega
             have wk2:IntKind.i64.wrap ((kp:Int)+1+1)=(kp:Int)+1+1:=IntWalk.i64_in _ (by have:=HLN.out; omega);have pg6:decide (0<kp+1)=true:=decide_eq_true (by omega);rw [show l.getD (kp+1 - 1) ⟨#[]⟩=_ from HGD.out] at HST;clear HGD;generalize l[kp]=y at *;have HCMP:Hid (Calls Tryz.prog 49 #[.string y,.string x] w3 fun e w'=>e = .returned (.int .i64 (cmpSV y x))∧Below w3.heap.size w3 w'):=compareV_any y x w3 HV2.out HV.out;generalize cmpSV y x=cv at *;go_wp2_with fail
             refine HCMP.out.mono ?_
             rintro e w5 ⟨rfl,hb5⟩;have HX5:=Lib.hid (HX3.out.below hb5 HX3.out.lt);have HB5:=Lib.hid (HB3.out.trans (hb5.mono HB3.out.size));clear hb5 HX3 HB3 HSr3 hc hbl HCMP pg3 pg4 pg5;by_cases hcv:0<cv
             · have c1:decide (0<cv)=true:=decide_eq_true hcv
               have HMF:Hid (MM=false):=by show _=_; rw [HM.out,HST.out,c1]; simp
               clear HM HST;go_wp2
               go_ret
               exact ⟨by rw [HMF.out]; rfl,HB5.out⟩
             · have c1:decide (0<cv)=false:=decide_eq_false hcv
               have HM2:Hid (MM=(rowM l (l.length - (kp+1+1)) (kp+1+1) && decide (la=lastV l) && decide (re=relV l))):=by show _=_; rw [HM.out,HST.out,c1]; simp
               clear HM HST;go_wp2
               go_roundw
               case rel=>exact ⟨kp+1+1,by first | rfl | go_num,hlt,HX5,HB5,HM2⟩
               case measure=>simp [intOf]; omega
        · obtain rfl:k=l.length:=by omega
          have d1 : ¬ (l.length:Int)<(l.length:Int):=by omega
          have HM2:Hid (MM=(decide (la=lastV l) && decide (re=relV l))):=by show _=_; rw [HM.out,rowM_end]; simp
          clear HM hlt hk;obtain ⟨n,hn⟩ : ∃ n,l.length=n+1:=⟨l.length - 1,by have:=HNZ.out; omega⟩;have hat:=lastV_at hn;have hSr:=HS.out.below HB.out;obtain ⟨b',o',hao,hbl,hc⟩:=hSr.at1 (k:=n) (by omega);rw [(List.getElem?_eq_some_iff.1 hat).2] at hc;cases hao
          have HREL:Hid (∀ W,Below wr.heap.size wr W→Calls Tryz.prog 50 #[.slice (some ⟨b,o,none⟩) l.length c] W fun e w'=>e = .returned (.string (relV l))∧Below W.heap.size W w'):=fun W hb=>releaseV_any (hSr.below hb) HLN.out HSMALL.out;clear hSr hat;generalize lastV l=lv at *;generalize relV l=rv at *;generalize hq1:decide (la=lv)=q1 at *;generalize hq2:decide (re=rv)=q2 at *;rw [hn] at HREL HX ⊢;have w1:IntKind.i64.wrap (n:Int)=(n:Int):=IntWalk.i64_in _ (by have:=HLN.out; omega);have lt1:(n:Int)<(n:Int)+1:=by omega
          have HNN:=Lib.hid hn;clear hn d1;have x0:=HX.out.cell 0 _ rfl;have x1:=HX.out.cell 1 _ rfl;have x2:=HX.out.cell 2 _ rfl;have x3:=HX.out.cell 3 _ rfl;have x4:=HX.out.cell 4 _ rfl;have xl:=HX.out.lt;have hLL:=@Later.cells wr;have HRR:Hid (∀ z:Later wr,Calls Tryz.prog 50 #[.slice (some ⟨b,o,none⟩) (n+1) c] z.at_ fun e w''=>e = .returned (.string rv) ∧ ∃ u:Later wr,w''=u.at_):=fun z=>Later.call (HREL.out _ z.below);clear HREL;cases q1
          · go_wp2_with fail
            refine region_later (by kernel_rfl) (by kernel_rfl) ?_
            repeat (go_big_quiet_step (fail))
            refine wpQuiet_nil ?_
            rintro _ ⟨nx,rfl⟩;have HBn:=Lib.hid (HB.out.trans (nx.below.mono HB.out.size));clear hLL x0 x1 x2 x3 x4 xl hc hbl HRR;generalize nx.at_=wn at *;go_wp2
            go_ret
            exact ⟨by rw [HM2.out]; rfl,HBn.out⟩
          · go_wp2_with fail
            refine region_later (by kernel_rfl) (by kernel_rfl) ?_
            repeat (go_big_quiet_step ((go_at_call 50; with_reducible exact HRR.out _)))
            refine wpQuiet_nil ?_
            rintro _ ⟨nx,rfl⟩;have HBn:=Lib.hid (HB.out.trans (nx.below.mono HB.out.size));clear hLL x0 x1 x2 x3 x4 xl hc hbl HRR;generalize nx.at_=wn at *;go_wp2
            go_ret
            exact ⟨by rw [HM2.out]; rfl,HBn.out⟩
     · have d1:decide ((1024:Int)<(l.length:Int))=true:=decide_eq_true (by omega)
       have d1n:decide (1024<l.length)=true:=decide_eq_true (by omega);have d1p:(1024:Int)<(l.length:Int):=by omega
       have HMF:Hid (MM=false):=by show _=_; rw [HM.out,decide_eq_false h1]; simp
       clear h0 h1;go_wp2
       go_ret
       exact ⟨by rw [HMF.out]; rfl,HB2.out⟩
theorem memB_snoc (l:List S) (y x:S):memB (l ++ [y]) x=(memB l x || decide (y=x)):=by unfold memB; rw [List.any_append]; simp
def RefCmpOk:Prop:=∀ (a b:S) (W:World),a.size≤900000→b.size≤900000→Calls Tryz.prog 15 #[.string a,.string b] W fun e w'=>e = .returned (.int .i64 (cmpSV a b))∧Below W.heap.size W w'
theorem refCmpOk_of (HPT:RefPartsOk):RefCmpOk:=fun a b W ha hb=>refCompareV_of HPT a b W ha hb
attribute [local go_sem ↓] str_beqV in
set_option maxRecDepth 100000 in
set_option maxHeartbeats 4000000 in
theorem refMetaMay_of (HPT:RefPartsOk) (m:MetaD) (v:Value) (w:World) (h:SliceOf 1 strC w v m.vers) (hsm:MetaSm m) :
    Calls Tryz.prog 5 #[metaAg m v] w fun e w'=>e = .returned (.bool (mayM m))∧Below w.heap.size w w':=by
 have HCMP0:=Lib.hid (refCmpOk_of HPT);have HOF0:=Lib.hid (fun (d:Id) (l:List S) (v:Value) (w:World) h1 h2 h3=>refMetaOf_of HPT d l v w h1 h2 h3);clear HPT;have HG:=Lib.hid hsm.g;have HA:=Lib.hid hsm.a;have HLN:=Lib.hid hsm.n;have HSMALL:=Lib.hid hsm.v;have HS:=Lib.hid h;obtain ⟨ao,c,rfl⟩:=h.shape;have HM:Hid (mayM m=(isIdB m.id.group && isIdB m.id.artifact && !m.vers.isEmpty && decide (m.vers.length≤1024) && rowM m.vers m.vers.length 0 && decide (m.latest=lastV m.vers) && decide (m.rel=relV m.vers))):=rfl;clear h hsm;obtain ⟨⟨mg,ma⟩,l,la,re⟩:=m;simp only at HG HA HLN HSMALL HS HM;obtain ⟨MM,hMM⟩ : ∃ x,mayM ⟨⟨mg,ma⟩,l,la,re⟩=x:=⟨_,rfl⟩;rw [hMM] at HM ⊢;clear hMM;unfold metaAg metaC;go_enter Tryz.func5,Tryz.ntmps5
 go_upto_region 1 with fail
 refine wp_world ?_
 intro W hW;have x1:Box W w.heap.size [.string mg,.string ma,.slice ao l.length c,.string la,.string re]:=by rw [hW]; exact Box.new w [.string mg,.string ma,.slice ao l.length c,.string la,.string re] _ _ rfl
 have hb:Below w.heap.size w W:=by rw [hW]; exact (Below.refl _ w).alloc (Nat.le_refl _) _
 clear hW;have HX:=Lib.hid x1;have HB:=Lib.hid hb;clear x1 hb;have x0:=HX.out.cell 0 _ rfl;have x1:=HX.out.cell 1 _ rfl;have x2:=HX.out.cell 2 _ rfl;have x3:=HX.out.cell 3 _ rfl;have x4:=HX.out.cell 4 _ rfl;have xl:=HX.out.lt;by_cases h0:l.length=0
 · have e0:((l.length:Int) == 0)=true:=by rw [beq_iff_eq]; omega
   have e0n:(l.length == 0)=true:=by rw [beq_iff_eq]; exact h0
   have HMF:Hid (MM=false):=by show _=_; rw [HM.out,List.eq_nil_of_length_eq_zero h0]; simp
   clear h0;go_wp2
   go_ret
   exact ⟨by rw [HMF.out]; rfl,HB.out⟩
 · have e0:((l.length:Int) == 0)=false:=by rw [beq_eq_false_iff_ne]; omega
   have e0n:(l.length == 0)=false:=by rw [beq_eq_false_iff_ne]; exact h0
   have HE:Hid (l.isEmpty=false):=by show _=_; rw [List.isEmpty_eq_false_iff]; intro e; rw [e] at h0; exact h0 rfl
   by_cases h1:l.length≤1024
   · have d1:decide ((1024:Int)<(l.length:Int))=false:=decide_eq_false (by omega)
     have d1n:decide (1024<l.length)=false:=decide_eq_false (by omega);have d1p : ¬ (1024:Int)<(l.length:Int):=by omega
     obtain ⟨b,o,hao,hx1,hx2⟩:=(HS.out).at1 (k:=0) (by omega);clear hx1 hx2;cases hao
     have HNZ:=Lib.hid h0;have HM1:Hid (MM=(isIdB mg && isIdB ma && (rowM l (l.length - 0) 0 && decide (la=lastV l) && decide (re=relV l)))):=by show _=_; rw [HM.out,HE.out,decide_eq_true h1]; simp [Bool.and_assoc]
     clear h0 h1 HM HE;go_wp2_with fail
     refine (refIsId_any mg _ HG.out).mono ?_
     rintro e wq ⟨rfl,rfl⟩;cases hg:isIdB mg with
     | false =>
      rw [hg] at HM1;clear hg;go_wp2
      go_ret
      exact ⟨by rw [HM1.out]; simp,HB.out⟩
     | true =>
      rw [hg] at HM1;clear hg;go_wp2_with fail
      refine (refIsId_any ma _ HA.out).mono ?_
      rintro e wq ⟨rfl,rfl⟩;cases hg:isIdB ma with
      | false =>
       rw [hg] at HM1;clear hg;go_wp2
       go_ret
       exact ⟨by rw [HM1.out]; simp,HB.out⟩
      | true =>
       rw [hg] at HM1;clear hg;have HM2:Hid (MM=(rowM l (l.length - 0) 0 && decide (la=lastV l) && decide (re=relV l))):=by show _=_; rw [HM1.out]; simp
       clear HM1 HG HA;go_wp2
       clear x0 x1 x2 x3 x4 xl;clear d1 d1n d1p e0 e0n;go_loopw [34] (fun i wr=>∃ k:Nat,i = .int .i64 k∧k≤l.length∧Hid (Box wr w.heap.size [.string mg,.string ma,.slice (some ⟨b,o,none⟩) l.length c,.string la,.string re])∧Hid (Below w.heap.size w wr)∧Hid (MM=(rowM l (l.length - k) k && decide (la=lastV l) && decide (re=relV l)))) (fun i _=>l.length - (intOf i).toNat)
       case atStart=>exact ⟨0,rfl,Nat.zero_le _,HX,HB,HM2⟩
       case round =>
        clear HX HB HM2;obtain ⟨k,rfl,hk,HX,HB,HM⟩:=hrel;by_cases hlt:k<l.length
        · have hSr:=HS.out.below HB.out
          obtain ⟨b',o',hao,hbl,hc⟩:=hSr.at1 hlt;cases hao
          have HSr:=Lib.hid hSr;clear hSr;have HSTEP:=Lib.hid (rowM_step hlt);have HV:=Lib.hid (HSMALL.out l[k] (List.getElem_mem hlt));have d1:(k:Int)<(l.length:Int):=by omega
          have wk:IntKind.i64.wrap ((k:Int)+1)=(k:Int)+1:=IntWalk.i64_in _ (by have:=HLN.out; omega);have HST:Hid (stepM l k l[k]=(verMay l[k] && !memB (l.take k) l[k] && !(decide (0<k) && decide (0<cmpSV (l.getD (k - 1) ⟨#[]⟩) l[k])))):=rfl;generalize l[k]=x at *;generalize stepM l k x=st at *;rw [show rowM l (l.length - k) k=_ from HSTEP.out] at HM;have hSr0:=HSr.out;obtain ⟨qc,hqc⟩ : ∃ q,(!verMay x || (decide (0<k) && decide (0<cmpSV (l.getD (k - 1) ⟨#[]⟩) x)))=q:=⟨_,rfl⟩;have HQC:=Lib.hid hqc;clear hqc HSTEP;go_upto_region 7 with fail
          go_cut [56] from 39 to 55 (fun z wx=>z = .bool qc∧Hid (Box wx w.heap.size [.string mg,.string ma,.slice (some ⟨b,o,none⟩) l.length c,.string la,.string re])∧Hid (Below w.heap.size w wx))
          case first =>
           clear hSr0 hc hbl;have HV2:=Lib.hid (refVer_any x wr (by have:=HV.out; omega));have x0:=HX.out.cell 0 _ rfl;have x1:=HX.out.cell 1 _ rfl;have x2:=HX.out.cell 2 _ rfl;have x3:=HX.out.cell 3 _ rfl;have x4:=HX.out.cell 4 _ rfl;have xl:=HX.out.lt;go_wp2_with fail
           refine HV2.out.mono ?_
           rintro e wq ⟨rfl,rfl⟩;cases hq:verMay x with
           | false =>
            have hz:qc=true:=by rw [← show _=qc from HQC.out,hq]; rfl
            subst hz;clear HQC HST;go_wp2
            go_meet
            case rel=>exact ⟨rfl,HX,HB⟩
           | true =>
            cases k with
            | zero =>
             have hz:qc=false:=by rw [← show _=qc from HQC.out,hq]; rfl
             subst hz;clear HQC HST;go_wp2
             go_meet
             case rel=>exact ⟨rfl,HX,HB⟩
            | succ kp =>
             have hkp:kp<l.length:=by omega
             obtain ⟨b',o',hao,hbl,hc⟩:=HSr.out.at1 hkp;cases hao
             have HV3:=Lib.hid (HSMALL.out l[kp] (List.getElem_mem hkp));have hgd:l.getD (kp+1 - 1) ⟨#[]⟩=l[kp]:=by rw [Nat.add_sub_cancel,List.getD_eq_getElem?_getD,List.getElem?_eq_getElem hkp]; rfl
             have hz:decide (0<cmpSV l[kp] x)=qc:=by rw [← show _=qc from HQC.out,hq,hgd]; simp
             have pg1:decide ((0:Int)<(kp:Int)+1)=true:=decide_eq_true (by omega);have pg2:(0:Int)<(kp:Int)+1:=by omega
             have pg3:IntKind.i64.wrap ((kp:Int)+1 - 1)=(kp:Int):=by rw [show (kp:Int)+1 - 1=(kp:Int) by omega]; exact IntWalk.i64_in _ (by have:=HLN.out; omega)
             have pg4:IntKind.i64.wrap (kp:Int)=(kp:Int):=IntWalk.i64_in _ (by have:=HLN.out; omega);have pg5:(kp:Int)<(l.length:Int):=by omega
             have pg6:decide (0<kp+1)=true:=decide_eq_true (by omega);generalize l[kp]=y at *;have HCMP:=Lib.hid (HCMP0.out y x wr HV3.out HV.out);generalize cmpSV y x=cv at *;clear hgd HQC HST hq;go_wp2_with fail
             refine HCMP.out.mono ?_
             rintro e w5 ⟨rfl,hb5⟩;have HX5:=Lib.hid (HX.out.below hb5 HX.out.lt);have HB5:=Lib.hid (HB.out.trans (hb5.mono HB.out.size));clear hb5 HX HB;go_wp2
             go_meet
             case rel=>exact ⟨by first | rfl | rw [hz],HX5,HB5⟩
          case rest =>
           obtain ⟨rfl,HX,HB⟩:=hcut;clear hc hbl hSr0 HSr;cases qc with
           | true =>
            have HMF:Hid (MM=false):=by
             show _=_
             have h1:=HQC.out;rw [HM.out,HST.out];change _=_ at h1
             generalize (decide (0<k) && decide (0<cmpSV (l.getD (k - 1) ⟨#[]⟩) x))=A at h1 ⊢;cases hv:verMay x <;> cases A <;> simp_all
            clear HM HST HQC;go_wp2
            go_ret
            exact ⟨by rw [HMF.out]; rfl,HB.out⟩
           | false =>
            have HST2:Hid (st=!memB (l.take k) x):=by
             show _=_
             have h1:=HQC.out;rw [HST.out];change _=_ at h1
             generalize (decide (0<k) && decide (0<cmpSV (l.getD (k - 1) ⟨#[]⟩) x))=A at h1 ⊢;cases hv:verMay x <;> cases A <;> simp_all
            have HSW:=Lib.hid (HS.out.below HB.out);clear HST HQC;have x0:=HX.out.cell 0 _ rfl;have x1:=HX.out.cell 1 _ rfl;have x2:=HX.out.cell 2 _ rfl;have x3:=HX.out.cell 3 _ rfl;have x4:=HX.out.cell 4 _ rfl;have xl:=HX.out.lt;have pk1:(0:Int)≤(k:Int):=by omega
            have pk2:(k:Int)≤(l.length:Int):=by omega
            have pk3:(l.length:Int)≤(c:Int):=by obtain ⟨_,_,e1,e2,_⟩:=HS.out; cases e1; omega
            obtain ⟨W2,hW2⟩ : ∃ W',W'=wc:=⟨_,rfl⟩;rw [← hW2] at HX HB HSW;subst hW2;go_wp2
            clear pk1 pk2 pk3;go_loopw [62] (fun i wr=>∃ j:Nat,i = .int .i64 j∧j≤k∧W2=wr∧Hid (memB (l.take j) x=false)) (fun i _=>k - (intOf i).toNat)
            case atStart=>exact ⟨0,rfl,Nat.zero_le _,rfl,rfl⟩
            case round =>
             obtain ⟨j,rfl,hj,rfl,HMB⟩:=hrel;by_cases hjk:j<k
             · have hjl:j<l.length:=by omega
               obtain ⟨b',o',hao,hbl,hc⟩:=HSW.out.at1 hjl;cases hao
               have hsn:=memB_snoc (l.take j) l[j] x;rw [← take_snoc hjl,show memB (l.take j) x=false from HMB.out,Bool.false_or] at hsn;have HSNO:=Lib.hid hsn;have HIN:Hid (l[j] ∈ l.take k):=by show _ ∈ _; rw [List.mem_take_iff_getElem]; exact ⟨j,by omega,rfl⟩
               clear hsn;have e1:(j:Int)<(k:Int):=by omega
               have wj:IntKind.i64.wrap ((j:Int)+1)=(j:Int)+1:=IntWalk.i64_in _ (by have:=HLN.out; omega);generalize l[j]=y at *;generalize hyx:decide (y=x)=q at *;cases q with
               | true =>
                have HMF:Hid (MM=false):=by
                 show _=_
                 have:=of_decide_eq_true hyx
                 rw [HM.out,HST2.out,memB_iff.2 (by rw [← this]; exact HIN.out)]; simp
                clear HM HST2 HSNO HIN HMB;go_wp2
                go_ret
                exact ⟨by rw [HMF.out]; rfl,HB.out⟩
               | false =>
                clear HIN HMB;go_wp2
                go_roundw
                case rel=>exact ⟨j+1,by first | rfl | go_num,hjk,(by trivial),HSNO⟩
                case measure=>simp [intOf]; omega
             · obtain rfl:j=k:=by omega
               have HM2:Hid (MM=(rowM l (l.length - (j+1)) (j+1) && decide (la=lastV l) && decide (re=relV l))):=by show _=_; rw [HM.out,HST2.out,show memB (l.take j) x=false from HMB.out]; simp
               have e1 : ¬ (j:Int)<(j:Int):=by omega
               clear HM HST2 HMB;go_wp2
               go_roundw
               case rel=>exact ⟨j+1,by first | rfl | go_num,hlt,HX,HB,HM2⟩
               case measure=>simp [intOf]; omega
        · obtain rfl:k=l.length:=by omega
          have d1 : ¬ (l.length:Int)<(l.length:Int):=by omega
          have HM2:Hid (MM=(decide (la=lastV l) && decide (re=relV l))):=by show _=_; rw [HM.out,rowM_end]; simp
          have HM3:Hid (decide ((⟨⟨mg,ma⟩,l,la,re⟩:MetaD)=⟨⟨mg,ma⟩,l,lastV l,relV l⟩)=MM):=by show _=_; rw [metaD_eq,HM2.out]; simp
          clear HM hlt hk HM2;have hSr:=HS.out.below HB.out;have HO:Hid (∀ z:Later wr,Calls Tryz.prog 16 #[.agg #[.string mg,.string ma],.slice (some ⟨b,o,none⟩) l.length c] z.at_ fun e w''=>e = .returned (.agg #[.string mg,.string ma,.slice (some ⟨b,o,none⟩) l.length c,.string (lastV l),.string (relV l)]) ∧ ∃ u:Later wr,w''=u.at_):=fun z=>Later.call (HOF0.out ⟨mg,ma⟩ l _ _ (hSr.below z.below) HLN.out HSMALL.out)
          have HSA:Hid (∀ z:Later wr,Calls Tryz.prog 12 #[.agg #[.string mg,.string ma,.slice (some ⟨b,o,none⟩) l.length c,.string la,.string re],.agg #[.string mg,.string ma,.slice (some ⟨b,o,none⟩) l.length c,.string (lastV l),.string (relV l)]] z.at_ fun e w''=>e = .returned (.bool MM) ∧ ∃ u:Later wr,w''=u.at_):=fun z=>Later.call (by
           have:=refMetaSame_any ⟨⟨mg,ma⟩,l,la,re⟩ ⟨⟨mg,ma⟩,l,lastV l,relV l⟩ (.slice (some ⟨b,o,none⟩) l.length c) (.slice (some ⟨b,o,none⟩) l.length c) z.at_ (hSr.below z.below) (hSr.below z.below) HLN.out
           rw [HM3.out] at this
           exact this)
          clear HM3 hSr HOF0 HCMP0;generalize lastV l=lv at *;generalize relV l=rv at *;have x0:=HX.out.cell 0 _ rfl;have x1:=HX.out.cell 1 _ rfl;have x2:=HX.out.cell 2 _ rfl;have x3:=HX.out.cell 3 _ rfl;have x4:=HX.out.cell 4 _ rfl;have xl:=HX.out.lt;have hLL:=@Later.cells wr;go_wp2_with fail
          refine region_later (by kernel_rfl) (by kernel_rfl) ?_
          repeat (go_big_quiet_step ((first | (go_at_call 16; with_reducible exact HO.out _) | (go_at_call 12; with_reducible exact HSA.out _))))
          refine wpQuiet_nil ?_
          rintro _ ⟨nx,rfl⟩;have HBn:=Lib.hid (HB.out.trans (nx.below.mono HB.out.size));clear hLL x0 x1 x2 x3 x4 xl HO HSA;generalize nx.at_=wn at *;go_wp2
          go_ret
          exact ⟨rfl,HBn.out⟩
   · have d1:decide ((1024:Int)<(l.length:Int))=true:=decide_eq_true (by omega)
     have d1n:decide (1024<l.length)=true:=decide_eq_true (by omega);have d1p:(1024:Int)<(l.length:Int):=by omega
     have HMF:Hid (MM=false):=by show _=_; rw [HM.out,decide_eq_false h1]; simp
     clear h0 h1;go_wp2
     go_ret
     exact ⟨by rw [HMF.out]; rfl,HB.out⟩
structure MEnt (K:Type) where
 key:K
 val:Value
 born:Nat
def MEnt.ent {K:Type} (kc:K→Value) (e:MEnt K):MapEntry:={ key:=kc e.key,val:=e.val,born:=e.born }
def MMap {K:Type} (kc:K→Value) (w:World) (m:Nat) (L:List (MEnt K)) (c:Nat):Prop:=w.heap[m]? = some (.map (L.map (MEnt.ent kc)).toArray c)
structure MKey {K:Type} [DecidableEq K] (P:Program) (tk:TypeId) (kc:K→Value):Prop where
 str : ∃ fs,P.underlying tk=some (.struct fs)
 eq : ∀ (a b:K) (w:World),(Op.equal tk (kc a) (kc b)).run P w = .ok (decide (a=b)) w
 chk : ∀ (b:Bool) (k:K) (w:World),(Instr.checkKey b 10000 tk (kc k)).run P w = .ok () w
def mIdx {K:Type} [DecidableEq K] (L:List (MEnt K)) (k:K):Option Nat:=L.findIdx? (fun e=>decide (k=e.key))
def mGet {K:Type} [DecidableEq K] (L:List (MEnt K)) (k:K):Option Value:=(L.find? (fun e=>decide (k=e.key))).map (·.val)
theorem mGet_idx {K:Type} [DecidableEq K] (L:List (MEnt K)) (k:K):((mIdx L k).bind fun j=>(L[j]?).map fun e=>e.val)=mGet L k:=by
 unfold mIdx mGet;induction L with
 | nil=>rfl
 | cons e L ih =>
  rw [List.findIdx?_cons,List.find?_cons];cases decide (k=e.key) with
  | true=>simp
  | false =>
   rw [← ih];cases L.findIdx? (fun e=>decide (k=e.key)) <;> simp
theorem mIdx_none {K:Type} [DecidableEq K] {L:List (MEnt K)} {k:K}:mIdx L k=none↔mGet L k=none:=by
 unfold mIdx mGet;rw [Option.map_eq_none_iff,List.findIdx?_eq_none_iff,List.find?_eq_none];simp
theorem run_findAskingM {K:Type} [DecidableEq K] {P:Program} {tk:TypeId} {kc:K→Value} (hk:MKey P tk kc) (k:K) (w:World) : ∀ (L:List (MEnt K)) (i:Nat),(Instr.findAsking tk (kc k) (L.map (MEnt.ent kc)) i).run P w =
    .ok ((mIdx L k).bind fun j=>(L[j]?).map fun e=>(i+j,e.val)) w
 | [],i=>by simp [Instr.findAsking,mIdx]
 | e::L,i=>by
  simp only [List.map_cons,Instr.findAsking,Sem.run_bind,MEnt.ent,hk.eq,Result.andThen_ok,mIdx,List.findIdx?_cons];by_cases h:k=e.key
  · simp [h]
  · simp only [h,decide_false,Bool.false_eq_true,if_false]
    have ih:=run_findAskingM hk k w L (i+1);unfold mIdx at ih;rw [ih];congr 1
    cases L.findIdx? (fun e=>decide (k=e.key)) <;> simp [Nat.add_assoc,Nat.add_comm 1]
theorem run_findKeyM {K:Type} [DecidableEq K] {P:Program} {tk:TypeId} {kc:K→Value} (hk:MKey P tk kc) (k:K) (w:World) (L:List (MEnt K)):(Instr.findKey tk (kc k) (L.map (MEnt.ent kc))).run P w =
    .ok ((mIdx L k).bind fun j=>(L[j]?).map fun e=>(j,e.val)) w:=by
 obtain ⟨fs,hu⟩:=hk.str;simp only [Instr.findKey,Sem.run_bind,run_underlying hu,Result.andThen_ok];cases L with
 | nil=>simp [Instr.findNow,mIdx]
 | cons e L =>
  have h:=run_findAskingM hk k w (e::L) 0;simp only [Nat.zero_add] at h;simp only [List.map_cons,Instr.findNow,MEnt.ent,Instr.sameNow] at h ⊢;exact h
theorem run_lookupM {K:Type} [DecidableEq K] {P:Program} {tk te tm:TypeId} {kc:K→Value} (hk:MKey P tk kc) (ht:P.underlying tm=some (.map tk te)) {z:Value} (hz : ∀ w,(zeroValue te).run P w = .ok z w) {w:World} {m:Nat} {L:List (MEnt K)} {c:Nat} (k:K) (h:MMap kc w m L c) :
    (Instr.lookup tm (.map (some m)) (kc k) false).run P w = .ok ((mGet L k).getD z) w:=by
 simp only [Instr.lookup,Sem.run_bind,run_underlying ht,Result.andThen_ok];have hg:(getObj m).run P w = .ok (.map (L.map (MEnt.ent kc)).toArray c) w:=by simp [getObj,Sem.run,show w.heap[m]? = _ from h]
 simp only [hg,Sem.run_bind,Result.andThen_ok,Sem.run_pure,hk.chk,run_findKeyM hk];rw [← mGet_idx];cases hj:mIdx L k with
 | none=>simp [hz]
 | some j =>
  have hlt:j<L.length:=by
   unfold mIdx at hj;have:=List.findIdx?_eq_some_iff_findIdx_eq.1 hj; omega
  simp [hlt]
def mSet {K:Type} (kc:K→Value) (w:World) (m:Nat) (L:List (MEnt K)) (c:Nat):World:={ w with heap:=w.heap.setIfInBounds m (.map (L.map (MEnt.ent kc)).toArray c) }
theorem run_updateM_new {K:Type} [DecidableEq K] {P:Program} {tk te tm:TypeId} {kc:K→Value} (hk:MKey P tk kc) (ht:P.underlying tm=some (.map tk te)) {w:World} {m:Nat} {L:List (MEnt K)} {c:Nat} (k:K) (v:Value) (h:MMap kc w m L c) (hn:mIdx L k=none) :
    (Instr.mapUpdate tm (.map (some m)) (kc k) v).run P w = .ok () (mSet kc w m (L ++ [⟨k,v,c⟩]) (c+1)):=by
 simp only [Instr.mapUpdate,Sem.run_bind,run_underlying ht,Result.andThen_ok];have hg:(getObj m).run P w = .ok (.map (L.map (MEnt.ent kc)).toArray c) w:=by simp [getObj,Sem.run,show w.heap[m]? = _ from h]
 have hset : ∀ o,(setObj m o).run P w = .ok () { w with heap:=w.heap.setIfInBounds m o }:=fun o=>by simp [setObj,Sem.run,show w.heap[m]? = _ from h]
 simp only [hg,Sem.run_bind,Result.andThen_ok,hk.chk,run_findKeyM hk,hn];simp [hset,mSet,MEnt.ent]
theorem MMap.lt {K:Type} {kc:K→Value} {w:World} {m:Nat} {L:List (MEnt K)} {c:Nat} (h:MMap kc w m L c):m<w.heap.size:=(Array.getElem?_eq_some_iff.1 h).1
theorem mSet_is {K:Type} {kc:K→Value} {w:World} {m:Nat} {L L':List (MEnt K)} {c c':Nat} (h:MMap kc w m L c):MMap kc (mSet kc w m L' c') m L' c':=by
 have:=h.lt
 simp [MMap,mSet,this]
theorem mSet_grown {K:Type} {kc:K→Value} (w:World) (m:Nat) (L:List (MEnt K)) (c:Nat):w.grownBy (mSet kc w m L c) (some m) :=
 ⟨rfl,rfl,rfl,by simp [mSet],fun k _ hne=>by
  have:m≠k:=fun e=>hne (by rw [e])
  simp [mSet,this]⟩
theorem MMap.grown {K:Type} {kc:K→Value} {w w':World} {m:Nat} {L:List (MEnt K)} {c:Nat} {row:Option Nat} (h:MMap kc w m L c) (hg:w.grownBy w' row) (hne:some m≠row):MMap kc w' m L c:=(hg.block m h.lt hne).trans h
theorem MMap.below {K:Type} {kc:K→Value} {w w':World} {m:Nat} {L:List (MEnt K)} {c B:Nat} (h:MMap kc w m L c) (hb:Below B w w') (hm:m<B):MMap kc w' m L c:=(hb.block m hm).trans h
def mPut {K:Type} [DecidableEq K] (L:List (MEnt K)) (k:K) (v:Value) (c:Nat):List (MEnt K):=match mIdx L k with
 | some j=>L.modify j fun e=>{ e with val:=v }
 | none=>L ++ [⟨k,v,c⟩]
def mCnt {K:Type} [DecidableEq K] (L:List (MEnt K)) (k:K) (c:Nat):Nat:=if (mIdx L k).isSome then c else c+1
theorem mIdx_some {K:Type} [DecidableEq K] {L:List (MEnt K)} {k:K} {j:Nat} (h:mIdx L k=some j) : ∃ hj:j<L.length,L[j].key=k:=by
 obtain ⟨hj,hjk,-⟩:=List.findIdx?_eq_some_iff_getElem.1 h;exact ⟨hj,by simpa using (of_decide_eq_true hjk).symm⟩
theorem run_updateM {K:Type} [DecidableEq K] {P:Program} {tk te tm:TypeId} {kc:K→Value} (hk:MKey P tk kc) (hs : ∀ k,Instr.sameBits 10000 (kc k) (kc k)=true) (ht:P.underlying tm=some (.map tk te)) {w:World} {m:Nat} {L:List (MEnt K)} {c:Nat} (k:K) (v:Value) (h:MMap kc w m L c) :
    (Instr.mapUpdate tm (.map (some m)) (kc k) v).run P w = .ok () (mSet kc w m (mPut L k v c) (mCnt L k c)):=by
 cases hn:mIdx L k with
 | none =>
  have e1:mPut L k v c=L ++ [⟨k,v,c⟩]:=by simp [mPut,hn]
  have e2:mCnt L k c=c+1:=by simp [mCnt,hn]
  rw [e1,e2];exact run_updateM_new hk ht k v h hn
 | some j =>
  obtain ⟨hj,hkey⟩:=mIdx_some hn;have e1:mPut L k v c=L.modify j fun e=>{ e with val:=v }:=by simp [mPut,hn]
  have e2:mCnt L k c=c:=by simp [mCnt,hn]
  rw [e1,e2];simp only [Instr.mapUpdate,Sem.run_bind,run_underlying ht,Result.andThen_ok];have hg:(getObj m).run P w = .ok (.map (L.map (MEnt.ent kc)).toArray c) w:=by simp [getObj,Sem.run,show w.heap[m]? = _ from h]
  have hset : ∀ o,(setObj m o).run P w = .ok () { w with heap:=w.heap.setIfInBounds m o }:=fun o=>by simp [setObj,Sem.run,show w.heap[m]? = _ from h]
  simp only [hg,Sem.run_bind,Result.andThen_ok,hk.chk,run_findKeyM hk,hn]
  have hke:Instr.keyThatStays (kc L[j].key) (kc k)=(pure (kc k):Sem Value):=by
   unfold Instr.keyThatStays;rw [hkey,if_pos (hs k)]
  have hl:((L.map (MEnt.ent kc)).modify j fun e=>{ key:=kc k,val:=v,born:=e.born })=(L.modify j fun e=>{ e with val:=v }).map (MEnt.ent kc):=by
   apply List.ext_getElem?
   intro i;simp only [List.getElem?_modify,List.getElem?_map];by_cases hi:j=i
   · subst hi
     simp [hj,MEnt.ent,hkey]
   · simp [hi]
  simp [hj,MEnt.ent,hke,hset,mSet]
  congr 2
  simpa [MEnt.ent] using hl
theorem mGet_cons {K:Type} [DecidableEq K] (e:MEnt K) (L:List (MEnt K)) (k:K):mGet (e::L) k=if k=e.key then some e.val else mGet L k:=by
 unfold mGet;rw [List.find?_cons];by_cases h:k=e.key <;> simp [h]
theorem mGet_append {K:Type} [DecidableEq K] (L M:List (MEnt K)) (k:K):mGet (L ++ M) k=(mGet L k).or (mGet M k):=by
 induction L with
 | nil=>simp [mGet]
 | cons e L ih =>
  rw [List.cons_append,mGet_cons,mGet_cons,ih];split <;> simp
theorem mIdx_cons {K:Type} [DecidableEq K] (e:MEnt K) (L:List (MEnt K)) (k:K):mIdx (e::L) k=if k=e.key then some 0 else (mIdx L k).map (· + 1):=by
 unfold mIdx;rw [List.findIdx?_cons];by_cases h:k=e.key <;> simp [h]
theorem mGet_put {K:Type} [DecidableEq K] (L:List (MEnt K)) (k:K) (v:Value) (c:Nat) (k':K):mGet (mPut L k v c) k'=if k'=k then some v else mGet L k':=by
 cases hn:mIdx L k with
 | none =>
  have e1:mPut L k v c=L ++ [⟨k,v,c⟩]:=by simp [mPut,hn]
  have hg:=mIdx_none.1 hn;rw [e1,mGet_append,mGet_cons];by_cases h:k'=k
  · subst h; simp [hg]
  · simp [h,mGet]
 | some j =>
  have e1:mPut L k v c=L.modify j fun e=>{ e with val:=v }:=by simp [mPut,hn]
  rw [e1];clear e1;induction L generalizing j with
  | nil=>simp [mIdx] at hn
  | cons e L ih =>
   rw [mIdx_cons] at hn;by_cases h:k=e.key
   · rw [if_pos h] at hn
     cases hn
     rw [List.modify_cons,if_pos rfl,mGet_cons,mGet_cons];simp only [← h];by_cases h2:k'=k <;> simp [h2]
   · rw [if_neg h] at hn
     obtain ⟨i,hi,rfl⟩:=Option.map_eq_some_iff.1 hn;rw [List.modify_cons,if_neg (by omega),mGet_cons,mGet_cons,Nat.add_sub_cancel,ih i hi];by_cases h2:k'=e.key
     · have : ¬ k'=k:=fun e3=>h (e3.symm.trans h2)
       simp [h2,show ¬ e.key=k from fun e3=>h e3.symm]
     · simp [h2]
structure Only (F:Nat→Prop) (w w':World):Prop where
 os:w'.os=w.os
 tape:w'.tape=w.tape
 output:w'.output=w.output
 size:w.heap.size≤w'.heap.size
 block : ∀ k,k<w.heap.size → ¬ F k→w'.heap[k]? = w.heap[k]?
theorem Only.refl (F:Nat→Prop) (w:World):Only F w w:=⟨rfl,rfl,rfl,Nat.le_refl _,fun _ _ _=>rfl⟩
theorem Only.trans {F G:Nat→Prop} {a b c:World} (h:Only F a b) (k:Only G b c) (hG : ∀ k,k<a.heap.size→G k→F k):Only F a c :=
 ⟨k.os.trans h.os,k.tape.trans h.tape,k.output.trans h.output,Nat.le_trans h.size k.size,fun i hi hF=>(k.block i (Nat.lt_of_lt_of_le hi h.size) (fun h=>hF (hG i hi h))).trans (h.block i hi hF)⟩
theorem Only.of {F:Nat→Prop} {w w':World} (h:Below w.heap.size w w'):Only F w w':=⟨h.os,h.tape,h.output,h.size,fun k hk _=>h.block k hk⟩
theorem Only.grown {F:Nat→Prop} {w w':World} {row:Option Nat} (h:w.grownBy w' row) (hr : ∀ k,row=some k→F k):Only F w w' :=
 ⟨h.os,h.tape,h.output,h.size,fun k hk hF=>h.block k hk fun e=>hF (hr k e.symm)⟩
theorem Only.below {F:Nat→Prop} {B:Nat} {w w':World} (h:Only F w w') (hB:B≤w.heap.size) (hF : ∀ k,F k→B≤k):Below B w w' :=
 ⟨h.os,h.tape,h.output,h.size,fun k hk=>h.block k (by omega) fun e=>by have:=hF k e; omega⟩
theorem Only.mono {F G:Nat→Prop} {w w':World} (h:Only F w w') (hG : ∀ k,k<w.heap.size→F k→G k):Only G w w':=⟨h.os,h.tape,h.output,h.size,fun k hk hg=>h.block k hk fun e=>hg (hG k hk e)⟩
theorem Box.only {F:Nat→Prop} {w w':World} {b:Nat} {cs:List Value} (h:Box w b cs) (ho:Only F w w') (hb : ¬ F b):Box w' b cs :=
 ⟨Nat.lt_of_lt_of_le h.lt ho.size,fun j u hu=>(World.cell?_of_block (by exact ho.block b h.lt hb)).trans (h.cell j u hu),fun j=>(World.frozen?_of_block (by exact ho.block b h.lt hb)).trans (h.free j)⟩
theorem MMap.only {K:Type} {kc:K→Value} {F:Nat→Prop} {w w':World} {m:Nat} {L:List (MEnt K)} {c:Nat} (h:MMap kc w m L c) (ho:Only F w w') (hb : ¬ F m):MMap kc w' m L c:=(ho.block m h.lt hb).trans h
theorem Owns.only {α:Type} {F:Nat→Prop} {base:Nat} {E:TypeId} {n:Nat} {C:α→List Value} {w w':World} {v:Value} {l:List α} (h:Owns base E n C w v l) (ho:Only F w w') (hb : ∀ k,v.ownBlock=some k → ¬ F k):Owns base E n C w' v l:=by
 have hlt:=h.lt;obtain ⟨h1,h2⟩:=h;refine ⟨h1,?_⟩
 rcases h2 with h2 | ⟨g,cap,cur,rfl,hg,hc,h3⟩
 · exact .inl h2
 · exact .inr ⟨g,cap,cur,rfl,hg,(ho.block g (hlt g rfl).2 (hb g rfl)).trans hc,h3⟩
def gavSm (g:Gav):Prop:=g.group.size≤9223372036854775807∧g.artifact.size≤9223372036854775807∧g.version.size≤9223372036854775807
set_option maxHeartbeats 2000000 in
theorem mayGav_any (g:Gav) (w:World) (h:gavSm g) :
    Calls Tryz.prog 40 #[.agg #[.string g.group,.string g.artifact,.string g.version]] w fun e w'=>e = .returned (.bool (gavMay g))∧Below w.heap.size w w':=by
 have HH:=Lib.hid h;clear h;go_enter Tryz.func40,Tryz.ntmps40
 go_wp2_with fail
 refine Calls.world ?_
 intro W hW;have x0:Box W w.heap.size [.string g.group,.string g.artifact,.string g.version]:=by rw [hW]; exact Box.new w _ _ _ rfl
 have hB0:Below w.heap.size w W:=by rw [hW]; exact (Below.refl _ _).alloc (Nat.le_refl _) _
 have X:=Lib.hid x0;have HB:=Lib.hid hB0;clear hW x0 hB0;refine (isId_any g.group _ HH.out.1).mono ?_
 rintro e w0 ⟨rfl,hb⟩;have X':=Lib.hid (X.out.below hb X.out.lt);have HB':=Lib.hid (HB.out.trans (hb.mono HB.out.size));clear hb X HB;have X:=X';have HB:=HB';clear X' HB';cases hq:isIdB g.group
 · have HQ0:=Lib.hid hq
   clear hq;have c0:=X.out.cell 0 _ rfl;have c1:=X.out.cell 1 _ rfl;have c2:=X.out.cell 2 _ rfl;have l0:=X.out.lt;go_wp2
   go_ret
   exact ⟨ret_bool (by have z:=True.intro; unfold gavMay; rw [HQ0.out] <;> (first | done | (simp; done) | (simp; omega) | omega)),HB.out⟩
 have HQ0:=Lib.hid hq;clear hq;have c0:=X.out.cell 0 _ rfl;have c1:=X.out.cell 1 _ rfl;have c2:=X.out.cell 2 _ rfl;have l0:=X.out.lt;go_wp2_with fail
 refine (isId_any g.artifact _ HH.out.2.1).mono ?_
 rintro e w1 ⟨rfl,hb⟩;have X':=Lib.hid (X.out.below hb X.out.lt);have HB':=Lib.hid (HB.out.trans (hb.mono HB.out.size));clear hb X HB;clear c0 c1 c2 l0;have X:=X';have HB:=HB';clear X' HB';cases hq:isIdB g.artifact
 · have HQ1:=Lib.hid hq
   clear hq;have c0:=X.out.cell 0 _ rfl;have c1:=X.out.cell 1 _ rfl;have c2:=X.out.cell 2 _ rfl;have l0:=X.out.lt;go_wp2
   go_ret
   exact ⟨ret_bool (by have z:=True.intro; unfold gavMay; rw [HQ0.out,HQ1.out] <;> (first | done | (simp; done) | (simp; omega) | omega)),HB.out⟩
 have HQ1:=Lib.hid hq;clear hq;have c0:=X.out.cell 0 _ rfl;have c1:=X.out.cell 1 _ rfl;have c2:=X.out.cell 2 _ rfl;have l0:=X.out.lt;go_wp2_with fail
 refine (ver_any g.version _ HH.out.2.2).mono ?_
 rintro e w2 ⟨rfl,hb⟩;have X':=Lib.hid (X.out.below hb X.out.lt);have HB':=Lib.hid (HB.out.trans (hb.mono HB.out.size));clear hb X HB;clear c0 c1 c2 l0;have X:=X';have HB:=HB';clear X' HB';cases hq:verMay g.version
 · have HQ2:=Lib.hid hq
   clear hq;have c0:=X.out.cell 0 _ rfl;have c1:=X.out.cell 1 _ rfl;have c2:=X.out.cell 2 _ rfl;have l0:=X.out.lt;go_wp2
   go_ret
   exact ⟨ret_bool (by have z:=True.intro; unfold gavMay; rw [HQ0.out,HQ1.out,HQ2.out] <;> (first | done | (simp; done) | (simp; omega) | omega)),HB.out⟩
 have HQ2:=Lib.hid hq;clear hq;have c0:=X.out.cell 0 _ rfl;have c1:=X.out.cell 1 _ rfl;have c2:=X.out.cell 2 _ rfl;have l0:=X.out.lt;go_wp2
 go_ret
 exact ⟨ret_bool (by have z:=True.intro; unfold gavMay; rw [HQ0.out,HQ1.out,HQ2.out] <;> (first | done | (simp; done) | (simp; omega) | omega)),HB.out⟩
theorem info_str:(Tryz.prog.info? 9).map (fun i=>(i.zero,i.size,i.bytes))=some (some (.string ⟨#[]⟩),1,16):=by kernel_rfl
theorem strC_len (s:S):(strC s).length=1:=rfl
theorem prpC_len2 (x:Prp):(prpC x).length=2:=rfl
theorem Box.apart {w:World} {b c:Nat} {cs:List Value} (h:Box w b cs) (hne:b≠c) (j:Nat) (v:Value):Box (w.setCell ⟨c,j,none⟩ v) b cs:=h.grown (setCell_grown w c j v) (by simpa using hne)
theorem idC_len2 (x:Id):(idC x).length=2:=rfl
theorem depC_len8 (x:Dep × Value):(depC x).length=8:=rfl
structure DepsOwn (base:Nat) (w:World) (v:Value) (ds:List Dep) (L:List (Dep × Value)):Prop where
 row:Owns base 226 8 depC w v L
 are:L.map (·.1)=ds
 excl : ∀ p ∈ L,Owns base 23 2 idC w p.2 p.1.excl
theorem DepsOwn.below {base:Nat} {w w':World} {v:Value} {ds:List Dep} {L:List (Dep × Value)} (h:DepsOwn base w v ds L) (hb:Below w.heap.size w w'):DepsOwn base w' v ds L :=
 ⟨h.row.below hb,h.are,fun p hp=>(h.excl p hp).below hb⟩
theorem DepsOwn.base_mono {base B:Nat} {w:World} {v:Value} {ds:List Dep} {L:List (Dep × Value)} (h:DepsOwn base w v ds L) (hb:B≤base):DepsOwn B w v ds L :=
 ⟨h.row.base_mono hb,h.are,fun p hp=>(h.excl p hp).base_mono hb⟩
theorem DepsOwn.nil (base:Nat) (w:World):DepsOwn base w (.slice none 0 0) [] []:=⟨Owns.nil,rfl,by simp⟩
theorem DepsOwn.of {base:Nat} {w:World} {v:Value} {ds:List Dep} {L:List (Dep × Value)} (h:DepsOwn base w v ds L):DepsOf w v ds :=
 ⟨L,h.are,h.row.slice depC_len8,fun p hp=>(h.excl p hp).slice idC_len2⟩
theorem DepsOwn.keptR {base:Nat} {w w':World} {v:Value} {ds:List Dep} {L:List (Dep × Value)} {r:Nat} (h:DepsOwn base w v ds L) (hg:w.grownBy w' (some r)) (hr:r<base):DepsOwn base w' v ds L :=
 ⟨h.row.keptR hg hr,h.are,fun p hp=>(h.excl p hp).keptR hg hr⟩
structure PomOwn (base:Nat) (w:World) (p:Pom) (pv mv dv:Value):Prop where
 props:Owns base 223 2 prpC w pv p.props
 managed : ∃ L,DepsOwn base w mv p.managed L
 deps : ∃ L,DepsOwn base w dv p.deps L
theorem PomOwn.below {base:Nat} {w w':World} {p:Pom} {pv mv dv:Value} (h:PomOwn base w p pv mv dv) (hb:Below w.heap.size w w'):PomOwn base w' p pv mv dv :=
 ⟨h.props.below hb,let ⟨L,h1⟩:=h.managed; ⟨L,h1.below hb⟩,let ⟨L,h1⟩:=h.deps; ⟨L,h1.below hb⟩⟩
theorem PomOwn.keptR {base r:Nat} {w w':World} {p:Pom} {pv mv dv:Value} (h:PomOwn base w p pv mv dv) (hg:w.grownBy w' (some r)) (hr:r<base):PomOwn base w' p pv mv dv :=
 ⟨h.props.keptR hg hr,let ⟨L,h1⟩:=h.managed; ⟨L,h1.keptR hg hr⟩,let ⟨L,h1⟩:=h.deps; ⟨L,h1.keptR hg hr⟩⟩
theorem PomOwn.base_mono {base B:Nat} {w:World} {p:Pom} {pv mv dv:Value} (h:PomOwn base w p pv mv dv) (hb:B≤base):PomOwn B w p pv mv dv :=
 ⟨h.props.base_mono hb,let ⟨L,h1⟩:=h.managed; ⟨L,h1.base_mono hb⟩,let ⟨L,h1⟩:=h.deps; ⟨L,h1.base_mono hb⟩⟩
theorem PomOwn.of {base:Nat} {w:World} {p:Pom} {pv mv dv:Value} (h:PomOwn base w p pv mv dv):PomOf w (.agg (pomC p pv mv dv).toArray) p pv mv dv :=
 ⟨rfl,h.props.slice prpC_len2,let ⟨_,h1⟩:=h.managed; h1.of,let ⟨_,h1⟩:=h.deps; h1.of⟩
structure Prob where
 err:Int
 gav:Gav
 off:Int
 line:Int
 col:Int
 whr:S
def probC (x:Prob):List Value:=[.int .i64 x.err,.string x.gav.group,.string x.gav.artifact,.string x.gav.version,.int .i64 x.off,.int .i64 x.line,.int .i64 x.col,.string x.whr]
def noS:S:=⟨#[]⟩
def gavZ:Gav:=⟨noS,noS,noS⟩
def probZ:Prob:=⟨0,gavZ,0,0,0,noS⟩
def pomZ:Pom:=⟨false,gavZ,noS,noS,noS,noS,[],[],[]⟩
structure SEnt where
 gav:Gav
 text:S
 done:Bool
 pom:Pom
 prob:Prob
def freshE (g:Gav) (s:S):SEnt:=⟨g,s,false,pomZ,probZ⟩
def kGav (g:Gav):Value:=.agg (gavC g).toArray
def kId (x:Id):Value:=.agg (idC x).toArray
def idOf (g:Gav):Id:=⟨g.group,g.artifact⟩
def ptr (b:Nat):Value:=.pointer (some ⟨b,0,none⟩)
theorem Owns.moved {α:Type} {base:Nat} {E:TypeId} {n:Nat} {C:α→List Value} {w w':World} {v:Value} {l:List α} (h:Owns base E n C w v l) (hk : ∀ k,base≤k→k<w.heap.size→w'.heap[k]? = w.heap[k]?):Owns base E n C w' v l:=by
 have hlt:=h.lt;obtain ⟨h1,h2⟩:=h;refine ⟨h1,?_⟩
 rcases h2 with h2 | ⟨g,cap,cur,rfl,hg,hc,h3⟩
 · exact .inl h2
 · exact .inr ⟨g,cap,cur,rfl,hg,(hk g hg (hlt g rfl).2).trans hc,h3⟩
theorem DepsOwn.moved {base:Nat} {w w':World} {v:Value} {ds:List Dep} {L:List (Dep × Value)} (h:DepsOwn base w v ds L) (hk : ∀ k,base≤k→k<w.heap.size→w'.heap[k]? = w.heap[k]?):DepsOwn base w' v ds L :=
 ⟨h.row.moved hk,h.are,fun p hp=>(h.excl p hp).moved hk⟩
theorem PomOwn.moved {base:Nat} {w w':World} {p:Pom} {pv mv dv:Value} (h:PomOwn base w p pv mv dv) (hk : ∀ k,base≤k→k<w.heap.size→w'.heap[k]? = w.heap[k]?):PomOwn base w' p pv mv dv :=
 ⟨h.props.moved hk,let ⟨L,h1⟩:=h.managed; ⟨L,h1.moved hk⟩,let ⟨L,h1⟩:=h.deps; ⟨L,h1.moved hk⟩⟩
def PomKept (F:Nat→Prop) (w:World) (p:Pom) (pv mv dv:Value):Prop:=∃ w0 base,PomOwn base w0 p pv mv dv∧w0.heap.size≤w.heap.size ∧ ∀ k,base≤k→k<w0.heap.size → ¬ F k∧w.heap[k]? = w0.heap[k]?
theorem PomKept.own {F:Nat→Prop} {w:World} {p:Pom} {pv mv dv:Value} (h:PomKept F w p pv mv dv) : ∃ base,PomOwn base w p pv mv dv:=by
 obtain ⟨w0,base,h1,h2,h3⟩:=h;exact ⟨base,h1.moved fun k a b=>(h3 k a b).2⟩
theorem PomKept.only {F G:Nat→Prop} {w w':World} {p:Pom} {pv mv dv:Value} (h:PomKept F w p pv mv dv) (ho:Only F w w') (hG : ∀ k,k<w.heap.size→G k→F k):PomKept G w' p pv mv dv:=by
 obtain ⟨w0,base,h1,h2,h3⟩:=h;refine ⟨w0,base,h1,Nat.le_trans h2 ho.size,fun k a b=>?_⟩
 have hk:k<w.heap.size:=by omega
 exact ⟨fun e=>(h3 k a b).1 (hG k hk e),(ho.block k hk (h3 k a b).1).trans (h3 k a b).2⟩
theorem PomKept.no (F:Nat→Prop) (w:World):PomKept F w pomZ (.slice none 0 0) (.slice none 0 0) (.slice none 0 0) :=
 ⟨w,w.heap.size,⟨Owns.nil,⟨[],DepsOwn.nil _ _⟩,⟨[],DepsOwn.nil _ _⟩⟩,Nat.le_refl _,fun k a b=>by omega⟩
theorem PomKept.new {F:Nat→Prop} {w':World} {p:Pom} {pv mv dv:Value} {base:Nat} (h:PomOwn base w' p pv mv dv) (hF : ∀ k,F k→k<base):PomKept F w' p pv mv dv :=
 ⟨w',base,h,Nat.le_refl _,fun k a b=>⟨fun e=>by have:=hF k e; omega,rfl⟩⟩
def entC (e:SEnt) (pv mv dv:Value):List Value:=[.string e.text,.int .u32 (if e.done then 1 else 0),.int .i32 0,.int .u32 0] ++ pomC e.pom pv mv dv ++ probC e.prob
def EntryAt (F:Nat→Prop) (w:World) (b:Nat) (e:SEnt):Prop:=∃ pv mv dv,Box w b (entC e pv mv dv)∧PomKept F w e.pom pv mv dv
theorem EntryAt.only {F G:Nat→Prop} {w w':World} {b:Nat} {e:SEnt} (h:EntryAt F w b e) (ho:Only F w w') (hG : ∀ k,k<w.heap.size→G k→F k) (hb:w'.heap[b]? = w.heap[b]?):EntryAt G w' b e:=by
 obtain ⟨pv,mv,dv,h1,h2⟩:=h;refine ⟨pv,mv,dv,⟨Nat.lt_of_lt_of_le h1.lt ho.size,fun j u hu=>(World.cell?_of_block hb).trans (h1.cell j u hu),fun j=>(World.frozen?_of_block hb).trans (h1.free j)⟩,h2.only ho hG⟩
def versOf (es:List (SEnt × Nat)) (x:Id):List S:=((es.map fun e=>e.1.gav).filter fun g=>decide (idOf g=x)).map fun g=>g.version
structure StoreIn (F:Nat→Prop) (w:World) (b me mv:Nat) (L:List (MEnt Gav)) (cl:Nat) (V:List (MEnt Id)) (cv:Nat) (es:List (SEnt × Nat)) (r a:Int):Prop where
 box:Box w b [.map (some me),.map (some mv),.int .i64 r,.int .i64 a]
 ents:MMap kGav w me L cl
 vers:MMap kId w mv V cv
 same:L.map (fun e=>(e.key,e.val))=es.map fun e=>(e.1.gav,ptr e.2)
 ent : ∀ e ∈ es,EntryAt F w e.2 e.1
 row : ∀ x,(mGet V x=none∧versOf es x=[]) ∨ ∃ v,mGet V x=some v∧Owns 0 9 1 strC w v (versOf es x)
 rows : ∀ x v k,mGet V x=some v→v.ownBlock=some k→F k∧k≠b∧k≠me∧k≠mv ∧ ∀ e ∈ es,e.2≠k
 apart : ∀ x y v u k,mGet V x=some v→mGet V y=some u→v.ownBlock=some k→u.ownBlock=some k→x=y
 own:F b∧F me∧F mv ∧ ∀ e ∈ es,F e.2
 lt : ∀ k,F k→k<w.heap.size
 ne:b≠me∧b≠mv∧me≠mv ∧ ∀ e ∈ es,e.2≠b∧e.2≠me∧e.2≠mv
 each:(es.map (·.2)).Nodup
 once:(es.map fun e=>e.1.gav).Nodup
def StoreAt (F:Nat→Prop) (w:World) (b:Nat) (es:List (SEnt × Nat)) (r a:Int):Prop:=∃ me mv L cl V cv,StoreIn F w b me mv L cl V cv es r a
theorem StoreIn.only {F G:Nat→Prop} {w w':World} {b me mv:Nat} {L:List (MEnt Gav)} {cl:Nat} {V:List (MEnt Id)} {cv:Nat} {es:List (SEnt × Nat)} {r a:Int} (h:StoreIn F w b me mv L cl V cv es r a) (ho:Only G w w') (hG : ∀ k,F k → ¬ G k)
    (hP : ∀ e ∈ es,EntryAt F w' e.2 e.1):StoreIn F w' b me mv L cl V cv es r a :=
 ⟨h.box.only ho (hG _ h.own.1),h.ents.only ho (hG _ h.own.2.1),h.vers.only ho (hG _ h.own.2.2.1),h.same,hP,
  fun x=>(h.row x).imp id fun ⟨v,h1,h2⟩=>⟨v,h1,h2.only ho fun k hk=>hG _ (h.rows x v k h1 hk).1⟩,h.rows,h.apart,h.own,fun k hk=>Nat.lt_of_lt_of_le (h.lt k hk) ho.size,h.ne,h.each,h.once⟩
theorem StoreAt.below {F:Nat→Prop} {w w':World} {b:Nat} {es:List (SEnt × Nat)} {r a:Int} (h:StoreAt F w b es r a) (hb:Below w.heap.size w w'):StoreAt F w' b es r a:=by
 obtain ⟨me,mv,L,cl,V,cv,h⟩:=h;exact ⟨me,mv,L,cl,V,cv,h.only (Only.of (F:=fun _=>False) hb) (fun _ _=>id) fun e he=>(h.ent e he).only (Only.of hb) (fun _ _=>id) (hb.block _ (h.lt _ (h.own.2.2.2 e he)))⟩
theorem StoreIn.get {F:Nat→Prop} {w:World} {b me mv:Nat} {L:List (MEnt Gav)} {cl:Nat} {V:List (MEnt Id)} {cv:Nat} {es:List (SEnt × Nat)} {r a:Int} (h:StoreIn F w b me mv L cl V cv es r a) (g:Gav) :
    mGet L g=(es.find? fun e=>decide (g=e.1.gav)).map fun e=>ptr e.2:=by
 have hs:=h.same;clear h;induction L generalizing es with
 | nil =>
  cases es with
  | nil=>rfl
  | cons e es=>simp at hs
 | cons m L ih =>
  cases es with
  | nil=>simp at hs
  | cons e es =>
   simp only [List.map_cons,List.cons.injEq,Prod.mk.injEq] at hs;rw [mGet_cons,List.find?_cons,hs.1.1,hs.1.2];by_cases hg:g=e.1.gav
   · simp [hg]
   · simp [hg,ih hs.2]
def hasG (es:List (SEnt × Nat)) (g:Gav):Bool:=(es.find? fun e=>decide (g=e.1.gav)).isSome
theorem StoreIn.len {F:Nat→Prop} {w:World} {b me mv:Nat} {L:List (MEnt Gav)} {cl:Nat} {V:List (MEnt Id)} {cv:Nat} {es:List (SEnt × Nat)} {r a:Int} (h:StoreIn F w b me mv L cl V cv es r a):L.length=es.length:=by
 have:=congrArg List.length h.same
 simpa using this
def nilS:Value:=.slice none 0 0
def rowV (V:List (MEnt Id)) (x:Id):Value:=(mGet V x).getD nilS
theorem StoreIn.rowV_owns {F:Nat→Prop} {w:World} {b me mv:Nat} {L:List (MEnt Gav)} {cl:Nat} {V:List (MEnt Id)} {cv:Nat} {es:List (SEnt × Nat)} {r a:Int} (h:StoreIn F w b me mv L cl V cv es r a) (x:Id):Owns 0 9 1 strC w (rowV V x) (versOf es x):=by
 unfold rowV;rcases h.row x with ⟨h1,h2⟩ | ⟨v,h1,h2⟩
 · rw [h1,h2]; exact Owns.nil
 · rw [h1]; exact h2
theorem StoreIn.rowV_at {F:Nat→Prop} {w:World} {b me mv:Nat} {L:List (MEnt Gav)} {cl:Nat} {V:List (MEnt Id)} {cv:Nat} {es:List (SEnt × Nat)} {r a:Int} (h:StoreIn F w b me mv L cl V cv es r a) (x:Id) {k:Nat} (hk:(rowV V x).ownBlock=some k) :
    F k∧k≠b∧k≠me∧k≠mv ∧ ∀ e ∈ es,e.2≠k:=by
 unfold rowV at hk;cases h1:mGet V x with
 | none=>rw [h1] at hk; cases hk
 | some v=>rw [h1] at hk; exact h.rows x v k h1 hk
theorem versOf_snoc (es:List (SEnt × Nat)) (e:SEnt × Nat) (x:Id):versOf (es ++ [e]) x=versOf es x ++ if idOf e.1.gav=x then [e.1.gav.version] else []:=by
 unfold versOf;rw [List.map_append,List.filter_append,List.map_append];by_cases h:idOf e.1.gav=x <;> simp [h]
theorem hasG_none {es:List (SEnt × Nat)} {g:Gav} (h:hasG es g=false) : ∀ e ∈ es,e.1.gav≠g:=by
 unfold hasG at h;rw [Option.isSome_eq_false_iff,Option.isNone_iff_eq_none,List.find?_eq_none] at h;intro e he h2;exact h e he (by simp [h2])
theorem StoreIn.put {F:Nat→Prop} {w w1 w2 w3 w4:World} {b me mv eb:Nat} {L:List (MEnt Gav)} {cl:Nat} {V:List (MEnt Id)} {cv:Nat} {es:List (SEnt × Nat)} {r a:Int} {g:Gav} {s:S} {v':Value} (h:StoreIn F w b me mv L cl V cv es r a) (hn:hasG es g=false)
    (h1:Below w.heap.size w w1) (hbx:Box w1 eb (entC (freshE g s) nilS nilS nilS)) (heb:w.heap.size≤eb) (h2:Below w1.heap.size (mSet kGav w1 me (mPut L g (ptr eb) cl) (mCnt L g cl)) w2)
    (h3:w2.grownBy w3 (rowV V (idOf g)).ownBlock) (ho:Owns 0 9 1 strC w3 v' (versOf es (idOf g) ++ [g.version])) (hv':v'.ownBlock=(rowV V (idOf g)).ownBlock ∨ ∃ k,w1.heap.size≤k∧v'.ownBlock=some k)
    (h4:w4=mSet kId w3 mv (mPut V (idOf g) v' cv) (mCnt V (idOf g) cv)) :
    (∃ F',StoreIn F' w4 b me mv (mPut L g (ptr eb) cl) (mCnt L g cl) (mPut V (idOf g) v' cv) (mCnt V (idOf g) cv) (es ++ [(freshE g s,eb)]) r a∧(∀ k,k<w.heap.size→F' k→F k))∧Only F w w4:=by
 have hV:=fun k=>h.rowV_at (idOf g) (k:=k);have s1:=h1.size;have s2:w1.heap.size≤w2.heap.size:=by have:=h2.size; simpa [mSet] using this
 have s3:=h3.size;have s4:w4.heap.size=w3.heap.size:=by rw [h4]; simp [mSet]
 have lb:=h.lt _ h.own.1;have lme:=h.lt _ h.own.2.1;have lmv:=h.lt _ h.own.2.2.1;have le_ : ∀ e ∈ es,e.2<w.heap.size:=fun e he=>h.lt _ (h.own.2.2.2 e he);have lV : ∀ k,(rowV V (idOf g)).ownBlock=some k→k<w.heap.size:=fun k hk=>h.lt _ (hV k hk).1;have leb:=hbx.lt;have o12:Only (fun k=>k=me) w1 w2:=(Only.grown (mSet_grown w1 me (mPut L g (ptr eb) cl) (mCnt L g cl)) (by rintro k ⟨⟩; rfl)).trans (Only.of (F:=fun k=>k=me) (by have:=h2; simpa [mSet] using this)) (fun _ _=>id);have o23:Only (fun k=>(rowV V (idOf g)).ownBlock=some k) w2 w3:=Only.grown h3 fun k hk=>hk;have o34:Only (fun k=>k=mv) w3 w4:=by rw [h4]; exact Only.grown (mSet_grown w3 mv _ _) (by rintro k ⟨⟩; rfl)
 have o24:Only (fun k=>(rowV V (idOf g)).ownBlock=some k∨k=mv) w2 w4:=(o23.mono fun _ _=>Or.inl).trans o34 fun _ _=>Or.inr;have o14:Only (fun k=>k=me∨(rowV V (idOf g)).ownBlock=some k∨k=mv) w1 w4:=(o12.mono fun _ _=>Or.inl).trans o24 fun _ _=>Or.inr;have o04:Only (fun k=>k=me∨(rowV V (idOf g)).ownBlock=some k∨k=mv) w w4:=(Only.of h1).trans o14 fun _ _=>id
 have o04F:Only F w w4:=o04.mono fun k _ hG=>by
  rcases hG with rfl | e | rfl
  · exact h.own.2.1
  · exact (hV k e).1
  · exact h.own.2.2.1
 have o03:Only (fun k=>k=me∨(rowV V (idOf g)).ownBlock=some k) w w3:=((Only.of (F:=fun k=>k=me) h1).trans o12 fun _ _=>id).mono (fun _ _=>Or.inl) |>.trans o23 fun _ _=>Or.inr
 have hmi:mIdx L g=none:=by
  rw [mIdx_none,h.get,List.find?_eq_none.2 (fun e he=>by have:=hasG_none hn e he; simp [Ne.symm this])];rfl
 have hvk : ∀ k,v'.ownBlock=some k→(F k∧k<w.heap.size∧k≠b∧k≠me∧k≠mv ∧ ∀ e ∈ es,e.2≠k)∨(w1.heap.size≤k):=fun k hk=>by
  rcases hv' with e | ⟨k',hle,e⟩
  · rw [e] at hk
    exact .inl ⟨(hV k hk).1,lV k hk,(hV k hk).2⟩
  · rw [e] at hk; cases hk; exact .inr hle
 have lv' : ∀ k,v'.ownBlock=some k→k<w3.heap.size:=fun k hk=>(ho.lt k hk).2;refine ⟨⟨fun k=>F k∨(w.heap.size≤k∧k<w4.heap.size),?_,fun k hk hF=>hF.resolve_right (by omega)⟩,o04F⟩
 · refine ⟨h.box.only o04 ?_,?_,?_,?_,?_,?_,?_,?_,?_,?_,?_,?_,?_⟩
   · rintro (e | e | e)
     · exact h.ne.1 e
     · exact (hV b e).2.1 rfl
     · exact h.ne.2.1 e
   · have e1:MMap kGav w1 me L cl:=h.ents.below h1 lme
     have e2:MMap kGav w2 me (mPut L g (ptr eb) cl) (mCnt L g cl):=(mSet_is e1).below h2 (by omega);refine e2.only o24 ?_
     rintro (e | e)
     · exact (hV me e).2.2.1 rfl
     · exact h.ne.2.2.1 e
   · rw [h4]
     refine mSet_is (L:=V) (c:=cv) (h.vers.only o03 ?_)
     rintro (e | e)
     · exact h.ne.2.2.1 e.symm
     · exact (hV mv e).2.2.2.1 rfl
   · have:mPut L g (ptr eb) cl=L ++ [⟨g,ptr eb,cl⟩]:=by simp [mPut,hmi]
     rw [this,List.map_append,List.map_append,h.same];rfl
   · intro e he
     rcases List.mem_append.1 he with he | he
     · refine (h.ent e he).only o04F (fun k hk hF=>hF.resolve_right (by omega)) (o04.block _ (le_ e he) ?_)
       rintro (e2 | e2 | e2)
       · exact (h.ne.2.2.2 e he).2.1 e2
       · exact (hV _ e2).2.2.2.2 e he rfl
       · exact (h.ne.2.2.2 e he).2.2 e2
     · obtain rfl:=List.mem_singleton.1 he
       refine ⟨nilS,nilS,nilS,hbx.only o14 ?_,PomKept.no _ _⟩
       rintro (e2 | e2 | e2)
       · subst e2; omega
       · have:=lV _ e2; omega
       · subst e2; omega
   · intro x
     rw [mGet_put,versOf_snoc];by_cases hx:x=idOf g
     · subst hx
       refine .inr ⟨v',by simp,?_⟩
       rw [if_pos (show idOf (freshE g s,eb).1.gav=idOf g from rfl)];refine ho.only o34 fun k hk e=>?_
       rcases hvk k hk with hh | hh
       · exact hh.2.2.2.2.1 e
       · subst e; omega
     · rw [if_neg hx,if_neg (fun e=>hx e.symm),List.append_nil]
       refine (h.row x).imp id fun ⟨v,e1,e2⟩=>⟨v,e1,e2.only o04 fun k hk=>?_⟩
       have hr:=h.rows x v k e1 hk;rintro (e3 | e3 | e3)
       · exact hr.2.2.1 e3
       · cases hm:mGet V (idOf g) with
         | none=>simp [rowV,hm,nilS,Value.ownBlock] at e3
         | some u =>
          simp only [rowV,hm,Option.getD_some] at e3;exact hx (h.apart x (idOf g) v u k e1 hm hk e3)
       · exact hr.2.2.2.1 e3
   · intro x v k hv hk
     rw [mGet_put] at hv;by_cases hx:x=idOf g
     · rw [if_pos hx] at hv
       cases hv
       rcases hvk k hk with ⟨hF,hlt,e1,e2,e3,e4⟩ | hh
       · refine ⟨.inl hF,e1,e2,e3,fun e he=>?_⟩
         rcases List.mem_append.1 he with he | he
         · exact e4 e he
         · obtain rfl:=List.mem_singleton.1 he
           show eb≠k
           omega
       · have:=lv' k hk
         refine ⟨.inr ⟨by omega,by omega⟩,by omega,by omega,by omega,fun e he=>?_⟩
         rcases List.mem_append.1 he with he | he
         · have:=le_ e he; omega
         · obtain rfl:=List.mem_singleton.1 he
           show eb≠k
           omega
     · rw [if_neg hx] at hv
       obtain ⟨hF,e1,e2,e3,e4⟩:=h.rows x v k hv hk;have hlt:=h.lt k hF;refine ⟨.inl hF,e1,e2,e3,fun e he=>?_⟩
       rcases List.mem_append.1 he with he | he
       · exact e4 e he
       · obtain rfl:=List.mem_singleton.1 he
         show eb≠k
         omega
   · have hold : ∀ y u k,mGet V y=some u→u.ownBlock=some k→v'.ownBlock=some k→y=idOf g:=fun y u k hu hk hk'=>by
      rcases hv' with e | ⟨k',hle,e⟩
      · rw [e] at hk'
        cases hm:mGet V (idOf g) with
        | none=>simp [rowV,hm,nilS,Value.ownBlock] at hk'
        | some z =>
         simp only [rowV,hm,Option.getD_some] at hk';exact h.apart y (idOf g) u z k hu hm hk hk'
      · rw [e] at hk'; cases hk'
        have:=h.lt k (h.rows y u k hu hk).1
        omega
     intro x y v u k hv hu hk hk';rw [mGet_put] at hv hu;by_cases hx:x=idOf g
     · rw [if_pos hx] at hv
       cases hv
       by_cases hy:y=idOf g
       · rw [hx,hy]
       · rw [if_neg hy] at hu
         exact absurd (hold y u k hu hk' hk) hy
     · rw [if_neg hx] at hv
       by_cases hy:y=idOf g
       · rw [if_pos hy] at hu
         cases hu
         exact absurd (hold x v k hv hk hk') hx
       · rw [if_neg hy] at hu
         exact h.apart x y v u k hv hu hk hk'
   · refine ⟨.inl h.own.1,.inl h.own.2.1,.inl h.own.2.2.1,fun e he=>?_⟩
     rcases List.mem_append.1 he with he | he
     · exact .inl (h.own.2.2.2 e he)
     · obtain rfl:=List.mem_singleton.1 he
       refine .inr ⟨heb,?_⟩
       show eb<_
       omega
   · rintro k (hF | hF)
     · have:=h.lt k hF; omega
     · exact hF.2
   · refine ⟨h.ne.1,h.ne.2.1,h.ne.2.2.1,fun e he=>?_⟩
     rcases List.mem_append.1 he with he | he
     · exact h.ne.2.2.2 e he
     · obtain rfl:=List.mem_singleton.1 he
       refine ⟨?_,?_,?_⟩ <;> show eb≠_ <;> omega
   · rw [List.map_append,List.nodup_append]
     refine ⟨h.each,by simp,fun x hx y hy=>?_⟩
     obtain ⟨e,he,rfl⟩:=List.mem_map.1 hx;simp at hy; subst hy;have:=le_ e he
     omega
   · rw [List.map_append,List.nodup_append]
     refine ⟨h.once,by simp,fun x hx y hy=>?_⟩
     obtain ⟨e,he,rfl⟩:=List.mem_map.1 hx;simp at hy; subst hy;exact hasG_none hn e he
def FreshAt (w:World) (es:List (SEnt × Nat)):Prop:=∀ e ∈ es,Box w e.2 (entC e.1 nilS nilS nilS)∧e.1.pom=pomZ
theorem FreshAt.below {w w':World} {es:List (SEnt × Nat)} (h:FreshAt w es) (hb:Below w.heap.size w w'):FreshAt w' es:=fun e he=>⟨(h e he).1.below hb (h e he).1.lt,(h e he).2⟩
theorem FreshAt.only {F:Nat→Prop} {w w':World} {es:List (SEnt × Nat)} (h:FreshAt w es) (ho:Only F w w') (hF : ∀ e ∈ es,¬ F e.2):FreshAt w' es:=fun e he=>⟨(h e he).1.only ho (hF e he),(h e he).2⟩
theorem FreshAt.ent {w:World} {es:List (SEnt × Nat)} (h:FreshAt w es) (F:Nat→Prop) : ∀ e ∈ es,EntryAt F w e.2 e.1:=fun e he=>⟨nilS,nilS,nilS,(h e he).1,by rw [(h e he).2]; exact PomKept.no _ _⟩
theorem StoreIn.put_fresh {F:Nat→Prop} {w w1 w2 w3 w4:World} {b me mv eb:Nat} {L:List (MEnt Gav)} {cl:Nat} {V:List (MEnt Id)} {cv:Nat} {es:List (SEnt × Nat)} {r a:Int} {g:Gav} {s:S} {v':Value} (h:StoreIn F w b me mv L cl V cv es r a)
    (h1:Below w.heap.size w w1) (hbx:Box w1 eb (entC (freshE g s) nilS nilS nilS)) (heb:w.heap.size≤eb) (h2:Below w1.heap.size (mSet kGav w1 me (mPut L g (ptr eb) cl) (mCnt L g cl)) w2)
    (h3:w2.grownBy w3 (rowV V (idOf g)).ownBlock) (h4:w4=mSet kId w3 mv (mPut V (idOf g) v' cv) (mCnt V (idOf g) cv)) (hf:FreshAt w es):FreshAt w4 (es ++ [(freshE g s,eb)]):=by
 have hV:=fun k=>h.rowV_at (idOf g) (k:=k);have lme:=h.lt _ h.own.2.1;have lmv:=h.lt _ h.own.2.2.1;have lV : ∀ k,(rowV V (idOf g)).ownBlock=some k→k<w.heap.size:=fun k hk=>h.lt _ (hV k hk).1;have o12:Only (fun k=>k=me) w1 w2:=(Only.grown (mSet_grown w1 me (mPut L g (ptr eb) cl) (mCnt L g cl)) (by rintro k ⟨⟩; rfl)).trans (Only.of (F:=fun k=>k=me) (by have:=h2; simpa [mSet] using this)) (fun _ _=>id);have o23:Only (fun k=>(rowV V (idOf g)).ownBlock=some k) w2 w3:=Only.grown h3 fun k hk=>hk;have o34:Only (fun k=>k=mv) w3 w4:=by rw [h4]; exact Only.grown (mSet_grown w3 mv _ _) (by rintro k ⟨⟩; rfl)
 have o24:Only (fun k=>(rowV V (idOf g)).ownBlock=some k∨k=mv) w2 w4:=(o23.mono fun _ _=>Or.inl).trans o34 fun _ _=>Or.inr;have o14:Only (fun k=>k=me∨(rowV V (idOf g)).ownBlock=some k∨k=mv) w1 w4:=(o12.mono fun _ _=>Or.inl).trans o24 fun _ _=>Or.inr;have o04:Only (fun k=>k=me∨(rowV V (idOf g)).ownBlock=some k∨k=mv) w w4:=(Only.of h1).trans o14 fun _ _=>id;intro e he;rcases List.mem_append.1 he with he | he
 · refine (hf.only o04 fun e he=>?_) e he
   rintro (e2 | e2 | e2)
   · exact (h.ne.2.2.2 e he).2.1 e2
   · exact (hV _ e2).2.2.2.2 e he rfl
   · exact (h.ne.2.2.2 e he).2.2 e2
 · obtain rfl:=List.mem_singleton.1 he
   refine ⟨hbx.only o14 ?_,rfl⟩
   rintro (e2 | e2 | e2)
   · subst e2; omega
   · have:=lV _ e2; omega
   · subst e2; omega
theorem set_mem {es:List (SEnt × Nat)} {i:Nat} {e e':SEnt} {eb:Nat} (hi:es[i]? = some (e,eb)) (hg:e'.gav=e.gav) {x:SEnt × Nat} (hx:x ∈ es.set i (e',eb)) : ∃ y ∈ es,y.2=x.2∧y.1.gav=x.1.gav:=by
 rcases List.mem_or_eq_of_mem_set hx with h | rfl
 · exact ⟨x,h,rfl,rfl⟩
 · exact ⟨(e,eb),List.mem_of_getElem? hi,rfl,hg.symm⟩
theorem set_map {α:Type} {es:List (SEnt × Nat)} {i:Nat} {y x:SEnt × Nat} (hi:es[i]? = some y) (f:SEnt × Nat→α) (h:f x=f y):(es.set i x).map f=es.map f:=by
 apply List.ext_getElem?
 intro j;rw [List.getElem?_map,List.getElem?_map,List.getElem?_set];by_cases hj:i=j
 · subst hj
   obtain ⟨hl,he⟩:=List.getElem?_eq_some_iff.1 hi;simp [hl,he,h]
 · simp [hj]
theorem StoreIn.turn {F:Nat→Prop} {w w':World} {b me mv:Nat} {L:List (MEnt Gav)} {cl:Nat} {V:List (MEnt Id)} {cv:Nat} {es:List (SEnt × Nat)} {r a r' a':Int} {i:Nat} {e e':SEnt} {eb:Nat} (h:StoreIn F w b me mv L cl V cv es r a) (hi:es[i]? = some (e,eb)) (hgv:e'.gav=e.gav)
    (ho:Only (fun k=>k=b∨k=eb) w w') (hb:Box w' b [.map (some me),.map (some mv),.int .i64 r',.int .i64 a']) (he:EntryAt F w' eb e'):StoreIn F w' b me mv L cl V cv (es.set i (e',eb)) r' a':=by
 have hmem:=List.mem_of_getElem? hi;have hne:=h.ne.2.2.2 _ hmem
 have hoF:Only F w w':=ho.mono fun k _ hk=>by
  rcases hk with rfl | rfl
  · exact h.own.1
  · exact h.own.2.2.2 _ hmem
 have hnb : ∀ k,k≠b→k≠eb → ¬ (k=b∨k=eb):=fun k h1 h2 h3=>h3.elim h1 h2
 have hv : ∀ x,versOf (es.set i (e',eb)) x=versOf es x:=fun x=>by
  unfold versOf;rw [set_map hi (fun e=>e.1.gav) hgv]
 refine ⟨hb,h.ents.only ho (hnb _ (Ne.symm h.ne.1) (Ne.symm hne.2.1)),h.vers.only ho (hnb _ (Ne.symm h.ne.2.1) (Ne.symm hne.2.2)),?_,?_,?_,?_,h.apart,?_,?_,?_,?_,?_⟩
 · rw [set_map hi _ (by simp [hgv])]; exact h.same
 · intro x hx
   obtain ⟨j,hj,rfl⟩:=List.mem_iff_getElem.1 hx;rw [List.getElem_set];have hjl:j<es.length:=by simpa using hj
   split
   · exact he
   · rename_i hij
     have hil:i<es.length:=(List.getElem?_eq_some_iff.1 hi).1;have hie:es[i]=(e,eb):=(List.getElem?_eq_some_iff.1 hi).2
     have hdb:es[j].2≠eb:=by
      intro e3;have hp:=List.pairwise_iff_getElem.1 h.each;rcases Nat.lt_or_gt_of_ne hij with hlt | hlt
      · exact hp i j (by simpa using hil) (by simpa using hjl) hlt (by simp [hie,e3])
      · exact hp j i (by simpa using hjl) (by simpa using hil) hlt (by simp [hie,e3])
     refine (h.ent es[j] (by simp)).only hoF (fun _ _=>id) (ho.block _ (h.lt _ (h.own.2.2.2 es[j] (by simp))) (hnb _ (h.ne.2.2.2 es[j] (by simp)).1 hdb))
 · intro x
   rw [hv];refine (h.row x).imp id fun ⟨v,h1,h2⟩=>⟨v,h1,h2.only ho fun k hk=>?_⟩
   have hr:=h.rows x v k h1 hk;exact hnb _ hr.2.1 (fun e3=>hr.2.2.2.2 _ hmem e3.symm)
 · intro x v k h1 hk
   have hr:=h.rows x v k h1 hk;refine ⟨hr.1,hr.2.1,hr.2.2.1,hr.2.2.2.1,fun y hy=>?_⟩
   obtain ⟨z,hz,e1,-⟩:=set_mem hi hgv hy;rw [← e1]; exact hr.2.2.2.2 z hz
 · refine ⟨h.own.1,h.own.2.1,h.own.2.2.1,fun y hy=>?_⟩
   obtain ⟨z,hz,e1,-⟩:=set_mem hi hgv hy;rw [← e1]; exact h.own.2.2.2 z hz
 · exact fun k hk=>Nat.lt_of_lt_of_le (h.lt k hk) ho.size
 · refine ⟨h.ne.1,h.ne.2.1,h.ne.2.2.1,fun y hy=>?_⟩
   obtain ⟨z,hz,e1,-⟩:=set_mem hi hgv hy;rw [← e1]; exact h.ne.2.2.2 z hz
 · rw [set_map (x:=(e',eb)) hi (fun e:SEnt × Nat=>e.2) rfl]; exact h.each
 · rw [set_map (x:=(e',eb)) hi (fun e:SEnt × Nat=>e.1.gav) hgv]; exact h.once
theorem beq_str (a b:S):(a.toList == b.toList)=decide (a=b):=by
 rw [Bool.eq_iff_iff,beq_iff_eq,decide_eq_true_iff,ByteArray.toList_eq,ByteArray.toList_eq];constructor
 · intro h
   obtain ⟨⟨x⟩⟩:=a;obtain ⟨⟨y⟩⟩:=b;simpa using h
 · rintro rfl; rfl
theorem std_gav:Tryz.prog.stoodInHeld 51=false:=by kernel_rfl
theorem std_id:Tryz.prog.stoodInHeld 23=false:=by kernel_rfl
theorem eq_kGav (a b:Gav) (w:World):(Op.equal 51 (kGav a) (kGav b)).run Tryz.prog w = .ok (decide (a=b)) w:=by
 have h:=std_gav;obtain ⟨a0,a1,a2⟩:=a;obtain ⟨b0,b1,b2⟩:=b;simp only [Op.equal,Op.maxDepth,kGav,gavC];by_cases h0:a0=b0 <;> by_cases h1:a1=b1 <;> by_cases h2:a2=b2 <;> simp [go_sem,h,h0,h1,h2,beq_str]
theorem eq_kId (a b:Id) (w:World):(Op.equal 23 (kId a) (kId b)).run Tryz.prog w = .ok (decide (a=b)) w:=by
 have h:=std_id;obtain ⟨a0,a1⟩:=a;obtain ⟨b0,b1⟩:=b;simp only [Op.equal,Op.maxDepth,kId,idC];by_cases h0:a0=b0 <;> by_cases h1:a1=b1 <;> simp [go_sem,h,h0,h1,beq_str]
theorem chk_str (b:Bool) (n:Nat) (s:S) (w:World):(Instr.checkKey b (n+1) 9 (.string s)).run Tryz.prog w = .ok () w:=by
 simp [Instr.checkKey,run_underlying Tryz.underlying9]
theorem chk_gav (b:Bool) (k:Gav) (w:World):(Instr.checkKey b 10000 51 (kGav k)).run Tryz.prog w = .ok () w:=by
 obtain ⟨a0,a1,a2⟩:=k;rw [show (10000:Nat)=9998+1+1 from rfl];generalize 9998=n;rw [Instr.checkKey];simp only [kGav,gavC,Sem.run_bind,run_underlying Tryz.underlying51,Result.andThen_ok];have hs:=fun b n s w=>chk_str b n s w;simp [go_sem,hs]
theorem chk_id (b:Bool) (k:Id) (w:World):(Instr.checkKey b 10000 23 (kId k)).run Tryz.prog w = .ok () w:=by
 obtain ⟨a0,a1⟩:=k;rw [show (10000:Nat)=9998+1+1 from rfl];generalize 9998=n;rw [Instr.checkKey];simp only [kId,idC,Sem.run_bind,run_underlying Tryz.underlying23,Result.andThen_ok];have hs:=fun b n s w=>chk_str b n s w;simp [go_sem,hs]
theorem mk_gav:MKey Tryz.prog 51 kGav:=⟨⟨_,Tryz.underlying51⟩,eq_kGav,chk_gav⟩
theorem mk_id:MKey Tryz.prog 23 kId:=⟨⟨_,Tryz.underlying23⟩,eq_kId,chk_id⟩
theorem bytes_same (s:S):(s == s)=true:=by rw [beq_toListBytes]; simp
theorem same_gav (k:Gav):Instr.sameBits 10000 (kGav k) (kGav k)=true:=by
 rw [show (10000:Nat)=9998+1+1 from rfl];simp [Instr.sameBits,kGav,gavC,bytes_same]
theorem same_id (k:Id):Instr.sameBits 10000 (kId k) (kId k)=true:=by
 rw [show (10000:Nat)=9998+1+1 from rfl];simp [Instr.sameBits,kId,idC,bytes_same]
theorem zeroPtr (w:World):(zeroValue 99).run Tryz.prog w = .ok (.pointer none) w:=by kernel_rfl
theorem zeroRow (w:World):(zeroValue 24).run Tryz.prog w = .ok nilS w:=by kernel_rfl
theorem look_ent {w:World} {m:Nat} {L:List (MEnt Gav)} {c:Nat} (g:Gav) (h:MMap kGav w m L c) :
    (Instr.lookup 89 (.map (some m)) (.agg #[.string g.group,.string g.artifact,.string g.version]) false).run Tryz.prog w = .ok ((mGet L g).getD (.pointer none)) w :=
 run_lookupM mk_gav Tryz.underlying89 zeroPtr g h
theorem look_row {w:World} {m:Nat} {L:List (MEnt Id)} {c:Nat} (x:Id) (h:MMap kId w m L c) :
    (Instr.lookup 90 (.map (some m)) (.agg #[.string x.group,.string x.artifact]) false).run Tryz.prog w = .ok (rowV L x) w :=
 run_lookupM mk_id Tryz.underlying90 zeroRow x h
theorem set_ent {w:World} {m:Nat} {L:List (MEnt Gav)} {c:Nat} (g:Gav) (v:Value) (h:MMap kGav w m L c) :
    (Instr.mapUpdate 89 (.map (some m)) (.agg #[.string g.group,.string g.artifact,.string g.version]) v).run Tryz.prog w = .ok () (mSet kGav w m (mPut L g v c) (mCnt L g c)) :=
 run_updateM mk_gav same_gav Tryz.underlying89 g v h
theorem set_row {w:World} {m:Nat} {L:List (MEnt Id)} {c:Nat} (x:Id) (v:Value) (h:MMap kId w m L c) :
    (Instr.mapUpdate 90 (.map (some m)) (.agg #[.string x.group,.string x.artifact]) v).run Tryz.prog w = .ok () (mSet kId w m (mPut L x v c) (mCnt L x c)) :=
 run_updateM mk_id same_id Tryz.underlying90 x v h
theorem len_map {K:Type} {P:Program} {kc:K→Value} {w:World} {m:Nat} {L:List (MEnt K)} {c:Nat} {t k e:TypeId} (h:MMap kc w m L c) (ht:P.underlying t=some (.map k e)) (ty:TypeId):(Builtin.len_ #[t] ty #[.map (some m)]).run P w = .ok (.int .i64 L.length) w:=by
 simp [Builtin.len_,run_underlying ht,MapKept.run_getObj_map (show w.heap[m]? = _ from h),goInt,Result.andThen]
def NewOut (w:World) (e:Ending) (w':World):Prop:=∃ b F,e = .returned (ptr b)∧StoreAt F w' b [] 0 0∧(∀ k,F k→w.heap.size≤k)∧Below w.heap.size w w'
set_option maxRecDepth 100000 in
theorem new_any (w:World):Calls Tryz.prog 17 #[] w (NewOut w):=by
 have hmm:=@run_makeMap Tryz.prog;go_enter Tryz.func17,Tryz.ntmps17
 go_wp2_with fail
 go_ret
 have e0:MMap kGav (w.alloc (.map #[] 0)) w.heap.size [] 0:=heap_alloc_new w _
 have e1:MMap kId ((w.alloc (.map #[] 0)).alloc (.map #[] 0)) (w.heap.size+1) [] 0:=by
  have:=heap_alloc_new (w.alloc (.map #[] 0)) (.map #[] 0)
  simpa [MMap] using this
 have hb:Below w.heap.size w (((w.alloc (.map #[] 0)).alloc (.map #[] 0)).alloc (.cells #[.map (some w.heap.size),.map (some (w.heap.size+1)),.int .i64 0,.int .i64 0] 97)) :=
  (((Below.refl _ _).alloc (Nat.le_refl _) _).alloc (by simp) _).alloc (by simp; omega) _
 refine ⟨w.heap.size+2,fun k=>w.heap.size≤k∧k<w.heap.size+3,rfl,⟨w.heap.size,w.heap.size+1,[],0,[],0,?_⟩,fun k h=>h.1,hb⟩
 refine ⟨Box.new _ [.map (some w.heap.size),.map (some (w.heap.size+1)),.int .i64 0,.int .i64 0] _ _ (by simp),?_,?_,rfl,by simp,fun x=>.inl ⟨rfl,rfl⟩,?_,?_,⟨⟨by omega,by omega⟩,⟨by omega,by omega⟩,⟨by omega,by omega⟩,by simp⟩,?_,⟨by omega,by omega,by omega,by simp⟩,by simp,by simp⟩
 · exact (e0.below ((Below.refl _ _).alloc (Nat.le_refl _) _) e0.lt).below ((Below.refl _ _).alloc (Nat.le_refl _) _) (by simp; omega)
 · exact e1.below ((Below.refl _ _).alloc (Nat.le_refl _) _) e1.lt
 · intro x v k h; cases h
 · intro x y v u k h; cases h
 · intro k h; simp; omega
def HasOut (b:Bool) (w:World) (e:Ending) (w':World):Prop:=e = .returned (.bool b)∧Below w.heap.size w w'
set_option maxRecDepth 100000 in
theorem has_any (g:Gav) (w:World) {F:Nat→Prop} {b:Nat} {es:List (SEnt × Nat)} {r a:Int} (h:StoreAt F w b es r a) :
    Calls Tryz.prog 41 #[ptr b,.agg #[.string g.group,.string g.artifact,.string g.version]] w (HasOut (hasG es g) w):=by
 obtain ⟨me,mv,L,cl,V,cv,h⟩:=h;have hgt:=h.get g;have hlt:=h.box.lt;have HS:=Lib.hid h;clear h;unfold ptr;go_enter Tryz.func41,Tryz.ntmps41
 go_upto_region 1 with fail
 refine wp_world ?_
 intro W hW;have hx:Box W w.heap.size [.string g.group,.string g.artifact,.string g.version]:=by rw [hW]; exact Box.new w (gavC g) _ _ rfl
 have hb:Below w.heap.size w W:=by rw [hW]; exact (Below.refl _ _).alloc (Nat.le_refl _) _
 clear hW;have HX:=Lib.hid hx;have HB:=Lib.hid hb;have x0:=hx.cell 0 _ rfl;have x1:=hx.cell 1 _ rfl;have x2:=hx.cell 2 _ rfl;have lx:=hx.lt;have b0:=(HS.out.box.below hb hlt).cell 0 _ rfl;have lb:=(HS.out.box.below hb hlt).lt;have hm:=HS.out.ents.below hb HS.out.ents.lt;have hl : ∀ x:Later W,(Instr.lookup 89 (.map (some me)) (.agg #[.string g.group,.string g.artifact,.string g.version]) false).run Tryz.prog x.at_ = .ok ((mGet L g).getD (.pointer none)) x.at_:=fun x=>look_ent g (hm.below x.below hm.lt);clear hx hb hm HX;have hLC:=@Later.cellsS W;rw [hgt] at hl;clear hgt;cases hf:es.find? fun e=>decide (g=e.1.gav) with
 | none =>
  rw [hf] at hl;simp only [Option.map_none,Option.getD_none] at hl;have HG:Hid (hasG es g=false):=by show _=_; unfold hasG; rw [hf]; rfl
  clear hf;refine region_laterS (by kernel_rfl) (by kernel_rfl) ?_
  repeat (go_big_quiet_step (fail))
  refine wpQuiet_nil ?_
  rintro _ ⟨nx,rfl⟩;have HN:=Lib.hid nx.below;generalize nx.at_=wn at *;clear hl hLC x0 x1 x2 lx b0 lb;go_wp2
  go_ret
  exact ⟨by rw [HG.out]; rfl,HB.out.trans (HN.out.mono HB.out.size)⟩
 | some e =>
  rw [hf] at hl;simp only [Option.map_some,Option.getD_some,ptr] at hl;have HG:Hid (hasG es g=true):=by show _=_; unfold hasG; rw [hf]; rfl
  clear hf;refine region_laterS (by kernel_rfl) (by kernel_rfl) ?_
  repeat (go_big_quiet_step (fail))
  refine wpQuiet_nil ?_
  rintro _ ⟨nx,rfl⟩;have HN:=Lib.hid nx.below;generalize nx.at_=wn at *;clear hl hLC x0 x1 x2 lx b0 lb;go_wp2
  go_ret
  exact ⟨by rw [HG.out]; rfl,HB.out.trans (HN.out.mono HB.out.size)⟩
set_option maxRecDepth 100000 in
theorem id_any (g:Gav) (w:World):Calls Tryz.prog 42 #[.agg #[.string g.group,.string g.artifact,.string g.version]] w fun e w'=>e = .returned (.agg #[.string g.group,.string g.artifact])∧Below w.heap.size w w':=by
 go_enter Tryz.func42,Tryz.ntmps42
 go_wp2_with fail
 refine bodyPost_ret (v:=.agg #[.string g.group,.string g.artifact]) (by simp [results,Tryz.results42,go_sem]) rfl ?_
 refine ⟨rfl,?_⟩
 exact ((Below.refl _ _).alloc (Nat.le_refl _) _).alloc (by simp) _
end Go.Proofs.YtecffghcpknmjaaGreatDoor
