/- The walk of fill: both stores of the same projects; the conditions stand in the theorem. -/
import Derived.Test.YtominiaohfjobaaGreatDoorPT01
import Derived.Test.YtominiaohfjobaaGreatDoorPK14
import Derived.Test.YtominiaohfjobaaGreatDoorPK15
import Derived.OwnWalk
namespace Go.Proofs.YtominiaohfjobaaGreatDoor
open Go Go.RowKit
def LenOk (es:List (bF × Nat)):Prop:=es.length≤40
def FillT (w:World) (e:Ending) (w':World):Prop:=∃ bs bd es,e = .returned (.tuple #[.pointer (some ⟨bs,0,none⟩),.pointer (some ⟨bd,0,none⟩),.bool true])∧rD w.heap.size w' bs bd es∧LenOk es∧Below w.heap.size w w'
theorem pair_newT {w w1 W:World} {bs:Nat} {F:Nat→Prop} (h:bR F w1 bs [] 0 0) (hF : ∀ k,F k→w.heap.size≤k) (hs:w.heap.size≤w1.heap.size) (hb:Below w1.heap.size w1 W) (hx:ak W w1.heap.size [.slice none 0 0,.slice none 0 0,.slice none 0 0,.int .i64 0]):rD w.heap.size W bs w1.heap.size [] :=
 ⟨F,fun k=>k=w1.heap.size,.slice none 0 0,.slice none 0 0,.slice none 0 0,[],h.below hb,fun e he=>by (cases he),
  ⟨hx,aj.nil,aj.nil,aj.nil,rfl,fun j hj=>by (cases hj),fun j hj=>by (cases hj),fun j hj=>by (cases hj),fun j hj=>by (cases hj),fun j hj=>by (cases hj),fun j hj=>by (cases hj)⟩,
  fun k hk e=>by have:=h.bound k hk; omega,fun k e=>by have:=hx.lt; omega,hF,fun k e=>by omega,Nat.le_refl _,Nat.le_refl _,fun g hg=>by (cases hg)⟩
structure Mid (B:Nat) (w:World) (F G:Nat→Prop) (bs bd:Nat) (es:List (bF × Nat)) (vg vt vr:Value) (rs:List Bool) (g:bp) (s:S) (vc_:Value) (cl:List (bp × S)) (w':World):Prop where
 put : ∃ wA_,oM B wA_ bs bd es F G vg vt vr (fC es) rs∧B≤wA_.heap.size∧Below B w wA_∧fL F bs es 0 0 g s wA_ (.returned (.int .i64 (fR es g))) w' ∧ ∀ q,vc_.ownBlock=some q→q<wA_.heap.size
 doc:gp G w' bd vg vt vr (di es) (fC es) rs
 row:aj B 48 4 Ce w' vc_ cl
def Pair2 (B:Nat) (w:World) (bs bd:Nat) (es:List (bF × Nat)) (vc_:Value) (cl:List (bp × S)) (w':World):Prop :=
 ∃ F G vg vt vr rs,oM B w' bs bd es F G vg vt vr (fC es) rs∧(∀ q,vc_.ownBlock=some q → ¬ F q ∧ ¬ G q)∧aj B 48 4 Ce w' vc_ cl∧Below B w w'
theorem Mid.fin {B:Nat} {w:World} {F G:Nat→Prop} {bs bd:Nat} {es:List (bF × Nat)} {vg vt vr vc_:Value} {rs:List Bool} {g:bp} {s:S} {cl:List (bp × S)} {w' w2:World} (h:Mid B w F G bs bd es vg vt vr rs g s vc_ cl w') (hx : ∀ q,vc_.ownBlock=some q → ¬ F q ∧ ¬ G q) (hd:rG G bd (di es) (fC es) g s w' w2) : ∃ es',Pair2 B w bs bd es' vc_ cl w2∧es'.length≤es.length+1:=by
 obtain ⟨wA_,h1,h2,h3,h4,h5⟩:=h.put;obtain ⟨es',F',G',vg',vt',vr',rs',q1,q2,q3,q4,q5⟩:=h1.stepT h2 h4 hd;refine ⟨es',⟨F',G',vg',vt',vr',rs',q1,fun q hq=>⟨fun hf=>(hx q hq).1 (q2 q (h5 q hq) hf),fun hg=>(hx q hq).2 (q3 q (h5 q hq) hg)⟩,h.row.only hd.1 fun q hq=>(hx q hq).2,h3.trans q5⟩,q4⟩
theorem Pair2.below {B:Nat} {w w' w2:World} {bs bd:Nat} {es:List (bF × Nat)} {vc_:Value} {cl:List (bp × S)} (h:Pair2 B w bs bd es vc_ cl w') (hw:B≤w.heap.size) (hb:Below w'.heap.size w' w2):Pair2 B w bs bd es vc_ cl w2:=by
 obtain ⟨F,G,vg,vt,vr,rs,h1,h2,h3,h4⟩:=h;exact ⟨F,G,vg,vt,vr,rs,⟨h1.st.below hb,h1.fr.below hb,h1.doc.below hb,h1.fg,fun k hk=>Nat.lt_of_lt_of_le (h1.gl k hk) hb.size,h1.fB,h1.gB,h1.tl,h1.rl,h1.may⟩,h2,h3.below hb,h4.trans (hb.mono (Nat.le_trans hw h4.size))⟩
theorem bx4 {w:World} {b:Nat} {v0 v1 v2 v3:Value} (h:ak w b [v0,v1,v2,v3]):w.cell? ⟨b,0,none⟩=some v0∧w.cell? ⟨b,1,none⟩=some v1∧w.cell? ⟨b,2,none⟩=some v2∧w.cell? ⟨b,3,none⟩=some v3:=⟨h.cell 0 _ rfl,h.cell 1 _ rfl,h.cell 2 _ rfl,h.cell 3 _ rfl⟩
def plUpd (bs bd bx:Nat) (yg ya yv ys_:S) (pe_:Int) (aX_:Act) (f0 f1 f2 f3 f4 f5 f6 f7 f8 f9 f10 f11 f12:Bool)  : Act:=B3 aX_ [(19,f0,.pointer (some ⟨bs,0,none⟩)),(0,f1,.pointer (some ⟨bx,0,none⟩)),(0,f2,.agg #[.string yg,.string ya,.string yv]),(0,f3,.pointer (some ⟨bx,3,none⟩)),(0,f4,.string ys_),(0,f5,.int .i64 pe_),(0,f6,.pointer (some ⟨bd,0,none⟩)),(0,f7,.pointer (some ⟨bx,0,none⟩)),(0,f8,.agg #[.string yg,.string ya,.string yv]),(0,f9,.pointer (some ⟨bx,3,none⟩)),(0,f10,.string ys_),(0,f11,.int .i64 pe_),(0,f12,.bool false)]
inductive plJ (w W1:World) (bs bd bx:Nat) (es:List (bF × Nat)) (F G:Nat→Prop) (vg vt vr vc_:Value) (rs:List Bool) (cl:List (bp × S)) (yg ya yv ys_:S) (pe_:Int) (aX_:Act):List Bool→Act→World→Prop where
 | mk {f0 f1 f2 f3 f4 f5 f6 f7 f8 f9 f10 f11 f12:Bool}  {w':World} (hB:(f5=false→Below W1.heap.size W1 w')) (rb:(f11=false→ak w' bx [.string yg,.string ya,.string yv,.string ys_])) (rp:(f5=false→oM w.heap.size w' bs bd es F G vg vt vr (fC es) rs∧aj w.heap.size 48 4 Ce w' vc_ cl)) (rm:(f5=true→f11=false→Mid w.heap.size w F G bs bd es vg vt vr rs ⟨yg,ya,yv⟩ ys_ vc_ cl w')) (rf:(f11=true → ∃ es',Pair2 w.heap.size w bs bd es' vc_ cl w'∧es'.length≤es.length+1)):plJ w W1 bs bd bx es F G vg vt vr vc_ rs cl yg ya yv ys_ pe_ aX_ [f0,f1,f2,f3,f4,f5,f6,f7,f8,f9,f10,f11,f12] (plUpd bs bd bx yg ya yv ys_ pe_ aX_ f0 f1 f2 f3 f4 f5 f6 f7 f8 f9 f10 f11 f12 ) w'
def peUpd (bs bd n:Nat) (go:Option Addr) (gc:Nat) (aX_:Act) (f0 f1 f2 f3 f4 f5 f6 f7 f8 f9 f10 f11 f12:Bool)  : Act:=B3 aX_ [(2,f10,.pointer (some ⟨bs,0,none⟩)),(0,f11,.pointer (some ⟨bd,0,none⟩)),(0,f12,.bool true),(28,f0,.pointer (some ⟨bs,0,none⟩)),(0,f1,.pointer (some ⟨bd,0,none⟩)),(0,f2,.pointer (some ⟨bs,0,none⟩)),(0,f3,.int .i64 n),(0,f4,.pointer (some ⟨bd,0,none⟩)),(0,f5,.pointer (some ⟨bd,0,none⟩)),(0,f6,.pointer (some ⟨bd,0,none⟩)),(0,f7,.slice go n gc),(0,f8,.int .i64 n),(0,f9,.bool true)]
inductive peJ (V:World) (bs bd n:Nat) (go:Option Addr) (gc:Nat) (aX_:Act):List Bool→Act→World→Prop where
 | mk {f0 f1 f2 f3 f4 f5 f6 f7 f8 f9 f10 f11 f12:Bool}  {w':World} (hB:Below V.heap.size V w'):peJ V bs bd n go gc aX_ [f0,f1,f2,f3,f4,f5,f6,f7,f8,f9,f10,f11,f12] (peUpd bs bd n go gc aX_ f0 f1 f2 f3 f4 f5 f6 f7 f8 f9 f10 f11 f12 ) w'
set_option maxRecDepth 100000 in
set_option maxHeartbeats 16000000 in
theorem fill_ofT (HRM:RefMayOk) (v:Value) (l:List (bp × S)) (w:World) (h:af 4 Ce w v l) (hz : ∀ p ∈ l,vf p.1):Calls Tryz.prog 5 #[v] w (FillT w):=by
 obtain ⟨lo,lc,rfl⟩:=h.shape;have HCT:Hid (∀ W,Below w.heap.size w W→Calls Tryz.prog 15 #[.slice lo l.length lc] W (CutOut l W)):=fun W hb=>cut_of _ l W (h.below hb);have HZ:Hid (∀ p ∈ cutE l,vf p.1):=fun p hp=>hz p (List.mem_of_mem_take (List.mem_filter.1 hp).1);have HCL:Hid ((cutE l).length≤40):=cutE_len l;have HRM':=zH HRM;clear h hz HRM;go_enter Tryz.func5,Tryz.ntmps5
 go_wp2_with fail
 refine (Ao w).mono ?_
 rintro e w1 ⟨bs,F,rfl,hst,hF,hb1⟩;have HST:=zH hst;have HF:=zH hF;have HB1:=zH hb1;clear hst hF hb1;unfold jr;go_upto_region 2 with fail
 refine ai fun W hW=>?_
 have x1:ak W w1.heap.size [.slice none 0 0,.slice none 0 0,.slice none 0 0,.int .i64 0]:=by rw [hW]; exact ak.new w1 [.slice none 0 0,.slice none 0 0,.slice none 0 0,.int .i64 0] _ _ rfl
 have hb:Below w1.heap.size w1 W:=by rw [hW]; exact (Below.refl _ w1).alloc (Nat.le_refl _) _
 clear hW;have HP0:=zH (pair_newT HST.out HF.out HB1.out.size hb x1);have HB:=zH (HB1.out.trans (hb.mono HB1.out.size));clear x1 hb HST HF HB1;generalize w1.heap.size=bd at *;go_wp2_with fail
 refine (HCT.out W HB.out).mono ?_
 rintro e w2 ⟨vc_,rfl,ho,hb2⟩;obtain ⟨co,cc_,rfl⟩:=ho.shape
 have HP2:Hid (Pair2 w.heap.size w bs bd [] (.slice co (cutE l).length cc_) (cutE l) w2):=by
  obtain ⟨F,G,vg,vt,vr,rs,hp⟩:=HP0.out;have hfl:=hp.st.bound;have hp2:rD w.heap.size w2 bs bd []:=HP0.out.below hb2;refine ⟨F,G,vg,vt,vr,rs,⟨hp.st.below hb2,hp.fr.below hb2,hp.doc.below hb2,hp.fg,fun k hk=>Nat.lt_of_lt_of_le (hp.gl k hk) hb2.size,hp.fB,hp.gB,hp.tl,hp.rl,hp.may⟩,fun q hq=>?_,ho.base_mono HB.out.size,HB.out.trans (hb2.mono HB.out.size)⟩
  have h1:=(ho.lt q hq).1;exact ⟨fun hf=>by have:=hfl q hf; omega,fun hg=>by have:=hp.gl q hg; omega⟩
 clear ho hb2 HP0 HB HCT;generalize cutE l=cl at *;obtain ⟨vc_,hvc⟩ : ∃ vc_,vc_=Value.slice co cl.length cc_:=⟨_,rfl⟩;have HVC:=zH hvc;rw [← hvc] at HP2;clear hvc;go_wp2
 go_loopw [15] (fun i wr=>∃ (k:Nat) (es:List (bF × Nat)),i = .int .i64 k∧k≤cl.length∧Hid (Pair2 w.heap.size w bs bd es vc_ cl wr)∧Hid (es.length≤k)) (fun i _=>cl.length - (intOf i).toNat)
 case atStart=>exact ⟨0,[],rfl,Nat.zero_le _,HP2.out,Nat.le_refl _⟩
 case round =>
  clear HP2;obtain ⟨k,es,rfl,hk,HP,HE⟩:=hrel;by_cases hlt:k<cl.length
  · have hsl:af 4 Ce wr (.slice co cl.length cc_) cl:=by
     obtain ⟨F,G,vg,vt,vr,rs,-,-,h3,-⟩:=HP.out;rw [HVC.out] at h3;exact h3.slice inC_len
    obtain ⟨b1,o1,hao,hbl,c0,c1,c2,c3⟩:=hsl.atE hlt;cases hao
    have d1:(k:Int)<(cl.length:Int):=by omega
    have wk:IntKind.i64.wrap ((k:Int)+1)=(k:Int)+1:=IntWalk.i64_in _ (by have:=HCL.out; omega);have HG:=zH (HZ.out _ (List.getElem_mem hlt));have HKL:Hid (k+1≤cl.length):=hlt;generalize cl[k]=y at *;clear hlt hsl;obtain ⟨⟨yg,ya,yv⟩,ys_⟩:=y;simp only at c0 c1 c2 c3 HG;go_upto_region 5 with fail
    refine ai fun W1 hW=>?_
    have z1:ak W1 wr.heap.size [.string yg,.string ya,.string yv,.string ys_]:=by rw [hW]; exact ak.new wr [.string yg,.string ya,.string yv,.string ys_] _ _ rfl
    have hb1:Below wr.heap.size wr W1:=by rw [hW]; exact (Below.refl _ wr).alloc (Nat.le_refl _) _
    clear hW c0 c1 c2 c3 hbl d1;have HZX:=zH z1;have HWS:Hid (w.heap.size≤wr.heap.size):=by obtain ⟨F,G,vg,vt,vr,rs,-,-,-,h4⟩:=HP.out; exact h4.size
    have hp:=HP.out.below (Nat.le_refl _) hb1;have HFL:Hid (∀ F G vg vt vr rs,oM w.heap.size wr bs bd es F G vg vt vr (fC es) rs → ¬ F wr.heap.size):=fun F G vg vt vr rs h e=>by have:=h.st.bound _ e; omega
    obtain ⟨F,G,vg,vt,vr,rs,h1,h2,h3,h4⟩:=HP.out;have HFX:Hid (¬ F wr.heap.size):=HFL.out _ _ _ _ _ _ h1;have HRW:Hid (oM w.heap.size W1 bs bd es F G vg vt vr (fC es) rs∧aj w.heap.size 48 4 Ce W1 vc_ cl):=⟨⟨h1.st.below hb1,h1.fr.below hb1,h1.doc.below hb1,h1.fg,fun k hk=>Nat.lt_of_lt_of_le (h1.gl k hk) hb1.size,h1.fB,h1.gB,h1.tl,h1.rl,h1.may⟩,h3.below hb1⟩;have HCF:=zH h2;have HWA:=zH (h4.trans (hb1.mono HWS.out));have HBS:Hid (w.heap.size≤W1.heap.size):=Nat.le_trans HWS.out hb1.size;clear hp HFL h1 h2 h3 h4 z1 hb1 HP;generalize wr.heap.size=bx at *;have HGL:Hid ((di es).length=es.length):=List.length_map ..;have HTL:Hid ((fC es).length=es.length):=List.length_map ..;have HPU:Hid (∀ W,oM w.heap.size W bs bd es F G vg vt vr (fC es) rs→Calls Tryz.prog 22 #[.pointer (some ⟨bs,0,none⟩),.agg #[.string yg,.string ya,.string yv],.string ys_] W fun e w1=>e = .returned (.int .i64 (fR es ⟨yg,ya,yv⟩))∧fL F bs es 0 0 ⟨yg,ya,yv⟩ ys_ W (.returned (.int .i64 (fR es ⟨yg,ya,yv⟩))) w1∧aV F W w1):=fun W hW=>(ym ⟨yg,ya,yv⟩ ys_ W hW.st HG.out).mono fun e w1 hp=>by have h0:=hp.1; subst h0; exact ⟨rfl,hp,hp.2.1⟩
    have HRL:Hid (rs.length≤es.length):=HRW.out.1.rl
    have HDP:Hid (∀ W,gp G W bd vg vt vr (di es) (fC es) rs→Calls Tryz.prog 23 #[.pointer (some ⟨bd,0,none⟩),.agg #[.string yg,.string ya,.string yv],.string ys_] W fun e w2=>e = .returned (.int .i64 (fR es ⟨yg,ya,yv⟩))∧rG G bd (di es) (fC es) ⟨yg,ya,yv⟩ ys_ W w2):=fun W hW=>by
     have h1:=docPutX_of HRM'.out ⟨yg,ya,yv⟩ ys_ W hW (by have h1:=HGL.out; have h2:=HE.out; have h3:=HCL.out; omega) (by have h1:=HGL.out; have h2:=HTL.out; omega) (by have h1:=HGL.out; have h2:=HRL.out; omega) HG.out;rw [BM] at h1;exact h1
    have HRP:Hid (∀ n,oM w.heap.size (W1.drewN n) bs bd es F G vg vt vr (fC es) rs∧aj w.heap.size 48 4 Ce (W1.drewN n) vc_ cl):=fun n=>by
     have hb:=aY (Below.refl W1.heap.size W1) n;have h1:=HRW.out.1;exact ⟨⟨h1.st.below hb,h1.fr.below hb,h1.doc.below hb,h1.fg,fun k hk=>Nat.lt_of_lt_of_le (h1.gl k hk) hb.size,h1.fB,h1.gB,h1.tl,h1.rl,h1.may⟩,HRW.out.2.below hb⟩
    clear HRW HRL HG;obtain ⟨pe_,hpe⟩ : ∃ pe_,pe_=fR es ⟨yg,ya,yv⟩:=⟨_,rfl⟩;have HPE:=zH hpe;rw [← hpe] at HDP;have HPU2:Hid (∀ W,oM w.heap.size W bs bd es F G vg vt vr (fC es) rs→Calls Tryz.prog 22 #[.pointer (some ⟨bs,0,none⟩),.agg #[.string yg,.string ya,.string yv],.string ys_] W fun e w1=>e = .returned (.int .i64 pe_)∧fL F bs es 0 0 ⟨yg,ya,yv⟩ ys_ W (.returned (.int .i64 (fR es ⟨yg,ya,yv⟩))) w1∧aV F W w1):=by rw [hpe]; exact HPU.out
    clear HPU hpe HPE;have HPU:=HPU2;clear HPU2;refine xy (plJ w W1 bs bd bx es F G vg vt vr vc_ rs cl yg ya yv ys_ pe_) [1417664,1417686,1417683,1417878,1417851,1417783,1418634,1434672,1432485,1574640,1554957,1505749,1328602] 13 (by kernel_rfl) rfl (by kernel_rfl) (by kernel_rfl) (Cf rfl rfl (.mk (fun h0=>aY (Below.refl _ _) 1) (fun _=>HZX.out.below (aY (Below.refl _ _) 1) HZX.out.lt) (fun _=>HRP.out 1) (by simp) (by simp))) ?fin ?step
    case fin =>
     rintro _ _ w' ⟨hB,rb,rp,rm,rf⟩ ⟨rfl,rfl,rfl,rfl,rfl,rfl,rfl,rfl,rfl,rfl,rfl,rfl,rfl,-⟩;simp only [plUpd,B3,BU,cond_true];have HF:=zH (rf rfl);clear hB rb rp rm rf;obtain ⟨es',h1,h2⟩:=HF.out;have HP9:=zH h1;have HE9:=zH h2;clear h1 h2 HF HPU HDP HRP HZX HFX HCF HWA HBS;go_wp2
     go_roundw
     case rel=>exact ⟨k+1,es',by first | rfl | go_num,HKL.out,HP9.out,by have h1:=HE9.out; have h2:=HE.out; show _≤_; omega⟩
     case measure=>simp [intOf]; have:=HKL.out; omega
    case step =>
     iterate 13 refine .s ?_ ?_
     · exact .z
     all_goals rintro _ _ w' ⟨hB,rb,rp,rm,rf⟩ hp
     · obtain ⟨rfl,rfl,rfl,rfl,-⟩:=hp
       refine .inl ?_
       unfold Oper.wp;simp only [plUpd,B3,BU];go_simp
       exact Cf rfl rfl (.mk hB rb rp (by simp) (by simp))
     · obtain ⟨rfl,rfl,rfl,rfl,rfl,-⟩:=hp
       refine .inl ?_
       unfold Oper.wp;simp only [plUpd,B3,BU];go_simp
       exact Cf rfl rfl (.mk hB rb rp (by simp) (by simp))
     · obtain ⟨rfl,rfl,rfl,rfl,rfl,-⟩:=hp
       obtain ⟨z0,z1,z2,z3⟩:=bx4 (rb rfl);have zl:=(rb rfl).lt;refine .inl ?_
       unfold Oper.wp;simp only [plUpd,B3,BU];go_simp
       exact Cf rfl rfl (.mk hB rb rp (by simp) (by simp))
     · obtain ⟨rfl,rfl,rfl,rfl,rfl,-⟩:=hp
       refine .inl ?_
       unfold Oper.wp;simp only [plUpd,B3,BU];go_simp
       exact Cf rfl rfl (.mk hB rb rp (by simp) (by simp))
     · obtain ⟨rfl,rfl,rfl,rfl,rfl,-⟩:=hp
       obtain ⟨z0,z1,z2,z3⟩:=bx4 (rb rfl);have zl:=(rb rfl).lt;refine .inl ?_
       unfold Oper.wp;simp only [plUpd,B3,BU];go_simp
       exact Cf rfl rfl (.mk hB rb rp (by simp) (by simp))
     · obtain ⟨rfl,rfl,rfl,rfl,rfl,rfl,rfl,rfl,-⟩:=hp
       have hB1:=hB rfl;have rp1:=rp rfl;have rb1:=rb rfl;refine .inl ?_
       unfold Oper.wp;simp only [plUpd,B3,BU];go_simp
       refine (HPU.out w' rp1.1).mono ?_
       rintro e w1 ⟨rfl,hm,hf⟩;exact Cf rfl rfl (.mk (by simp) (fun _=>rb1.only hf HFX.out) (by simp) (fun _ _=>⟨⟨w',rp1.1,Nat.le_trans HBS.out hB1.size,HWA.out.trans (hB1.mono HBS.out),hm,fun q hq=>(rp1.2.lt q hq).2⟩,rp1.1.doc.only hf fun k hg hk=>rp1.1.fg k hk hg,rp1.2.only hf fun q hq=>(HCF.out q hq).1⟩) (by simp))
     · obtain ⟨rfl,rfl,rfl,-⟩:=hp
       refine .inl ?_
       unfold Oper.wp;simp only [plUpd,B3,BU];go_simp
       exact Cf rfl rfl (.mk hB rb rp rm (by simp))
     · obtain ⟨rfl,rfl,rfl,rfl,-⟩:=hp
       refine .inl ?_
       unfold Oper.wp;simp only [plUpd,B3,BU];go_simp
       exact Cf rfl rfl (.mk hB rb rp rm (by simp))
     · obtain ⟨rfl,rfl,rfl,rfl,-⟩:=hp
       obtain ⟨z0,z1,z2,z3⟩:=bx4 (rb rfl);have zl:=(rb rfl).lt;refine .inl ?_
       unfold Oper.wp;simp only [plUpd,B3,BU];go_simp
       exact Cf rfl rfl (.mk hB rb rp rm (by simp))
     · obtain ⟨rfl,rfl,rfl,rfl,-⟩:=hp
       refine .inl ?_
       unfold Oper.wp;simp only [plUpd,B3,BU];go_simp
       exact Cf rfl rfl (.mk hB rb rp rm (by simp))
     · obtain ⟨rfl,rfl,rfl,rfl,-⟩:=hp
       obtain ⟨z0,z1,z2,z3⟩:=bx4 (rb rfl);have zl:=(rb rfl).lt;refine .inl ?_
       unfold Oper.wp;simp only [plUpd,B3,BU];go_simp
       exact Cf rfl rfl (.mk hB rb rp rm (by simp))
     · obtain ⟨rfl,rfl,rfl,rfl,rfl,rfl,rfl,rfl,rfl,rfl,rfl,rfl,rfl,-⟩:=hp
       have rm1:=rm rfl rfl;refine .inl ?_
       unfold Oper.wp;simp only [plUpd,B3,BU];go_simp
       refine (HDP.out w' rm1.doc).mono ?_
       rintro e w2 ⟨rfl,hd⟩;exact Cf rfl rfl (.mk (by simp) (by simp) (by simp) (by simp) (fun _=>rm1.fin HCF.out hd))
     · obtain ⟨rfl,rfl,rfl,rfl,rfl,rfl,rfl,rfl,rfl,rfl,rfl,rfl,rfl,-⟩:=hp
       refine .inl ?_
       unfold Oper.wp;simp only [plUpd,B3,BU];go_simp
       exact Cf rfl rfl (.mk (by simp) (by simp) (by simp) (by simp) rf)
  · obtain rfl:k=cl.length:=by omega
    have d1 : ¬ (cl.length:Int)<(cl.length:Int):=by omega
    have HLE:Hid (∀ W,Below wr.heap.size wr W→Calls Tryz.prog 17 #[.pointer (some ⟨bs,0,none⟩)] W fun e w'=>e = .returned (.int .i64 es.length)∧Below W.heap.size W w'):=fun W hb=>by
     obtain ⟨F,G,vg,vt,vr,rs,h1,-,-,-⟩:=HP.out;exact BO W (h1.st.below hb)
    have hdx : ∃ (go:Option Addr) (gc:Nat) (vt vr:Value),ak wr bd [.slice go es.length gc,vt,vr,.int .i64 0]:=by
     obtain ⟨F,G,vg,vt,vr,rs,h1,-,-,-⟩:=HP.out;obtain ⟨go,gc,rfl⟩:=h1.doc.g.shape;have h2:=h1.doc.box;rw [show (di es).length=es.length from List.length_map ..] at h2;exact ⟨go,gc,vt,vr,h2⟩
    obtain ⟨go,gc,vt,vr,hdx⟩:=hdx;have HDX:=zH hdx;have HLN:Hid (LenOk es):=by show es.length≤40; exact Nat.le_trans HE.out HCL.out
    have HPT:Hid (∀ W,Below wr.heap.size wr W→rD w.heap.size W bs bd es∧Below w.heap.size w W):=fun W hb=>by
     obtain ⟨F,G,vg,vt,vr,rs,h1,-,-,h4⟩:=HP.out.below (Nat.le_refl _) hb;exact ⟨⟨F,G,vg,vt,vr,rs,h1⟩,h4⟩
    clear hdx HP HE;generalize hnn:es.length=n at *;clear hnn;go_upto_region 8 with fail
    refine xy (peJ wr bs bd n go gc) [1535276,1417182,1574712,1574703,1121850,1121769,1121526,1120797,1118610,1112085,1535311,1476265,1328602] 13 (by kernel_rfl) rfl (by kernel_rfl) (by kernel_rfl) (Cf rfl rfl (.mk (aY (Below.refl _ _) 1))) ?fin ?step
    case fin =>
     rintro _ _ w' ⟨hB⟩ ⟨rfl,rfl,rfl,rfl,rfl,rfl,rfl,rfl,rfl,rfl,rfl,rfl,rfl,-⟩;simp only [peUpd,B3,BU,cond_true];have HB9:=zH hB;clear hB;go_wp2
     go_ret3
     exact ⟨bs,bd,es,rfl,(HPT.out _ HB9.out).1,HLN.out,(HPT.out _ HB9.out).2⟩
    case step =>
     iterate 13 refine .s ?_ ?_
     · exact .z
     all_goals rintro _ _ w' ⟨hB⟩ hp
     · obtain ⟨rfl,rfl,rfl,rfl,-⟩:=hp
       refine .inl ?_
       unfold Oper.wp;simp only [peUpd,B3,BU];go_simp
       exact Cf rfl rfl (.mk hB)
     · obtain ⟨rfl,rfl,rfl,-⟩:=hp
       refine .inl ?_
       unfold Oper.wp;simp only [peUpd,B3,BU];go_simp
       exact Cf rfl rfl (.mk hB)
     · obtain ⟨rfl,rfl,rfl,rfl,rfl,rfl,-⟩:=hp
       refine .inl ?_
       unfold Oper.wp;simp only [peUpd,B3,BU];go_simp
       exact Cf rfl rfl (.mk hB)
     · obtain ⟨rfl,rfl,rfl,rfl,rfl,rfl,-⟩:=hp
       have hS:=hB.size;refine .inl ?_
       unfold Oper.wp;simp only [peUpd,B3,BU];go_simp
       refine (HLE.out w' hB).mono ?_
       intro e w1 hO;obtain ⟨rfl,hb⟩:=hO;exact Cf rfl rfl (.mk (hB.trans (hb.mono hB.size)))
     · obtain ⟨rfl,rfl,rfl,rfl,rfl,rfl,rfl,-⟩:=hp
       refine .inl ?_
       unfold Oper.wp;simp only [peUpd,B3,BU];go_simp
       exact Cf rfl rfl (.mk hB)
     · obtain ⟨rfl,rfl,rfl,rfl,rfl,rfl,rfl,-⟩:=hp
       refine .inl ?_
       unfold Oper.wp;simp only [peUpd,B3,BU];go_simp
       exact Cf rfl rfl (.mk hB)
     · obtain ⟨rfl,rfl,rfl,rfl,rfl,rfl,rfl,-⟩:=hp
       refine .inl ?_
       unfold Oper.wp;simp only [peUpd,B3,BU];go_simp
       exact Cf rfl rfl (.mk hB)
     · obtain ⟨rfl,rfl,rfl,rfl,rfl,rfl,rfl,-⟩:=hp
       have y0:=(HDX.out.below hB HDX.out.lt).cell 0 _ rfl;have yl:=(HDX.out.below hB HDX.out.lt).lt;refine .inl ?_
       unfold Oper.wp;simp only [peUpd,B3,BU];go_simp
       exact Cf rfl rfl (.mk hB)
     · obtain ⟨rfl,rfl,rfl,rfl,rfl,rfl,rfl,-⟩:=hp
       refine .inl ?_
       unfold Oper.wp;simp only [peUpd,B3,BU];go_simp
       exact Cf rfl rfl (.mk hB)
     · obtain ⟨rfl,rfl,rfl,rfl,rfl,rfl,rfl,rfl,rfl,-⟩:=hp
       refine .inl ?_
       unfold Oper.wp;simp only [peUpd,B3,BU];go_simp
       exact Cf rfl rfl (.mk hB)
     · obtain ⟨rfl,rfl,rfl,rfl,rfl,rfl,-⟩:=hp
       refine .inl ?_
       unfold Oper.wp;simp only [peUpd,B3,BU];go_simp
       exact Cf rfl rfl (.mk hB)
     · obtain ⟨rfl,rfl,rfl,rfl,rfl,rfl,rfl,-⟩:=hp
       refine .inl ?_
       unfold Oper.wp;simp only [peUpd,B3,BU];go_simp
       exact Cf rfl rfl (.mk hB)
     · obtain ⟨rfl,rfl,rfl,rfl,rfl,rfl,rfl,rfl,rfl,rfl,rfl,rfl,rfl,-⟩:=hp
       refine .inl ?_
       unfold Oper.wp;simp only [peUpd,B3,BU];go_simp
       exact Cf rfl rfl (.mk hB)
end Go.Proofs.YtominiaohfjobaaGreatDoor
