/- The law StorePuts returns true; the conditions stand in the theorem. -/
import Derived.Test.YtominiaohfjobaaGreatDoorPT02
import Derived.Test.YtominiaohfjobaaGreatDoorPT03
import Derived.Test.YtominiaohfjobaaGreatDoorPT04
import Derived.Test.YtominiaohfjobaaGreatDoorPK17
namespace Go.Proofs.YtominiaohfjobaaGreatDoor
open Go Go.RowKit
theorem gavMay_parts {g:bp} (h:dI g=true):isIdB g.group=true∧isIdB g.artifact=true∧iu g.version=true:=by
 unfold dI at h;simp only [Bool.and_eq_true] at h;exact ⟨h.1.1,h.1.2,h.2⟩
theorem verMay_sz {s:S} (h:iu s=true):s.size≤64:=by
 unfold iu at h;simp only [Bool.and_eq_true,decide_eq_true_eq] at h;exact h.2
theorem vers_smallP {es:List (bF × Nat)} (h : ∀ g ∈ di es,dI g=true) (x:Id):ci (bT es x):=fun s hs=>by
 unfold bT at hs;obtain ⟨g,hg,rfl⟩:=List.mem_map.1 hs;have h1:=verMay_sz (gavMay_parts (h g (List.mem_filter.1 hg).1)).2.2;omega
theorem bx2 {w:World} {b:Nat} {v0 v1:Value} (h:ak w b [v0,v1]):w.cell? ⟨b,0,none⟩=some v0∧w.cell? ⟨b,1,none⟩=some v1:=⟨h.cell 0 _ rfl,h.cell 1 _ rfl⟩
theorem bx3 {w:World} {b:Nat} {v0 v1 v2:Value} (h:ak w b [v0,v1,v2]):w.cell? ⟨b,0,none⟩=some v0∧w.cell? ⟨b,1,none⟩=some v1∧w.cell? ⟨b,2,none⟩=some v2:=⟨h.cell 0 _ rfl,h.cell 1 _ rfl,h.cell 2 _ rfl⟩
def VersP (M:List S) (w:World) (e:Ending) (w':World):Prop:=∃ v',e = .returned v'∧aj w.heap.size 9 1 gq w' v' M∧Below w.heap.size w w'
theorem dec_ge {i:Int} {q:Bool} (h:0≤i↔q=true):decide (i ≥ 0)=q:=by cases q <;> simp_all
theorem dec_ge2 {i:Int} {q:Bool} (h:0≤i↔q=true):decide (0≤i)=q:=dec_ge h
def pmUpd (bs bd:Nat) (ag:List bp) (gg ga gv:S) (hq:Bool) (aX_:Act) (f0 f1 f2 f3 f4 f5 f6 f7 f8 f9 f10 f11 f12 f13 f14 f15 f16 f17 f18 f19:Bool) (pa:Option Addr) (pc:Nat) (qa:Option Addr) (qc_:Nat) (iq_:Int):Act:=B3 aX_ [(23,f0,.bool true),(0,f1,.bool false),(0,f2,.bool false),(0,f3,.pointer (some ⟨bs,0,none⟩)),(0,f4,.slice pa ag.length pc),(0,f5,.pointer (some ⟨bd,0,none⟩)),(0,f6,.slice qa ag.length qc_),(0,f7,.bool true),(0,f8,.bool false),(0,f9,.bool false),(0,f10,.bool false),(0,f11,.pointer (some ⟨bs,0,none⟩)),(0,f12,.agg #[.string gg,.string ga,.string gv]),(0,f13,.bool hq),(0,f14,.pointer (some ⟨bd,0,none⟩)),(0,f15,.agg #[.string gg,.string ga,.string gv]),(0,f16,.int .i64 iq_),(0,f17,.bool hq),(0,f18,.bool false),(0,f19,.bool false)]
inductive pmJ (V:World) (bs bd:Nat) (ag:List bp) (gg ga gv:S) (hq:Bool) (aX_:Act):List Bool→Act→World→Prop where
 | mk {f0 f1 f2 f3 f4 f5 f6 f7 f8 f9 f10 f11 f12 f13 f14 f15 f16 f17 f18 f19:Bool} (pa:Option Addr) (pc:Nat) (qa:Option Addr) (qc_:Nat) (iq_:Int) {w':World} (hB:Below V.heap.size V w') (r1:(f4=true→aj V.heap.size 26 3 gu w' (.slice pa ag.length pc) ag)) (r2:(f6=true→aj V.heap.size 26 3 gu w' (.slice qa ag.length qc_) ag)) (ri:(f16=true→(0≤iq_↔hq=true))):pmJ V bs bd ag gg ga gv hq aX_ [f0,f1,f2,f3,f4,f5,f6,f7,f8,f9,f10,f11,f12,f13,f14,f15,f16,f17,f18,f19] (pmUpd bs bd ag gg ga gv hq aX_ f0 f1 f2 f3 f4 f5 f6 f7 f8 f9 f10 f11 f12 f13 f14 f15 f16 f17 f18 f19 pa pc qa qc_ iq_) w'
def pvUpd (bs bd:Nat) (M:List S) (xg xa:S) (aX_:Act) (f0 f1 f2 f3 f4 f5 f6 f7:Bool) (pa:Option Addr) (pc:Nat) (qa:Option Addr) (qc_:Nat):Act:=B3 aX_ [(10,f6,.slice pa M.length pc),(0,f7,.slice qa M.length qc_),(31,f0,.pointer (some ⟨bs,0,none⟩)),(0,f1,.agg #[.string xg,.string xa]),(0,f2,.slice pa M.length pc),(0,f3,.pointer (some ⟨bd,0,none⟩)),(0,f4,.agg #[.string xg,.string xa]),(0,f5,.slice qa M.length qc_)]
inductive pvJ (V:World) (bs bd:Nat) (M:List S) (xg xa:S) (aX_:Act):List Bool→Act→World→Prop where
 | mk {f0 f1 f2 f3 f4 f5 f6 f7:Bool} (pa:Option Addr) (pc:Nat) (qa:Option Addr) (qc_:Nat) {w':World} (hB:Below V.heap.size V w') (r1:(f2=true→aj V.heap.size 9 1 gq w' (.slice pa M.length pc) M)) (r2:(f5=true→aj V.heap.size 9 1 gq w' (.slice qa M.length qc_) M)):pvJ V bs bd M xg xa aX_ [f0,f1,f2,f3,f4,f5,f6,f7] (pvUpd bs bd M xg xa aX_ f0 f1 f2 f3 f4 f5 f6 f7 pa pc qa qc_) w'
set_option maxRecDepth 100000 in
set_option maxHeartbeats 32000000 in
theorem storePuts_law (HPT:gk) (HRM:RefMayOk) (v:Value) (l:List (bp × S)) (x:Id) (g:bp) (mx_:Int) (w:World) (h:af 4 Ce w v l) (hz : ∀ p ∈ l,vf p.1) (hm:w.cell? ⟨0,0,none⟩=some (.int .i64 mx_)) :
    Calls Tryz.prog 3 #[v,.agg #[.string x.group,.string x.artifact],.agg #[.string g.group,.string g.artifact,.string g.version]] w fun e w'=>e = .returned (.bool true)∧Below w.heap.size w w':=by
 have hw0:0<w.heap.size:=World.block_lt_of_cell? w _ hm;have HFL:Hid (∀ W,Below w.heap.size w W→Calls Tryz.prog 5 #[v] W (FillT W)):=fun W hb=>fill_ofT HRM v l W (h.below hb) hz;have HLV:Hid (∀ W,Below w.heap.size w W→Calls Tryz.prog 14 #[] W fun e w'=>e = .returned (.bool true)∧Below W.heap.size W w'):=fun W hb=>xU mx_ W ((hb.cell (by exact hw0)).trans hm);have HPT':=zH HPT;obtain ⟨lo,lc,rfl⟩:=h.shape;clear h hz HPT HRM hm hw0;obtain ⟨gg,ga,gv⟩:=g;obtain ⟨xg,xa⟩:=x;simp only;go_enter Tryz.func3,Tryz.ntmps3
 go_upto_region 1 with fail
 refine ai fun W hW=>?_
 have x4:ak W w.heap.size [.string xg,.string xa]:=by rw [hW]; exact (ak.new w [.string xg,.string xa] _ _ rfl).alloc _
 have x5:ak W (w.heap.size+1) [.string gg,.string ga,.string gv]:=by rw [hW]; exact ak.new _ [.string gg,.string ga,.string gv] _ _ (by simp)
 have hb:Below w.heap.size w W:=by rw [hW]; exact ((Below.refl _ w).alloc (Nat.le_refl _) _).alloc (by simp) _
 clear hW;have HX4:=zH x4;have HX5:=zH x5;have HB:=zH hb;clear x4 x5 hb;go_wp2_with fail
 refine (HFL.out W HB.out).mono ?_
 rintro e w1 ⟨bs,bd,es,rfl,hp,hel,hb1⟩;replace HX4:=zH (HX4.out.below hb1 HX4.out.lt);replace HX5:=zH (HX5.out.below hb1 HX5.out.lt);replace HB:=zH (HB.out.trans (hb1.mono HB.out.size));have hel:es.length≤40:=hel;have HEL:=zH hel;obtain ⟨F,G,vg,vt,vr,rs,hq⟩:=hp;have HQ:=zH hq;have HMY:=zH hq.may;have HON:Hid ((es.map fun e=>e.1.gav).Nodup):=by obtain ⟨_,_,_,_,_,_,hs⟩:=hq.st; exact hs.once
 have HGL:Hid ((di es).length=es.length):=List.length_map ..;have HAG:Hid ((mj (di es)).length≤40):=by show _≤_; rw [zt,HGL.out]; exact hel
 clear hq hb1 hel HFL;have HAL:Hid (∀ U,Below w1.heap.size w1 U→Calls Tryz.prog 7 #[.pointer (some ⟨bs,0,none⟩)] U (Cj (mj (di es)) U)):=fun U hb=>all_of U (HQ.out.st.below hb) (by have:=HEL.out; omega) (vers_smallP HMY.out);have HSZ:Hid (∀ g ∈ di es,g.version.size≤900000):=fun g hg=>by have:=verMay_sz (gavMay_parts (HMY.out g hg)).2.2; omega
 have HDA:Hid (∀ U,Below w1.heap.size w1 U→Calls Tryz.prog 8 #[.pointer (some ⟨bd,0,none⟩)] U (Cj (mj (di es)) U)):=fun U hb=>wY HPT'.out bd _ _ _ _ (di es) U (HQ.out.doc.below hb).box ((HQ.out.doc.below hb).g.slice fun _=>rfl) (by have h1:=HEL.out; have h2:=HGL.out; omega) HSZ.out;have HSG:Hid (∀ v u U,af 3 gu U v (mj (di es))→af 3 gu U u (mj (di es))→Calls Tryz.prog 6 #[v,u] U fun e w'=>e = .returned (.bool true)∧Below U.heap.size U w'):=fun v u U h1 h2=>sameGavs_any _ v u U h1 h2 (by have:=HAG.out; omega);have HHA:Hid (∀ U,Below w1.heap.size w1 U→Calls Tryz.prog 9 #[.pointer (some ⟨bs,0,none⟩),.agg #[.string gg,.string ga,.string gv]] U fun e w'=>e = .returned (.bool (je es ⟨gg,ga,gv⟩))∧Below U.heap.size U w'):=fun U hb=>qW ⟨gg,ga,gv⟩ U (HQ.out.st.below hb)
 have HAT:Hid (∀ U,Below w1.heap.size w1 U→Calls Tryz.prog 10 #[.pointer (some ⟨bd,0,none⟩),.agg #[.string gg,.string ga,.string gv]] U fun e w'=>∃ i:Int,e = .returned (.int .i64 i)∧(0≤i↔je es ⟨gg,ga,gv⟩=true)∧Below U.heap.size U w'):=fun U hb=>by
  have h1:=Bu ⟨gg,ga,gv⟩ bd _ _ _ _ (di es) U (HQ.out.doc.below hb).box ((HQ.out.doc.below hb).g.slice fun _=>rfl) (by have h1:=HEL.out; have h2:=HGL.out; omega);refine h1.mono fun e w' hp=>?_
  obtain ⟨i,e1,e2,e3⟩:=hp;exact ⟨i,e1,by rw [sM,decide_eq_true_iff]; exact e2,e3⟩
 have HVE:Hid (∀ U,Below w1.heap.size w1 U→Calls Tryz.prog 11 #[.pointer (some ⟨bs,0,none⟩),.agg #[.string xg,.string xa]] U (VersP (cV (mj (di es)) ⟨xg,xa⟩) U)):=fun U hb=>by
  have hln:(bT es ⟨xg,xa⟩).length≤1000000:=by
   unfold bT;rw [List.length_map];refine Nat.le_trans (List.length_filter_le _ _) ?_
   rw [List.length_map];have:=HEL.out
   omega
  refine (zV ⟨xg,xa⟩ U (HQ.out.st.below hb) hln (vers_smallP HMY.out _)).mono fun e w' hp=>?_
  obtain ⟨v',M,h1,h2,h3,h4,h5⟩:=hp;rw [← versions_sameA (l:=di es) (x:=⟨xg,xa⟩) h3 h4] at h2;exact ⟨v',h1,h2,h5⟩
 have HDV:Hid (∀ U,Below w1.heap.size w1 U→Calls Tryz.prog 12 #[.pointer (some ⟨bd,0,none⟩),.agg #[.string xg,.string xa]] U (VersP (cV (mj (di es)) ⟨xg,xa⟩) U)):=fun U hb=>yT HPT'.out ⟨xg,xa⟩ bd _ _ _ _ (di es) U (HQ.out.doc.below hb).box ((HQ.out.doc.below hb).g.slice fun _=>rfl) (by have h1:=HEL.out; have h2:=HGL.out; omega) HSZ.out
 have HVN:Hid ((cV (mj (di es)) ⟨xg,xa⟩).length≤1000):=by
  unfold cV;show _≤_
  rw [List.length_map];exact Nat.le_trans (List.length_filter_le _ _) (by have:=HAG.out; omega)
 have HTX:Hid (∀ U k,Below w1.heap.size w1 U → ∀ hk:k<es.length,Calls Tryz.prog 13 #[.pointer (some ⟨bs,0,none⟩),.agg #[.string es[k].1.gav.group,.string es[k].1.gav.artifact,.string es[k].1.gav.version]] U fun en w'=>en = .returned (.tuple #[.string es[k].1.text,.bool true])∧Below U.heap.size U w'):=fun U k hb hk=>textS_any es[k].1.gav U (HQ.out.st.below hb) (find_once HON.out hk)
 have hdx : ∃ (go:Option Addr) (gc:Nat) (tq_:Option Addr) (tc:Nat),ak w1 bd [.slice go es.length gc,.slice tq_ es.length tc,vr,.int .i64 0]∧af 3 gu w1 (.slice go es.length gc) (di es)∧af 1 gq w1 (.slice tq_ es.length tc) (fC es):=by
  have h1:=HQ.out.doc;obtain ⟨go,gc,rfl⟩:=h1.g.shape;obtain ⟨tq_,tc,rfl⟩:=h1.t.shape;have h2:=h1.box;have h3:=h1.g.slice fun _=>rfl;have h4:=h1.t.slice kU;rw [HGL.out] at h2 h3;rw [show (fC es).length=es.length from List.length_map ..] at h2 h4;exact ⟨go,gc,tq_,tc,h2,h3,h4⟩
 obtain ⟨go,gc,tq_,tc,hd1,hd2,hd3⟩:=hdx;have HD1:=zH hd1;have HD2:=zH hd2;have HD3:=zH hd3;clear hd1 hd2 hd3 HQ HMY HON HPT' HSZ HGL;generalize je es ⟨gg,ga,gv⟩=hq at *;generalize cV (mj (di es)) ⟨xg,xa⟩=M at *;generalize mj (di es)=ag at *;go_upto_region 2 with fail
 refine xy (pmJ w1 bs bd ag gg ga gv hq) [3486784400,3486784399,3486784396,3486783901,3486783874,3486784171,3486784036,3486783307,3486781120,3486774559,3486754876,3447369193,3448077781,3447723487,3453392191,3472524067,3465261040,3422214319,3293074156,2905653667] 20 (by kernel_rfl) rfl (by kernel_rfl) (by kernel_rfl) (Cf rfl rfl (.mk none 0 none 0 default (aY (Below.refl _ _) 1) (by simp) (by simp) (by simp))) ?fin ?step
 case fin =>
  rintro _ _ w' ⟨pa,pc,qa,qc_,iq_,hB,r1,r2,ri⟩ ⟨rfl,rfl,rfl,rfl,rfl,rfl,rfl,rfl,rfl,rfl,rfl,rfl,rfl,rfl,rfl,rfl,rfl,rfl,rfl,rfl,-⟩;simp only [pmUpd,B3,BU,cond_true];have HB2:=zH hB;clear hB r1 r2 ri HAL HDA HSG HHA HAT HX5;replace HX4:=zH (HX4.out.below HB2.out HX4.out.lt);go_upto_region 4 with fail
  refine ai fun w2 hw2=>?_
  obtain rfl:w2=w':=hw2;have HVE2:Hid (∀ U,Below w2.heap.size w2 U→Calls Tryz.prog 11 #[.pointer (some ⟨bs,0,none⟩),.agg #[.string xg,.string xa]] U (VersP M U)):=fun U hb=>HVE.out U (HB2.out.trans (hb.mono HB2.out.size));have HDV2:Hid (∀ U,Below w2.heap.size w2 U→Calls Tryz.prog 12 #[.pointer (some ⟨bd,0,none⟩),.agg #[.string xg,.string xa]] U (VersP M U)):=fun U hb=>HDV.out U (HB2.out.trans (hb.mono HB2.out.size));clear HVE HDV;have HVE:=HVE2;have HDV:=HDV2;clear HVE2 HDV2;refine xy (pvJ w2 bs bd M xg xa) [6338,6342,6340,6372,6480,6439,6196,5467] 8 (by kernel_rfl) rfl (by kernel_rfl) (by kernel_rfl) (Cf rfl rfl (.mk none 0 none 0 (aY (Below.refl _ _) 1) (by simp) (by simp))) ?fin2 ?step2
  case fin2 =>
   rintro _ _ w' ⟨pa,pc,qa,qc_,hB,r1,r2⟩ ⟨rfl,rfl,rfl,rfl,rfl,rfl,rfl,rfl,-⟩;simp only [pvUpd,B3,BU,cond_true];have HB4:=zH (HB2.out.trans (hB.mono HB2.out.size));have HR1:=zH ((r1 rfl).slice kU);have HR2:=zH ((r2 rfl).slice kU);clear hB r1 r2 HVE HDV HX4;obtain ⟨w4,hw4⟩ : ∃ w4,w4=w':=⟨_,rfl⟩;rw [← hw4] at HB4 HR1 HR2 ⊢;clear hw4;go_wp2
   go_loopw [56] (fun i wr=>∃ k:Nat,i = .int .i64 k∧k≤M.length∧Hid (Below w4.heap.size w4 wr)) (fun i _=>M.length - (intOf i).toNat)
   case atStart=>exact ⟨0,rfl,Nat.zero_le _,Below.refl _ _⟩
   case round =>
    obtain ⟨k,rfl,hk,HBr⟩:=hrel;by_cases hlt:k<M.length
    · obtain ⟨b1,o1,ha1,hl1,hc1⟩:=(HR1.out.below HBr.out).at1A hlt
      obtain ⟨b2,o2,ha2,hl2,hc2⟩:=(HR2.out.below HBr.out).at1A hlt;cases ha1
      cases ha2
      have d1:(k:Int)<(M.length:Int):=by omega
      have wk:IntKind.i64.wrap ((k:Int)+1)=(k:Int)+1:=IntWalk.i64_in _ (by have:=HVN.out; omega);have HKL:Hid (k+1≤M.length):=hlt;generalize M[k]=y at *;have ey_:(y.toList == y.toList)=true:=by simp
      clear hlt;go_upto_region 10 with fail
      have hLL:=@aJ.cells wr;refine cG (by kernel_rfl) (by kernel_rfl) ?_
      repeat (go_big_quiet_step (fail))
      refine wpQuiet_nil ?_
      rintro _ ⟨nx,rfl⟩;have HBn:=zH (HBr.out.trans (nx.below.mono HBr.out.size));clear hLL hc1 hc2 hl1 hl2 d1 ey_;generalize nx.at_=wn at *;go_wp2
      go_roundw
      case rel=>exact ⟨k+1,by first | rfl | go_num,HKL.out,HBn⟩
      case measure=>simp [intOf]; have:=HKL.out; omega
    · obtain rfl:k=M.length:=by omega
      have d1 : ¬ (M.length:Int)<(M.length:Int):=by omega
      have HB5:=zH (HB4.out.trans (HBr.out.mono HB4.out.size));obtain ⟨w5,hw5⟩ : ∃ w5,w5=wr:=⟨_,rfl⟩;rw [← hw5] at HB5 ⊢;clear hw5 HBr HR1 HR2;have y0:=(HD1.out.below HB5.out HD1.out.lt).cell 0 _ rfl;have yl:=(HD1.out.below HB5.out HD1.out.lt).lt;go_wp2
      go_loopw [74] (fun i wr=>∃ k:Nat,i = .int .i64 k∧k≤es.length∧Hid (Below w1.heap.size w1 wr)) (fun i _=>es.length - (intOf i).toNat)
      case atStart=>exact ⟨0,rfl,Nat.zero_le _,HB5.out⟩
      case round =>
       clear y0 yl HB5;obtain ⟨k,rfl,hk,HBr⟩:=hrel;by_cases hlt:k<es.length
       · obtain ⟨b1,o1,ha1,hl1,c0,c1,c2⟩:=(HD2.out.below HBr.out).atG (show k<(di es).length by rw [di,List.length_map]; exact hlt)
         cases ha1
         have d1:(k:Int)<(es.length:Int):=by omega
         have wk:IntKind.i64.wrap ((k:Int)+1)=(k:Int)+1:=IntWalk.i64_in _ (by have:=HEL.out; omega);have HKL:Hid (k+1≤es.length):=hlt;have HTK:Hid (∀ U,Below w1.heap.size w1 U→Calls Tryz.prog 13 #[.pointer (some ⟨bs,0,none⟩),.agg #[.string es[k].1.gav.group,.string es[k].1.gav.artifact,.string es[k].1.gav.version]] U fun en w'=>en = .returned (.tuple #[.string es[k].1.text,.bool true])∧Below U.heap.size U w'):=fun U hb=>HTX.out U k hb hlt
         have HT3:Hid (∀ U,Below w1.heap.size w1 U → ∃ b o,tq_=some ⟨b,o,none⟩∧b<U.heap.size∧U.cell? ⟨b,o+k,none⟩=some (.string es[k].1.text)):=fun U hb=>by
          have h1:=(HD3.out.below hb).at1A (show k<(fC es).length by rw [fC,List.length_map]; exact hlt);obtain ⟨b,o,q1,q2,q3⟩:=h1;exact ⟨b,o,q1,q2,by rw [q3]; simp only [fC,List.getElem_map]; rfl⟩
         simp only [di,List.getElem_map] at c0 c1 c2;generalize es[k].1.text=ty at *;generalize es[k].1.gav=y at *;clear hlt;go_upto_region 16 with fail
         refine ai fun W1 hW=>?_
         have z1:ak W1 wr.heap.size [.string y.group,.string y.artifact,.string y.version]:=by rw [hW]; exact ak.new wr [.string y.group,.string y.artifact,.string y.version] _ _ rfl
         have hb1:Below wr.heap.size wr W1:=by rw [hW]; exact (Below.refl _ wr).alloc (Nat.le_refl _) _
         clear hW c0 c1 c2 hl1 d1;have HW1:=zH (HBr.out.trans (hb1.mono HBr.out.size));obtain ⟨z0,z2,z3⟩:=ej z1;have zl:=z1.lt;clear z1 hb1 HBr;go_wp2_with fail
         refine (HTK.out W1 HW1.out).mono ?_
         rintro e w6 ⟨rfl,hb6⟩;have HW6:=zH (HW1.out.trans (hb6.mono HW1.out.size));clear hb6 HW1 z0 z2 z3 zl HTK;obtain ⟨b2,o2,hto,hl2,t0⟩:=HT3.out w6 HW6.out;have y1:=(HD1.out.below HW6.out HD1.out.lt).cell 1 _ rfl;have yl:=(HD1.out.below HW6.out HD1.out.lt).lt;rw [hto] at y1;have d1:(k:Int)<(es.length:Int):=by have:=HKL.out; omega
         have ey_:(ty.toList == ty.toList)=true:=by simp
         go_wp2
         go_roundw
         case rel=>exact ⟨k+1,by first | rfl | go_num,HKL.out,HW6⟩
         case measure=>simp [intOf]; have:=HKL.out; omega
       · obtain rfl:k=es.length:=by omega
         have d1 : ¬ (es.length:Int)<(es.length:Int):=by omega
         have HB7:=zH (HB.out.trans (HBr.out.mono HB.out.size));go_wp2_with fail
         refine (HLV.out wr HB7.out).mono ?_
         rintro e w7 ⟨rfl,hb7⟩;have HB8:=zH (HB7.out.trans (hb7.mono HB7.out.size));clear hb7;go_wp2
         go_ret
         exact ⟨rfl,HB8.out⟩
  case step2 =>
   iterate 8 refine .s ?_ ?_
   · exact .z
   all_goals rintro _ _ w' ⟨pa,pc,qa,qc_,hB,r1,r2⟩ hp
   · obtain ⟨rfl,rfl,rfl,rfl,rfl,-⟩:=hp
     refine .inl ?_
     unfold Oper.wp;simp only [pvUpd,B3,BU];go_simp
     exact Cf rfl rfl (.mk pa pc qa qc_ hB (by simp) (by simp))
   · obtain ⟨rfl,rfl,rfl,rfl,rfl,-⟩:=hp
     obtain ⟨z0,z1⟩:=bx2 (HX4.out.below hB HX4.out.lt);have zl:=(HX4.out.below hB HX4.out.lt).lt;refine .inl ?_
     unfold Oper.wp;simp only [pvUpd,B3,BU];go_simp
     exact Cf rfl rfl (.mk pa pc qa qc_ hB (by simp) (by simp))
   · obtain ⟨rfl,rfl,rfl,rfl,rfl,rfl,-⟩:=hp
     have hS:=hB.size;refine .inl ?_
     unfold Oper.wp;simp only [pvUpd,B3,BU];go_simp
     refine (HVE.out w' hB).mono ?_
     intro e w1 hO;obtain ⟨v1,rfl,ho,hb⟩:=hO;obtain ⟨o1,c1,rfl⟩:=ho.shape;exact Cf rfl rfl (.mk o1 c1 qa qc_ (hB.trans (hb.mono hB.size)) (fun h0=>ho.base_mono hS) (by simp))
   · obtain ⟨rfl,rfl,rfl,rfl,-⟩:=hp
     refine .inl ?_
     unfold Oper.wp;simp only [pvUpd,B3,BU];go_simp
     exact Cf rfl rfl (.mk pa pc qa qc_ hB r1 (by simp))
   · obtain ⟨rfl,rfl,rfl,rfl,-⟩:=hp
     obtain ⟨z0,z1⟩:=bx2 (HX4.out.below hB HX4.out.lt);have zl:=(HX4.out.below hB HX4.out.lt).lt;refine .inl ?_
     unfold Oper.wp;simp only [pvUpd,B3,BU];go_simp
     exact Cf rfl rfl (.mk pa pc qa qc_ hB r1 (by simp))
   · obtain ⟨rfl,rfl,rfl,rfl,rfl,rfl,rfl,rfl,-⟩:=hp
     have hS:=hB.size;refine .inl ?_
     unfold Oper.wp;simp only [pvUpd,B3,BU];go_simp
     refine (HDV.out w' hB).mono ?_
     intro e w1 hO;obtain ⟨v1,rfl,ho,hb⟩:=hO;obtain ⟨o1,c1,rfl⟩:=ho.shape;exact Cf rfl rfl (.mk pa pc o1 c1 (hB.trans (hb.mono hB.size)) (fun h0=>(r1 h0).below hb) (fun h0=>ho.base_mono hS))
   · obtain ⟨rfl,rfl,rfl,rfl,rfl,rfl,rfl,rfl,-⟩:=hp
     refine .inl ?_
     unfold Oper.wp;simp only [pvUpd,B3,BU];go_simp
     exact Cf rfl rfl (.mk pa pc qa qc_ hB r1 r2)
   · obtain ⟨rfl,rfl,rfl,rfl,rfl,rfl,rfl,rfl,-⟩:=hp
     refine .inl ?_
     unfold Oper.wp;simp only [pvUpd,B3,BU];go_simp
     exact Cf rfl rfl (.mk pa pc qa qc_ hB r1 r2)
 case step =>
  iterate 20 refine .s ?_ ?_
  · exact .z
  all_goals rintro _ _ w' ⟨pa,pc,qa,qc_,iq_,hB,r1,r2,ri⟩ hp
  · obtain ⟨rfl,rfl,rfl,rfl,rfl,rfl,rfl,rfl,rfl,rfl,rfl,rfl,rfl,rfl,rfl,rfl,rfl,rfl,rfl,rfl,-⟩:=hp
    refine .inl ?_
    unfold Oper.wp;simp only [pmUpd,B3,BU];go_simp
    exact Cf rfl rfl (.mk pa pc qa qc_ iq_ hB (by simp) (by simp) (by simp))
  · obtain ⟨rfl,rfl,rfl,rfl,rfl,rfl,rfl,rfl,rfl,rfl,rfl,rfl,rfl,rfl,rfl,rfl,rfl,rfl,rfl,rfl,-⟩:=hp
    refine .inl ?_
    unfold Oper.wp;simp only [pmUpd,B3,BU];go_simp
    exact Cf rfl rfl (.mk pa pc qa qc_ iq_ hB (by simp) (by simp) (by simp))
  · obtain ⟨rfl,rfl,rfl,rfl,rfl,rfl,rfl,rfl,rfl,rfl,rfl,rfl,rfl,rfl,rfl,rfl,rfl,rfl,rfl,rfl,-⟩:=hp
    refine .inl ?_
    unfold Oper.wp;simp only [pmUpd,B3,BU];go_simp
    exact Cf rfl rfl (.mk pa pc qa qc_ iq_ hB (by simp) (by simp) (by simp))
  · obtain ⟨rfl,rfl,rfl,rfl,rfl,rfl,rfl,rfl,rfl,rfl,rfl,rfl,rfl,rfl,rfl,rfl,rfl,rfl,rfl,-⟩:=hp
    refine zQ rfl (by rfl) ?_
    unfold Oper.wp;simp only [pmUpd,B3,BU];go_simp
    exact Cf rfl rfl (.mk pa pc qa qc_ iq_ hB (by simp) (by simp) (by simp))
  · obtain ⟨rfl,rfl,rfl,rfl,rfl,rfl,rfl,rfl,rfl,rfl,rfl,rfl,rfl,rfl,rfl,rfl,rfl,rfl,rfl,-⟩:=hp
    have hS:=hB.size;refine zQ rfl (by rfl) ?_
    unfold Oper.wp;simp only [pmUpd,B3,BU];go_simp
    refine (HAL.out w' hB).mono ?_
    intro e w1 hO;obtain ⟨v1,rfl,ho,hb⟩:=hO;obtain ⟨o1,c1,rfl⟩:=ho.shape;exact Cf rfl rfl (.mk o1 c1 qa qc_ iq_ (hB.trans (hb.mono hB.size)) (fun h0=>ho.base_mono hS) (by simp) (by simp))
  · obtain ⟨rfl,rfl,rfl,rfl,rfl,rfl,rfl,rfl,rfl,rfl,rfl,rfl,rfl,rfl,rfl,rfl,rfl,rfl,-⟩:=hp
    refine zQ rfl (by rfl) ?_
    unfold Oper.wp;simp only [pmUpd,B3,BU];go_simp
    exact Cf rfl rfl (.mk pa pc qa qc_ iq_ hB r1 (by simp) (by simp))
  · obtain ⟨rfl,rfl,rfl,rfl,rfl,rfl,rfl,rfl,rfl,rfl,rfl,rfl,rfl,rfl,rfl,rfl,rfl,rfl,rfl,rfl,-⟩:=hp
    have hS:=hB.size;refine zQ rfl (by rfl) ?_
    unfold Oper.wp;simp only [pmUpd,B3,BU];go_simp
    refine (HDA.out w' hB).mono ?_
    intro e w1 hO;obtain ⟨v1,rfl,ho,hb⟩:=hO;obtain ⟨o1,c1,rfl⟩:=ho.shape;exact Cf rfl rfl (.mk pa pc o1 c1 iq_ (hB.trans (hb.mono hB.size)) (fun h0=>(r1 h0).below hb) (fun h0=>ho.base_mono hS) (by simp))
  · obtain ⟨rfl,rfl,rfl,rfl,rfl,rfl,rfl,rfl,rfl,rfl,rfl,rfl,rfl,rfl,rfl,rfl,rfl,rfl,rfl,rfl,-⟩:=hp
    have hS:=hB.size;refine zQ rfl (by rfl) ?_
    unfold Oper.wp;simp only [pmUpd,B3,BU];go_simp
    refine (HSG.out _ _ w' ((r1 rfl).slice fun _=>rfl) ((r2 rfl).slice fun _=>rfl)).mono ?_
    intro e w1 hO;obtain ⟨rfl,hb⟩:=hO;exact Cf rfl rfl (.mk pa pc qa qc_ iq_ (hB.trans (hb.mono hB.size)) (fun h0=>(r1 h0).below hb) (fun h0=>(r2 h0).below hb) (by simp))
  · obtain ⟨rfl,rfl,rfl,rfl,rfl,rfl,rfl,rfl,rfl,rfl,rfl,rfl,rfl,rfl,rfl,rfl,rfl,rfl,rfl,rfl,-⟩:=hp
    refine zQ rfl (by rfl) ?_
    unfold Oper.wp;simp only [pmUpd,B3,BU];go_simp
    exact Cf rfl rfl (.mk pa pc qa qc_ iq_ hB r1 r2 (by simp))
  · obtain ⟨rfl,rfl,rfl,rfl,rfl,rfl,rfl,rfl,rfl,rfl,rfl,rfl,rfl,rfl,rfl,rfl,rfl,rfl,rfl,rfl,-⟩:=hp
    refine .inl ?_
    unfold Oper.wp;simp only [pmUpd,B3,BU];go_simp
    exact Cf rfl rfl (.mk pa pc qa qc_ iq_ hB r1 r2 (by simp))
  · obtain ⟨rfl,rfl,rfl,rfl,rfl,rfl,rfl,rfl,rfl,rfl,rfl,rfl,rfl,rfl,rfl,rfl,rfl,rfl,rfl,rfl,-⟩:=hp
    refine .inl ?_
    unfold Oper.wp;simp only [pmUpd,B3,BU];go_simp
    exact Cf rfl rfl (.mk pa pc qa qc_ iq_ hB r1 r2 (by simp))
  · obtain ⟨rfl,rfl,rfl,rfl,rfl,rfl,rfl,rfl,rfl,rfl,rfl,rfl,rfl,rfl,rfl,rfl,rfl,-⟩:=hp
    refine zQ rfl (by rfl) ?_
    unfold Oper.wp;simp only [pmUpd,B3,BU];go_simp
    exact Cf rfl rfl (.mk pa pc qa qc_ iq_ hB r1 r2 (by simp))
  · obtain ⟨rfl,rfl,rfl,rfl,rfl,rfl,rfl,rfl,rfl,rfl,rfl,rfl,rfl,rfl,rfl,rfl,rfl,-⟩:=hp
    obtain ⟨z0,z1,z2⟩:=bx3 (HX5.out.below hB HX5.out.lt);have zl:=(HX5.out.below hB HX5.out.lt).lt;refine zQ rfl (by rfl) ?_
    unfold Oper.wp;simp only [pmUpd,B3,BU];go_simp
    exact Cf rfl rfl (.mk pa pc qa qc_ iq_ hB r1 r2 (by simp))
  · obtain ⟨rfl,rfl,rfl,rfl,rfl,rfl,rfl,rfl,rfl,rfl,rfl,rfl,rfl,rfl,rfl,rfl,rfl,rfl,-⟩:=hp
    have hS:=hB.size;refine zQ rfl (by rfl) ?_
    unfold Oper.wp;simp only [pmUpd,B3,BU];go_simp
    refine (HHA.out w' hB).mono ?_
    intro e w1 hO;obtain ⟨rfl,hb⟩:=hO;exact Cf rfl rfl (.mk pa pc qa qc_ iq_ (hB.trans (hb.mono hB.size)) (fun h0=>(r1 h0).below hb) (fun h0=>(r2 h0).below hb) (by simp))
  · obtain ⟨rfl,rfl,rfl,rfl,rfl,rfl,rfl,rfl,rfl,rfl,rfl,rfl,rfl,rfl,rfl,rfl,-⟩:=hp
    refine zQ rfl (by rfl) ?_
    unfold Oper.wp;simp only [pmUpd,B3,BU];go_simp
    exact Cf rfl rfl (.mk pa pc qa qc_ iq_ hB r1 r2 (by simp))
  · obtain ⟨rfl,rfl,rfl,rfl,rfl,rfl,rfl,rfl,rfl,rfl,rfl,rfl,rfl,rfl,rfl,rfl,-⟩:=hp
    obtain ⟨z0,z1,z2⟩:=bx3 (HX5.out.below hB HX5.out.lt);have zl:=(HX5.out.below hB HX5.out.lt).lt;refine zQ rfl (by rfl) ?_
    unfold Oper.wp;simp only [pmUpd,B3,BU];go_simp
    exact Cf rfl rfl (.mk pa pc qa qc_ iq_ hB r1 r2 (by simp))
  · obtain ⟨rfl,rfl,rfl,rfl,rfl,rfl,rfl,rfl,rfl,rfl,rfl,rfl,rfl,rfl,rfl,rfl,rfl,rfl,rfl,rfl,-⟩:=hp
    have hS:=hB.size;refine zQ rfl (by rfl) ?_
    unfold Oper.wp;simp only [pmUpd,B3,BU];go_simp
    refine (HAT.out w' hB).mono ?_
    intro e w1 hO;obtain ⟨i1,rfl,hi,hb⟩:=hO;exact Cf rfl rfl (.mk pa pc qa qc_ i1 (hB.trans (hb.mono hB.size)) (fun h0=>(r1 h0).below hb) (fun h0=>(r2 h0).below hb) (fun h0=>hi))
  · obtain ⟨rfl,rfl,rfl,rfl,rfl,rfl,rfl,rfl,rfl,rfl,rfl,rfl,rfl,rfl,rfl,rfl,rfl,rfl,rfl,rfl,-⟩:=hp
    have ei:=dec_ge (ri rfl);have ej_:=dec_ge2 (ri rfl);refine zQ rfl (by rfl) ?_
    unfold Oper.wp;simp only [pmUpd,B3,BU];go_simp
    exact Cf rfl rfl (.mk pa pc qa qc_ iq_ hB r1 r2 ri)
  · obtain ⟨rfl,rfl,rfl,rfl,rfl,rfl,rfl,rfl,rfl,rfl,rfl,rfl,rfl,rfl,rfl,rfl,rfl,rfl,rfl,rfl,-⟩:=hp
    have ek_:(hq != hq)=false:=by cases hq <;> rfl
    have el:(!(hq == hq))=false:=by cases hq <;> rfl
    refine zQ rfl (by rfl) ?_
    unfold Oper.wp;simp only [pmUpd,B3,BU];go_simp
    exact Cf rfl rfl (.mk pa pc qa qc_ iq_ hB r1 r2 ri)
  · obtain ⟨rfl,rfl,rfl,rfl,rfl,rfl,rfl,rfl,rfl,rfl,rfl,rfl,rfl,rfl,rfl,rfl,rfl,rfl,rfl,rfl,-⟩:=hp
    refine .inl ?_
    unfold Oper.wp;simp only [pmUpd,B3,BU];go_simp
    exact Cf rfl rfl (.mk pa pc qa qc_ iq_ hB r1 r2 ri)
end Go.Proofs.YtominiaohfjobaaGreatDoor
