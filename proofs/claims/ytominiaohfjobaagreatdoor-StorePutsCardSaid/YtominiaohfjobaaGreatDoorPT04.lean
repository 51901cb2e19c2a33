/- The walk of the program's All: the ids in order, of each its versions in order; the conditions stand in the theorem. -/
import Derived.Test.YtominiaohfjobaaGreatDoorPK15
import Derived.Test.YtominiaohfjobaaGreatDoorPK14
namespace Go.Proofs.YtominiaohfjobaaGreatDoor
open Go Go.RowKit
theorem af.atIdA {w:World} {ao:Option Addr} {len cap:Nat} {l:List Id} (h:af 2 jj w (.slice ao len cap) l) {k:Nat} (hk:k<l.length) :
    ∃ b o,ao=some ⟨b,o,none⟩∧b<w.heap.size∧w.cell? ⟨b,o+k*2,none⟩=some (.string l[k].group)∧w.cell? ⟨b,o+k*2+1,none⟩=some (.string l[k].artifact):=by
 obtain ⟨b,o,h1,h2,h3⟩:=h.at hk;exact ⟨b,o,h1,h2,by simpa using h3 0 _ rfl,h3 1 _ rfl⟩
theorem verOf_srtA {M:List bp} (h:dL jd M) (x:Id):dL lW (cV M x):=by
 unfold cV dL;rw [List.pairwise_map];refine (h.sublist List.filter_sublist).imp_of_mem ?_
 intro a b ha hb hab;have e:bh b=bh a:=(of_decide_eq_true (List.mem_filter.1 hb).2).trans (of_decide_eq_true (List.mem_filter.1 ha).2).symm;rw [← nY e];exact hab
theorem verOf_sameA {l M:List bp} (h:aH jd l M) (x:Id):aH lW (cV l x) (cV M x):=by
 have key : ∀ (N:List bp) (v:S),(cV N x).filter (jf lW v)=(N.filter (jf jd ⟨x.group,x.artifact,v⟩)).map fun g=>g.version:=fun N v=>by
  unfold cV;rw [List.filter_map,List.filter_filter];congr 1
  refine List.filter_congr fun g _=>?_
  have hx:bh (⟨x.group,x.artifact,v⟩:bp)=x:=rfl;by_cases hg:bh g=x
  · have e1:=nY (a:=⟨x.group,x.artifact,v⟩) (b:=g) (hx.trans hg.symm)
    have e2:=nY (a:=g) (b:=⟨x.group,x.artifact,v⟩) (hg.trans hx.symm);unfold jf;rw [e1,e2];simp [hg]
  · have hf:jf jd ⟨x.group,x.artifact,v⟩ g=false:=by
     cases hc:jf jd ⟨x.group,x.artifact,v⟩ g with
     | false=>rfl
     | true=>exact absurd ((Az hc).symm.trans hx) hg
    rw [hf,decide_eq_false hg,Bool.and_false]
 intro v;rw [key l v,key M v,h]
theorem versions_sameA {l:List bp} {x:Id} {M:List S} (h1:dL lW M) (h2:aH lW (cV l x) M):cV (mj l) x=M :=
 rT wF (verOf_srtA (mi l).1 x) h1 ((verOf_sameA (mi l).2 x).symm.trans h2)
theorem af.at1A {w:World} {ao:Option Addr} {len cap:Nat} {l:List S} (h:af 1 gq w (.slice ao len cap) l) {k:Nat} (hk:k<l.length) :
    ∃ b o,ao=some ⟨b,o,none⟩∧b<w.heap.size∧w.cell? ⟨b,o+k,none⟩=some (.string l[k]):=by
 obtain ⟨b,o,h1,h2,h3⟩:=h.at hk;exact ⟨b,o,h1,h2,by simpa using h3 0 _ rfl⟩
theorem own_after {v v':Value} {bx N W:Nat} (h:v'.ownBlock=v.ownBlock∨v'.ownBlock=some W) (hG : ∀ g,v.ownBlock=some g→g<bx∨N≤g) (hW:N≤W) : ∀ g,v'.ownBlock=some g→g<bx∨N≤g:=by
 intro g hg;rcases h with e | e
 · exact hG g (e ▸ hg)
 · rw [e] at hg
   cases hg
   exact .inr hW
def lenVA:Value→Nat
 | .slice _ n _=>n
 | _=>0
theorem info_idA:(Tryz.prog.info? 24).map (fun i=>(i.zero,i.size,i.bytes))=some (some (.agg #[.string ⟨#[]⟩,.string ⟨#[]⟩]),2,32):=by kernel_rfl
theorem info_gavA:(Tryz.prog.info? 26).map (fun i=>(i.zero,i.size,i.bytes))=some (some (.agg #[.string ⟨#[]⟩,.string ⟨#[]⟩,.string ⟨#[]⟩]),3,48):=by kernel_rfl
theorem idC_onesA (l:List Id) : ∀ y ∈ l,∀ u ∈ jj y,u.oneCell'=true:=fun y _=>yG y
theorem idA_ne {p q:Id} (h:iZ p q=0):p=q:=by
 unfold iZ mQ at h;split at h
 · rename_i h1; exact absurd h h1
 · rename_i h1
   have h2:=iI.1 (Decidable.not_not.1 h1);have h3:=iI.1 h;obtain ⟨pg,pa⟩:=p;obtain ⟨qg_,qa⟩:=q;simp only at h2 h3;rw [h2,h3]
theorem aU.keyed {F:Nat→Prop} {w:World} {b me mv:Nat} {L:List (aF bp)} {cl:Nat} {V:List (aF Id)} {cv:Nat} {es:List (bF × Nat)} {r a:Int} (h:aU F w b me mv L cl V cv es r a) : ∀ g ∈ di es,bh g ∈ V.map (·.key):=fun g hg=>by
 rcases h.row (bh g) with ⟨-,h2⟩ | ⟨v,h1,-⟩
 · have h3:g.version ∈ bT es (bh g):=by
    unfold bT;exact List.mem_map.2 ⟨g,List.mem_filter.2 ⟨hg,decide_eq_true rfl⟩,rfl⟩
   rw [h2] at h3;cases h3
 · unfold eQ at h1
   rw [Option.map_eq_some_iff] at h1;obtain ⟨e,he,-⟩:=h1;have h2:=List.find?_some he;exact List.mem_map.2 ⟨e,List.mem_of_find?_eq_some he,(of_decide_eq_true h2).symm⟩
theorem all_plain {gs:List bp} {K s:List Id} (hp:s.Perm K) (hK:K.Nodup) (hs:s.Pairwise fun x y=>iZ x y≤0) (hin : ∀ g ∈ gs,bh g ∈ K):jo s (fun x=>cV (mj gs) x)=mj gs:=by
 have hn:s.Nodup:=hp.nodup_iff.2 hK;refine BG ?_ (fun g hg=>hp.mem_iff.2 (hin g hg)) fun x _=>⟨verOf_srtA (mi gs).1 x,verOf_sameA (mi gs).2 x⟩
 refine (hs.and hn).imp fun {x y} h=>?_
 have h1:iZ x y≠0:=fun e=>h.2 (idA_ne e);have:=h.1
 omega
theorem rowsG_take {s:List Id} {M:Id→List S} {k:Nat} (h:k<s.length):jo (s.take (k+1)) M=jo (s.take k) M ++ (M s[k]).map (iX s[k]):=by
 unfold jo;rw [List.take_succ_eq_append_getElem h,List.flatMap_append];simp
set_option maxRecDepth 100000 in
set_option maxHeartbeats 8000000 in
theorem all_of (w:World) {F:Nat→Prop} {b:Nat} {es:List (bF × Nat)} {r a:Int} (h:bR F w b es r a) (hl:es.length≤1000) (hs : ∀ x,ci (bT es x)) :
    Calls Tryz.prog 7 #[jr b] w (Cj (mj (di es)) w):=by
 have HST:=zH h
 have HVS:Hid (∀ x W,Below w.heap.size w W→Calls Tryz.prog 11 #[jr b,.agg #[.string x.group,.string x.artifact]] W fun e w'=>∃ v',e = .returned v'∧aj W.heap.size 9 1 gq w' v' (cV (mj (di es)) x)∧Below W.heap.size W w'):=fun x W hb=>by
  refine (zV x W (h.below hb) ?_ (hs x)).mono fun e w' hp=>?_
  · unfold bT
    rw [List.length_map];refine Nat.le_trans (List.length_filter_le _ _) ?_
    rw [List.length_map];omega
  · obtain ⟨v',M,h1,h2,h3,h4,h5⟩:=hp
    rw [← versions_sameA (l:=di es) (x:=x) h3 h4] at h2;exact ⟨v',h1,h2,h5⟩
 have HGL:Hid (∀ x,(cV (mj (di es)) x).length≤1000):=fun x=>by
  unfold cV;rw [List.length_map];refine Nat.le_trans (List.length_filter_le _ _) ?_
  rw [zt,di,List.length_map];exact hl
 have HAL:Hid ((mj (di es)).length≤1000):=by show _≤_; rw [zt,di,List.length_map]; exact hl
 obtain ⟨me,mv,L,cl,V,cv,h⟩:=h;have HBV:=zH h.born.2.1;have HVL:Hid (V.length≤1000):=Nat.le_trans h.born.2.2 hl;have HIN:=zH h.keyed;have HMV:=zH h.vers;have HBX:=zH h.box;clear h hl hs;have b1:=HBX.out.cell 1 _ rfl;have bl:=HBX.out.lt;unfold jr at *;go_enter Tryz.func7,Tryz.ntmps7
 go_wp2_with (at_range; refine zI _ rfl _ 69 rfl Tryz.underlying69 rfl HMV.out ?_; intro w1 hw1 hit)
 go_frame
 have hb1:Below w.heap.size w w1:=by rw [hw1]; exact (Below.refl _ w).alloc (Nat.le_refl _) _
 have HB1:=zH hb1;have HIT:=zH hit;have HMR:Hid (mv≠w.heap.size):=by have:=HMV.out.lt; show _≠_; omega
 have HR1:Hid (w.heap.size<w1.heap.size):=hit.lt;clear hw1 hb1 hit b1 bl HR1;go_loopw [3] (fun v wr=>∃ (S:List (aF Id)) (n:Nat) (ao:Option Addr) (c:Nat),v = .slice ao n c∧Hid (n=S.length)∧Hid (iQ oP wr mv w.heap.size V cv S)∧Hid (aj (w.heap.size+1) 24 2 jj wr (.slice ao n c) (S.map (·.key)))∧Hid (Below w.heap.size w wr)) (fun v _=>V.length - lenVA v)
 case atStart=>exact ⟨[],0,none,0,rfl,rfl,HIT.out,aj.nil,HB1.out⟩
 case round =>
  clear HIT HB1;obtain ⟨S,n,ao,c,rfl,HN,HI,HO,HB⟩:=hrel;go_wp2_with (at_next; refine zR _ rfl _ rfl HBV.out rfl HMR.out HI.out ?_ ?_)
  · intro hperm
    have HKS:=zH (A0 (S.map (·.key)) (.slice ao n c) wr (w.heap.size+1) HO.out (by rw [List.length_map,← HN.out]; have h1:=hperm.length_eq; have h2:=HVL.out; have h3:=HN.out; omega));have HPK:Hid ((S.map (·.key)).Perm (V.map (·.key))):=hperm.map _;have HBO:Hid (∀ W,wr.grownBy W (Value.slice ao n c).ownBlock→Below w.heap.size w W):=fun W hg=>HB.out.grown hg HB.out.size fun j hj=>by have:=(HO.out.lt j hj).1; omega
    clear hperm HI HO HB HN HMR;go_wp2_with fail
    refine HKS.out.mono ?_
    rintro e ws ⟨rfl,s,hp,hsrt,hsl,hg⟩;have HBS:=zH (HBO.out ws hg);have HPL:Hid (jo s (fun x=>cV (mj (di es)) x)=mj (di es)):=all_plain (hp.trans HPK.out) HBV.out.keys hsrt HIN.out;obtain rfl:n=s.length:=by obtain ⟨_,_,h1,-⟩:=hsl; cases h1; rfl
    have HSL:=zH hsl
    have HSN:Hid (s.length≤1000):=by
     have h1:=(hp.trans HPK.out).length_eq;rw [List.length_map] at h1;have h2:=HVL.out;show _≤_
     omega
    have HW0:Hid (w.heap.size≤ws.heap.size):=HBS.out.size;clear hp hsrt hsl hg HKS HPK HBO HIN HMV HBX HBV HVL;have HVM:Hid (∀ x W,Below w.heap.size w W→Calls Tryz.prog 11 #[.pointer (some ⟨b,0,none⟩),.agg #[.string x.group,.string x.artifact]] W fun e w'=>∃ v',e = .returned v'∧aj W.heap.size 9 1 gq w' v' (cV (mj (di es)) x)∧Below W.heap.size W w'):=HVS.out;clear HVS HST;obtain ⟨M,hM⟩ : ∃ M,M=fun x=>cV (mj (di es)) x:=⟨_,rfl⟩;have HMM:Hid (∀ x,cV (mj (di es)) x=M x):=fun x=>by rw [hM]
    rw [← hM] at HPL;have HML:Hid (∀ x,(M x).length≤1000):=fun x=>by rw [hM]; exact HGL.out x
    clear hM HGL;go_wp2
    go_loopw [2,28] (fun v i wr=>∃ (k n2:Nat) (a2:Option Addr) (c2:Nat),v = .slice a2 n2 c2∧i = .int .i64 k∧k≤s.length∧Hid (Below ws.heap.size ws wr)∧Hid (aj ws.heap.size 26 3 gu wr (.slice a2 n2 c2) (jo (s.take k) M))) (fun _ i _=>s.length - (intOf i).toNat)
    case atStart=>exact ⟨0,0,none,0,rfl,rfl,Nat.zero_le _,Below.refl _ _,aj.nil⟩
    case round =>
     obtain ⟨k,n2,a2,c2,rfl,rfl,hk,HW,HO⟩:=hrel;by_cases hlt:k<s.length
     · obtain ⟨b1,o1,hao,hbl,c0,c1⟩:=(HSL.out.below HW.out).atIdA hlt
       cases hao
       have d1:(k:Int)<(s.length:Int):=by omega
       have wk:IntKind.i64.wrap ((k:Int)+1)=(k:Int)+1:=IntWalk.i64_in _ (by have:=HSN.out; omega);have HRT:=zH (rowsG_take (M:=M) hlt);have HKL:Hid (k+1≤s.length):=hlt;generalize s[k]=y at *;clear hlt;go_upto_region 12 with fail
       refine ai fun W1 hW=>?_
       have z1:ak W1 wr.heap.size [.string y.group,.string y.artifact]:=by rw [hW]; exact ak.new wr [.string y.group,.string y.artifact] _ _ rfl
       have hb1:Below wr.heap.size wr W1:=by rw [hW]; exact (Below.refl _ wr).alloc (Nat.le_refl _) _
       clear hW c0 c1 hbl d1;have HZ1:=zH z1;have HW1:=zH (HW.out.trans (hb1.mono HW.out.size));have HO1:=zH (HO.out.below hb1);have HOL:Hid (∀ g,(Value.slice a2 n2 c2).ownBlock=some g→g<wr.heap.size):=fun g hg=>(HO.out.lt g hg).2;have HWT:Hid (ws.heap.size≤wr.heap.size):=HW.out.size;have z0:=z1.cell 0 _ rfl;have z2:=z1.cell 1 _ rfl;have zl:=z1.lt;clear z1 hb1 HW HO;generalize wr.heap.size=bx at *;go_wp2_with fail
       refine (HVM.out y W1 (HBS.out.trans (HW1.out.mono HW0.out))).mono ?_
       rintro e w5 ⟨v5,rfl,ho,hb⟩;rw [HMM.out] at ho;obtain ⟨vo_,vc_,rfl⟩:=ho.shape;have HV5:=zH ho;have HZ5:=zH (HZ1.out.below hb HZ1.out.lt);have HW5:=zH (HW1.out.trans (hb.mono HW1.out.size));have HO5:=zH (HO1.out.below hb);have HBX5:Hid (bx<W1.heap.size∧W1.heap.size≤w5.heap.size):=⟨HZ1.out.lt,hb.size⟩;have HMY:=zH (HML.out y);clear ho hb z0 z2 zl HZ1 HW1 HO1;obtain ⟨R0,hR0⟩ : ∃ R,R=jo (s.take k) M:=⟨_,rfl⟩;have HR0:=zH hR0
       have HR0L:Hid (R0.length≤1000):=by
        have h1:=HAL.out;rw [← HPL.out] at h1
        have h2:(jo s M).length=(jo (s.take k) M).length+(jo (s.drop k) M).length:=by
         unfold jo;rw [← List.length_append,← List.flatMap_append,List.take_append_drop]
        show _≤_
        rw [hR0];omega
       rw [← hR0] at HO5 HRT;clear hR0;generalize M y=my at *;go_wp2
       go_loopw [2,36] (fun v i wr=>∃ (j n3:Nat) (a3:Option Addr) (c3:Nat),v = .slice a3 n3 c3∧i = .int .i64 j∧j≤my.length∧Hid (Below ws.heap.size ws wr)∧Hid (aV (fun q=>q<bx) w5 wr)∧Hid (aj ws.heap.size 26 3 gu wr (.slice a3 n3 c3) (R0 ++ (my.take j).map (iX y)))∧Hid (∀ g,(Value.slice a3 n3 c3).ownBlock=some g→g<bx∨w5.heap.size≤g)) (fun _ i _=>my.length - (intOf i).toNat)
       case atStart=>exact ⟨0,n2,a2,c2,rfl,rfl,Nat.zero_le _,HW5.out,aV.refl _ _,by show aj _ _ _ _ _ _ _; simpa using HO5.out,fun g hg=>.inl (HOL.out g hg)⟩
       case round =>
        obtain ⟨j,n3,a3,c3,rfl,rfl,hj,HQ,HK,HP,HG⟩:=hrel;by_cases hlt:j<my.length
        · have hv:=(HV5.out.only HK.out fun q hq hf=>by have h1:=(HV5.out.lt q hq).1; have h2:=HBX5.out.1; omega).slice kU
          obtain ⟨b2,o2,hao,hbl,c0⟩:=hv.at1A hlt;cases hao
          have d1:(j:Int)<(my.length:Int):=by omega
          have wk2:IntKind.i64.wrap ((j:Int)+1)=(j:Int)+1:=IntWalk.i64_in _ (by have:=HMY.out; omega);have HTK:Hid (my.take (j+1)=my.take j ++ [my[j]]):=List.take_succ_eq_append_getElem hlt;have HJL:Hid (j+1≤my.length):=hlt;generalize my[j]=u at *;clear hlt hv;have hz:=HZ5.out.only HK.out (by show ¬ bx<bx; omega);have z0:=hz.cell 0 _ rfl;have z2:=hz.cell 1 _ rfl;have zl:=hz.lt;clear hz;have HS1:Hid (w5.heap.size≤wr.heap.size):=HK.out.size;have HQS:Hid (ws.heap.size≤wr.heap.size):=HQ.out.size;have HLT:=zH (aj.litA (base:=ws.heap.size) (w:=wr) (iX y u) rfl HQ.out.size);have HBA:Hid (Below wr.heap.size wr (wr.alloc (.cells #[.string y.group,.string y.artifact,.string u] 26))):=(Below.refl _ wr).alloc (Nat.le_refl _) _;have HPA:=zH (HP.out.below HBA.out)
          have hnl:n3=R0.length+j:=by
           obtain ⟨_,_,e⟩:=HP.out.shape;cases e
           rw [List.length_append,List.length_map,List.length_take,Nat.min_eq_left hj]
          have HNL:=zH hnl;have HTL:Hid ((R0 ++ (my.take j).map (iX y)).length=R0.length+j):=by show _=_; rw [List.length_append,List.length_map,List.length_take,Nat.min_eq_left hj]
          clear hnl;obtain ⟨RL,hRL⟩ : ∃ R,R=R0 ++ (my.take j).map (iX y):=⟨_,rfl⟩;have HRL:=zH hRL;rw [← hRL] at HPA HTL;clear hRL HP;unfold iX at HLT;go_upto_region 16 with (at_builtin; go_loud (refine ay _ rfl _ _ 32 rfl ws.heap.size 26 Tryz.underlying32 info_gavA rfl (by decide) (fun _=>rfl) (.slice a3 n3 c3) RL rfl HPA.out _ [⟨y.group,y.artifact,u⟩] rfl (HLT.out.slice fun _=>rfl) (om _) (by have h1:=HTL.out; have h2:=HR0L.out; have h3:=HMY.out; have h4:=HJL.out; simp only [List.length_singleton]; omega) (by decide) (by have h1:=HBA.out.size; have h2:=HQS.out; omega) ?_; intro v8 w8 ho8 hg8 hl8; obtain ⟨a8,c8,hv8⟩:=ho8.shape; subst hv8; rw [List.length_append,List.length_singleton] at ho8 hl8; have HO8:=zH ho8; have HG8:=zH (nM (HQ.out.trans (HBA.out.mono HQ.out.size)) HPA.out hg8 (by have h1:=HBA.out.size; have h2:=HQS.out; omega)); have HK8:Hid (aV (fun q=>q<bx) w5 w8):=(HK.out.trans (aV.of (F:=fun q=>q<bx) HBA.out) fun _ _=>id).trans (aV.grown (F:=fun q=>(Value.slice a3 n3 c3).ownBlock=some q) hg8 fun _ hk=>hk) fun q hq e=>(HG.out q e).resolve_right (by omega); have HG9:Hid (∀ g,(Value.slice a8 (RL.length+1) c8).ownBlock=some g→g<bx∨w5.heap.size≤g):=own_after hl8 HG.out (by have h1:=HBA.out.size; have h2:=HS1.out; omega); clear ho8 hg8 hl8))
          have HNR:Hid (RL.length=n3):=by show _=_; rw [HTL.out,HNL.out]
          clear HLT HBA HPA HQ HK HG;go_wp2
          go_roundw
          case rel=>exact ⟨j+1,RL.length+1,a8,c8,rfl,by first | rfl | go_num,HJL.out,HG8,HK8,by show aj _ _ _ _ _ _ _; rw [HTK.out,List.map_append,← List.append_assoc,← HRL.out]; exact HO8.out,HG9⟩
          case measure=>simp [intOf]; have:=HJL.out; omega
        · obtain rfl:j=my.length:=by omega
          have d1 : ¬ (my.length:Int)<(my.length:Int):=by omega
          have HPF:=zH HP.out;rw [List.take_length,← HRT.out] at HPF;clear HP HG HK;go_wp2
          go_roundw
          case rel=>exact ⟨k+1,n3,a3,c3,rfl,by first | rfl | go_num,HKL.out,HQ,HPF⟩
          case measure=>simp [intOf]; have:=HKL.out; omega
     · obtain rfl:k=s.length:=by omega
       have d1 : ¬ (s.length:Int)<(s.length:Int):=by omega
       have HPF:=zH HO.out;rw [List.take_length,HPL.out] at HPF;clear HO;go_wp2
       go_ret
       exact ⟨_,rfl,HPF.out.base_mono HW0.out,HBS.out.trans (HW.out.mono HW0.out)⟩
  · intro e w2 he hit2 hg2 hs2 hen
    clear hs2;obtain ⟨⟨xg,xa⟩,ev_,eb⟩:=e;have hkk:oP ⟨xg,xa⟩ = .agg #[.string xg,.string xa]:=rfl;simp only [hkk] at hen ⊢;have HB2:Hid (Below w.heap.size w w2):=HB.out.grown hg2 HB.out.size fun q hq=>by cases hq; exact Nat.le_refl _
    have HO2:Hid (aj (w.heap.size+1) 24 2 jj w2 (.slice ao n c) (S.map (·.key))):=HO.out.keptR hg2 (Nat.lt_succ_self _);have HI2:=zH hit2;have HLS:Hid (S.length+1≤V.length):=by have h1:=hit2.len HBV.out; rw [List.length_append] at h1; exact h1
    clear hkk he hit2 hg2 HI HO HB;go_upto_region 7 with fail
    refine ai fun W1 hW=>?_
    have z1:ak W1 w2.heap.size [.string xg,.string xa]:=by rw [hW]; exact ak.new w2 [.string xg,.string xa] _ _ rfl
    have hb1:Below w2.heap.size w2 W1:=by rw [hW]; exact (Below.refl _ w2).alloc (Nat.le_refl _) _
    have HB3:=zH (HB2.out.trans (hb1.mono HB2.out.size));have HO3:=zH (HO2.out.below hb1);have HI3:=zH (HI2.out.below hb1 HI2.out.map.lt HI2.out.lt);have z0:=z1.cell 0 _ rfl;have z2:=z1.cell 1 _ rfl;have zl:=z1.lt;clear hW z1 hb1 hen HB2 HO2 HI2;have HBA:Hid (Below W1.heap.size W1 (W1.alloc (.cells #[.string xg,.string xa] 24))):=(Below.refl _ W1).alloc (Nat.le_refl _) _
    have HLT:Hid (af 2 jj (W1.alloc (.cells #[.string xg,.string xa] 24)) (.slice (some ⟨W1.heap.size,0,none⟩) 1 1) [(⟨xg,xa⟩:Id)]):=by
     show af _ _ _ _ _
     simpa [jj] using cd jA W1 [(⟨xg,xa⟩:Id)] 24 W1.heap.size 1 rfl rfl (by simp [maxLen])
    have HOA:=zH (HO3.out.below HBA.out);have HIA:=zH (HI3.out.below HBA.out HI3.out.map.lt HI3.out.lt);have HKL:Hid ((S.map (·.key)).length=S.length):=List.length_map ..;have HWS:Hid (w.heap.size+1≤W1.heap.size):=HI3.out.lt;go_wp2_with (at_builtin; go_loud (refine ay _ rfl _ _ 67 rfl (w.heap.size+1) 24 Tryz.underlying67 info_idA rfl (by decide) jA (.slice ao n c) (S.map (·.key)) rfl HOA.out _ [⟨xg,xa⟩] rfl HLT.out (idC_onesA _) (by have h1:=HKL.out; have h2:=HLS.out; have h3:=HVL.out; simp only [List.length_singleton]; omega) (by decide) (by have h1:=HBA.out.size; have h2:=HWS.out; omega) ?_; intro v8 w8 ho8 hg8 hl8; obtain ⟨a8,c8,hv8⟩:=ho8.shape; subst hv8; rw [List.length_append,List.length_singleton,HKL.out] at ho8; have HO8:=zH ho8; have HG8:Hid (Below w.heap.size w w8):=(HB3.out.trans (HBA.out.mono HB3.out.size)).grown hg8 (by have h1:=HBA.out.size; have h2:=HWS.out; omega) (fun q hq=>by have:=(HOA.out.lt q hq).1; omega); have HI8:=zH (HIA.out.grown hg8 (fun e=>by have h1:=(HOA.out.lt mv e.symm).1; have h2:=HMV.out.lt; omega) (fun e=>by have h1:=(HOA.out.lt _ e.symm).1; omega)); clear ho8 hg8 hl8))
    have HNN:=zH (congrArg (· + 1) HN.out);clear HBA HLT HOA HIA HB3 HO3 HI3 z0 z2 zl;go_roundw
    case rel=>exact ⟨S ++ [⟨⟨xg,xa⟩,ev_,eb⟩],S.length+1,a8,c8,rfl,by show _=_; rw [List.length_append]; rfl,HI8,by show aj _ _ _ _ _ _ _; rw [List.map_append]; exact HO8.out,HG8⟩
    case measure=>simp [lenVA]; have h1:=HLS.out; have h2:=HN.out; omega
end Go.Proofs.YtominiaohfjobaaGreatDoor
