/- The walks of Text and sameGavs; the conditions stand in the theorems. -/
import Derived.Test.YtominiaohfjobaaGreatDoorPK14
import Derived.Test.YtominiaohfjobaaGreatDoorPK13
import Derived.IntWalk
namespace Go.Proofs.YtominiaohfjobaaGreatDoor
open Go Go.RowKit
theorem neq_gavV (x:bp) (w:World):(binOp .neq 26 (.agg #[.string x.group,.string x.artifact,.string x.version]) (.agg #[.string x.group,.string x.artifact,.string x.version])).run Tryz.prog w = .ok (.bool false) w:=by
 have h:=yO;simp [go_sem,h]
set_option maxRecDepth 100000 in
set_option maxHeartbeats 4000000 in
theorem sameGavs_any (l:List bp) (v u:Value) (w:World) (hv:af 3 gu w v l) (hu:af 3 gu w u l) (hl:l.length≤1000000) :
    Calls Tryz.prog 6 #[v,u] w fun e w'=>e = .returned (.bool true)∧Below w.heap.size w w':=by
 obtain ⟨ao,ac,rfl⟩:=hv.shape;obtain ⟨bo,bc,rfl⟩:=hu.shape;have HV:=zH hv;have HU:=zH hu;have HL:=zH hl;have HNE:=zH neq_gavV;clear hv hu hl;go_enter Tryz.func6,Tryz.ntmps6
 go_wp2
 go_loopw [13] (fun i wr=>∃ k:Nat,i = .int .i64 k∧k≤l.length∧Hid (Below w.heap.size w wr)) (fun i _=>l.length - (intOf i).toNat)
 case atStart=>exact ⟨0,rfl,Nat.zero_le _,Below.refl _ _⟩
 case round =>
  obtain ⟨k,rfl,hk,HB⟩:=hrel;by_cases hlt:k<l.length
  · obtain ⟨b1,o1,hao,hbl,c0,c1,c2⟩:=(HV.out.below HB.out).atG hlt
    obtain ⟨b2,o2,hbo,hbl2,y0,y1,y2⟩:=(HU.out.below HB.out).atG hlt;cases hao
    cases hbo
    have d1:(k:Int)<(l.length:Int):=by omega
    have wk:IntKind.i64.wrap ((k:Int)+1)=(k:Int)+1:=IntWalk.i64_in _ (by have:=HL.out; omega);have HKL:Hid (k+1≤l.length):=hlt;have hne:=HNE.out l[k];generalize l[k]=x at *;clear hlt;go_upto_region 6 with fail
    have hLL:=@aJ.cells wr;refine cG (by kernel_rfl) (by kernel_rfl) ?_
    repeat (go_big_quiet_step (fail))
    refine wpQuiet_nil ?_
    rintro _ ⟨nx,rfl⟩;have HBn:=zH (HB.out.trans (nx.below.mono HB.out.size));clear hLL hne c0 c1 c2 y0 y1 y2 hbl hbl2 d1;generalize nx.at_=wn at *;go_wp2
    go_roundw
    case rel=>exact ⟨k+1,by first | rfl | go_num,HKL.out,HBn⟩
    case measure=>simp [intOf]; have:=HKL.out; omega
  · obtain rfl:k=l.length:=by omega
    have d1 : ¬ (l.length:Int)<(l.length:Int):=by omega
    go_wp2
    go_ret
    exact ⟨rfl,HB.out⟩
theorem find_once {es:List (bF × Nat)} (hn:(es.map fun e=>e.1.gav).Nodup) {k:Nat} (hk:k<es.length):es.find? (fun e=>decide (es[k].1.gav=e.1.gav))=some es[k]:=by
 rw [List.find?_eq_some_iff_getElem];refine ⟨decide_eq_true rfl,k,hk,rfl,fun j hj=>?_⟩
 have h1:=List.pairwise_iff_getElem.1 hn j k (by simpa using (by omega:j<es.length)) (by simpa using hk) hj;simp only [List.getElem_map] at h1;simpa using fun e=>h1 e.symm
set_option maxRecDepth 100000 in
set_option maxHeartbeats 4000000 in
theorem textS_any (g:bp) (w:World) {F:Nat→Prop} {b:Nat} {es:List (bF × Nat)} {r a:Int} (h:bR F w b es r a) {e:bF × Nat} (hf:es.find? (fun e=>decide (g=e.1.gav))=some e) :
    Calls Tryz.prog 13 #[jr b,.agg #[.string g.group,.string g.artifact,.string g.version]] w fun en w'=>en = .returned (.tuple #[.string e.1.text,.bool true])∧Below w.heap.size w w':=by
 have HHS:Hid (∀ W,Below w.heap.size w W→Calls Tryz.prog 9 #[jr b,.agg #[.string g.group,.string g.artifact,.string g.version]] W (zD true W)):=fun W hb=>by
  have h1:=qW g W (h.below hb);rw [show je es g=true by unfold je; rw [hf]; rfl] at h1;exact h1
 obtain ⟨me,mv,L,cl,V,cv,h⟩:=h;have hgt:=h.get g;rw [hf] at hgt;obtain ⟨pv,mv2,dv,hbx,-⟩:=h.ent e (List.mem_of_find?_eq_some hf);have HBE:Hid (w.cell? ⟨e.2,0,none⟩=some (.string e.1.text)∧e.2<w.heap.size):=⟨hbx.cell 0 _ rfl,hbx.lt⟩;have HGT:Hid (eQ L g=some (.pointer (some ⟨e.2,0,none⟩))):=hgt;have HM:=zH h.ents;have HX:=zH h.box;clear h hf hgt hbx;obtain ⟨⟨eg,et_,ed,ep_,eq⟩,eb⟩:=e;simp only at HBE HGT ⊢;unfold jr at *;go_enter Tryz.func13,Tryz.ntmps13
 go_upto_region 1 with fail
 refine ai fun W hW=>?_
 have x1:ak W w.heap.size [.string g.group,.string g.artifact,.string g.version]:=by rw [hW]; exact ak.new w [.string g.group,.string g.artifact,.string g.version] _ _ rfl
 have hb:Below w.heap.size w W:=by rw [hW]; exact (Below.refl _ w).alloc (Nat.le_refl _) _
 clear hW;have HG:=zH x1;have HB:=zH hb;obtain ⟨x0,x2,x3⟩:=ej x1;have xl:=x1.lt;clear x1 hb;go_wp2_with fail
 refine (HHS.out W HB.out).mono ?_
 rintro en w1 ⟨rfl,hb1⟩;have HB1:=zH (HB.out.trans (hb1.mono HB.out.size));have HG1:=zH (HG.out.below hb1 HG.out.lt);clear hb1 HB HG x0 x2 x3 xl HHS;obtain ⟨x0,x2,x3⟩:=ej HG1.out;have xl:=HG1.out.lt;have b0:=(HX.out.below HB1.out HX.out.lt).cell 0 _ rfl;have bl:=(HX.out.below HB1.out HX.out.lt).lt;have t0:=(HB1.out.cell (p:=⟨eb,0,none⟩) HBE.out.2).trans HBE.out.1;have tl:=Nat.lt_of_lt_of_le HBE.out.2 HB1.out.size;have hm:=HM.out.below HB1.out HM.out.lt
 have hl : ∀ z:aJ w1,(Instr.lookup 68 (.map (some me)) (.agg #[.string g.group,.string g.artifact,.string g.version]) false).run Tryz.prog z.at_ = .ok (.pointer (some ⟨eb,0,none⟩)) z.at_:=fun z=>by
  have h1:=sA g (hm.below z.below hm.lt);rw [HGT.out] at h1;exact h1
 clear hm HGT;have hLC:=@aJ.cellsS w1;go_upto_region 3 with fail
 refine bK (by kernel_rfl) (by kernel_rfl) ?_
 repeat (go_big_quiet_step (fail))
 refine wpQuiet_nil ?_
 rintro _ ⟨nx,rfl⟩;have HN:=zH nx.below;generalize nx.at_=wn at *;clear hl hLC x0 x2 x3 xl b0 bl t0 tl;go_wp2
 go_ret2
 exact ⟨rfl,HB1.out.trans (HN.out.mono HB1.out.size)⟩
end Go.Proofs.YtominiaohfjobaaGreatDoor
