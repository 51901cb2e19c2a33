/- Which Metas the statements look at; the law MetaMays returns true; the conditions stand in the theorems. -/
import Derived.Test.YtecffghcpknmjaaGreatDoorJK04
import Derived.Test.YtecffghcpknmjaaGreatDoorJK03
import Derived.Test.YtecffghcpknmjaaGreatDoorJK11
import Derived.Test.YtecffghcpknmjaaGreatDoorL11
import Derived.BigRegion
import Derived.Test.YtecffghcpknmjaaGreatDoorJK05
import Derived.Test.YtecffghcpknmjaaGreatDoorJK06
import Derived.Test.YtecffghcpknmjaaGreatDoorJK07
import Derived.Test.YtecffghcpknmjaaGreatDoorJK08
import Derived.Test.YtecffghcpknmjaaGreatDoorJK09
import Derived.Test.YtecffghcpknmjaaGreatDoorJK10
import Derived.Test.YtecffghcpknmjaaGreatDoorOwn2
import Derived.Test.YtecffghcpknmjaaGreatDoorQB
import Derived.Test.YtecffghcpknmjaaGreatDoorG2
import Derived.Test.YtecffghcpknmjaaGreatDoorK19
import Derived.Test.YtecffghcpknmjaaGreatDoorK4
import Derived.Test.YtecffghcpknmjaaGreatDoorR0
import Derived.Test.YtecffghcpknmjaaGreatDoorL0
import Derived.Test.YtecffghcpknmjaaGreatDoorSB
import Derived.Laws.EntriesVeiled
import Derived.WalkSpells
namespace Go.Proofs.YtecffghcpknmjaaGreatDoor
open Go Go.RowKit
def lightM (m:MetaD):Bool:=decide (m.vers.length≤40) && decide (m.latest.size≤200) && decide (m.rel.size≤200) && decide (m.id.group.size≤200) && decide (m.id.artifact.size≤200) && m.vers.all fun s=>decide (s.size≤200)
theorem lightM_sm {m:MetaD} (h:lightM m=true):MetaSm m∧m.latest.size≤200∧m.vers.length≤40∧(∀ x ∈ m.vers,x.size≤200):=by
 unfold lightM at h;simp only [Bool.and_eq_true,decide_eq_true_eq,List.all_eq_true] at h;obtain ⟨⟨⟨⟨⟨h1,h2⟩,h3⟩,h4⟩,h5⟩,h6⟩:=h;exact ⟨⟨by omega,by omega,by omega,fun x hx=>by have:=h6 x hx; omega⟩,h2,h1,h6⟩
theorem all_drop {l:List S} {k:Nat} (h:k<l.length) (p:S→Bool):(l.drop k).all p=(p l[k] && (l.drop (k+1)).all p):=by rw [drop_cons' h,List.all_cons]
set_option maxRecDepth 100000 in
set_option maxHeartbeats 8000000 in
theorem lightM_any (m:MetaD) (v:Value) (w:World) (h:SliceOf 1 strC w v m.vers) :
    Calls Tryz.prog 4 #[metaAg m v] w fun e w'=>e = .returned (.bool (lightM m))∧Below w.heap.size w w':=by
 have HS:=Lib.hid h;obtain ⟨ao,c,rfl⟩:=h.shape;have HM:Hid (lightM m=(decide (m.vers.length≤40) && decide (m.latest.size≤200) && decide (m.rel.size≤200) && decide (m.id.group.size≤200) && decide (m.id.artifact.size≤200) && m.vers.all fun s=>decide (s.size≤200))):=rfl;clear h;obtain ⟨⟨mg,ma⟩,l,la,re⟩:=m;simp only at HS HM;obtain ⟨MM,hMM⟩ : ∃ x,lightM ⟨⟨mg,ma⟩,l,la,re⟩=x:=⟨_,rfl⟩;rw [hMM] at HM ⊢;clear hMM;unfold metaAg metaC;go_enter Tryz.func4,Tryz.ntmps4
 go_upto_region 1 with fail
 refine wp_world ?_
 intro W hW;have x1:Box W w.heap.size [.string mg,.string ma,.slice ao l.length c,.string la,.string re]:=by rw [hW]; exact Box.new w [.string mg,.string ma,.slice ao l.length c,.string la,.string re] _ _ rfl
 have hb:Below w.heap.size w W:=by rw [hW]; exact (Below.refl _ w).alloc (Nat.le_refl _) _
 clear hW;have HX:=Lib.hid x1;have HB:=Lib.hid hb;clear x1 hb;have HSW:=Lib.hid (HS.out.below HB.out);have x0:=HX.out.cell 0 _ rfl;have x1:=HX.out.cell 1 _ rfl;have x2:=HX.out.cell 2 _ rfl;have x3:=HX.out.cell 3 _ rfl;have x4:=HX.out.cell 4 _ rfl;have xl:=HX.out.lt;by_cases h1:l.length≤40
 · have dh1:decide ((40:Int)<(l.length:Int))=false:=decide_eq_false (by omega)
   have dh1n:decide (40<l.length)=false:=decide_eq_false (by omega);have dh1p : ¬ (40:Int)<(l.length:Int):=by omega
   rw [decide_eq_true h1] at HM;by_cases h2:la.size≤200
   · have dh2:decide ((200:Int)<(la.size:Int))=false:=decide_eq_false (by omega)
     have dh2n:decide (200<la.size)=false:=decide_eq_false (by omega);have dh2p : ¬ (200:Int)<(la.size:Int):=by omega
     rw [decide_eq_true h2] at HM;by_cases h3:re.size≤200
     · have dh3:decide ((200:Int)<(re.size:Int))=false:=decide_eq_false (by omega)
       have dh3n:decide (200<re.size)=false:=decide_eq_false (by omega);have dh3p : ¬ (200:Int)<(re.size:Int):=by omega
       rw [decide_eq_true h3] at HM;by_cases h4:mg.size≤200
       · have dh4:decide ((200:Int)<(mg.size:Int))=false:=decide_eq_false (by omega)
         have dh4n:decide (200<mg.size)=false:=decide_eq_false (by omega);have dh4p : ¬ (200:Int)<(mg.size:Int):=by omega
         rw [decide_eq_true h4] at HM;by_cases h5:ma.size≤200
         · have dh5:decide ((200:Int)<(ma.size:Int))=false:=decide_eq_false (by omega)
           have dh5n:decide (200<ma.size)=false:=decide_eq_false (by omega);have dh5p : ¬ (200:Int)<(ma.size:Int):=by omega
           rw [decide_eq_true h5] at HM;have HM2:Hid (MM=(l.drop 0).all fun s=>decide (s.size≤200)):=by show _=_; rw [HM.out]; simp
           clear HM h2 h3 h4 h5;have HL40:=Lib.hid h1;go_wp2
           clear dh1 dh1n dh1p dh2 dh2n dh2p dh3 dh3n dh3p dh4 dh4n dh4p dh5 dh5n dh5p h1;go_loopw [38] (fun i wr=>∃ k:Nat,i = .int .i64 k∧k≤l.length∧W=wr∧Hid (MM=(l.drop k).all fun s=>decide (s.size≤200))) (fun i _=>l.length - (intOf i).toNat)
           case atStart=>exact ⟨0,rfl,Nat.zero_le _,rfl,HM2⟩
           case round =>
            clear HM2;obtain ⟨k,rfl,hk,rfl,HM⟩:=hrel;by_cases hlt:k<l.length
            · obtain ⟨b,o,hao,hbl,hc⟩:=HSW.out.at1 hlt
              cases hao
              have d1:(k:Int)<(l.length:Int):=by omega
              have wk:IntKind.i64.wrap ((k:Int)+1)=(k:Int)+1:=IntWalk.i64_in _ (by have:=HL40.out; omega);have HD:Hid (MM=(decide (l[k].size≤200) && (l.drop (k+1)).all fun s=>decide (s.size≤200))):=by show _=_; rw [HM.out,all_drop hlt]
              generalize l[k]=x at *;clear HM;by_cases hx:x.size≤200
              · have e1 : ¬ (200:Int)<(x.size:Int):=by omega
                rw [decide_eq_true hx,Bool.true_and] at HD;clear hx;go_wp2
                go_roundw
                case rel=>exact ⟨k+1,by first | rfl | go_num,hlt,(by trivial),HD⟩
                case measure=>simp [intOf]; omega
              · have e1:(200:Int)<(x.size:Int):=by omega
                rw [decide_eq_false hx,Bool.false_and] at HD;clear hx;go_wp2
                go_ret
                exact ⟨by rw [HD.out]; rfl,HB.out⟩
            · obtain rfl:k=l.length:=by omega
              have d1 : ¬ (l.length:Int)<(l.length:Int):=by omega
              have HD:Hid (MM=true):=by show _=_; rw [HM.out,List.drop_length]; rfl
              clear HM;go_wp2
              go_ret
              exact ⟨by rw [HD.out]; rfl,HB.out⟩
         · have dh5:decide ((200:Int)<(ma.size:Int))=true:=decide_eq_true (by omega)
           have dh5n:decide (200<ma.size)=true:=decide_eq_true (by omega);have dh5p:(200:Int)<(ma.size:Int):=by omega
           rw [decide_eq_false h5] at HM;clear h5;go_wp2
           go_ret
           exact ⟨by rw [HM.out]; simp,HB.out⟩
       · have dh4:decide ((200:Int)<(mg.size:Int))=true:=decide_eq_true (by omega)
         have dh4n:decide (200<mg.size)=true:=decide_eq_true (by omega);have dh4p:(200:Int)<(mg.size:Int):=by omega
         rw [decide_eq_false h4] at HM;clear h4;go_wp2
         go_ret
         exact ⟨by rw [HM.out]; simp,HB.out⟩
     · have dh3:decide ((200:Int)<(re.size:Int))=true:=decide_eq_true (by omega)
       have dh3n:decide (200<re.size)=true:=decide_eq_true (by omega);have dh3p:(200:Int)<(re.size:Int):=by omega
       rw [decide_eq_false h3] at HM;clear h3;go_wp2
       go_ret
       exact ⟨by rw [HM.out]; simp,HB.out⟩
   · have dh2:decide ((200:Int)<(la.size:Int))=true:=decide_eq_true (by omega)
     have dh2n:decide (200<la.size)=true:=decide_eq_true (by omega);have dh2p:(200:Int)<(la.size:Int):=by omega
     rw [decide_eq_false h2] at HM;clear h2;go_wp2
     go_ret
     exact ⟨by rw [HM.out]; simp,HB.out⟩
 · have dh1:decide ((40:Int)<(l.length:Int))=true:=decide_eq_true (by omega)
   have dh1n:decide (40<l.length)=true:=decide_eq_true (by omega);have dh1p:(40:Int)<(l.length:Int):=by omega
   rw [decide_eq_false h1] at HM;clear h1;go_wp2
   go_ret
   exact ⟨by rw [HM.out]; simp,HB.out⟩
theorem idK_sz {m:Bs} {t:Tr} {g:Bs} (h:idK m t=some g):(bs g:S).size≤64:=by
 unfold idK at h;split at h
 · split at h
   · rename_i hh
     cases h
     have h1:=hh.1;unfold isIdB at h1;simp only [Bool.and_eq_true,decide_eq_true_eq] at h1;exact h1.2
   · cases h
 · cases h
theorem box5R {w:World} {b:Nat} {p0 p1 p2 p3 p4 v0 v1 v2 v3 v4:Value} (h:Box w b [p0,p1,p2,p3,p4]):Box (((((w.setCell ⟨b,0,none⟩ v0).setCell ⟨b,1,none⟩ v1).setCell ⟨b,2,none⟩ v2).setCell ⟨b,3,none⟩ v3).setCell ⟨b,4,none⟩ v4) b [v0,v1,v2,v3,v4]∧w.grownBy (((((w.setCell ⟨b,0,none⟩ v0).setCell ⟨b,1,none⟩ v1).setCell ⟨b,2,none⟩ v2).setCell ⟨b,3,none⟩ v3).setCell ⟨b,4,none⟩ v4) (some b) :=
 ⟨((((h.set 0 v0).set 1 v1).set 2 v2).set 3 v3).set 4 v4,((((setCell_grown _ _ _ _).trans (setCell_grown _ _ _ _)).trans (setCell_grown _ _ _ _)).trans (setCell_grown _ _ _ _)).trans (setCell_grown _ _ _ _)⟩
set_option maxRecDepth 100000 in
set_option maxHeartbeats 32000000 in
theorem metaRead_any (t:Tr) (w:World) (av kv:Value) (ht:NodeOf w t av kv) (hl:LightT t):Calls Tryz.prog 8 #[nodeV t av kv] w (ReadP (readM t) w):=by
 have HLT:=Lib.hid hl;have HT0:=Lib.hid ht;obtain ⟨ao,ac,ko,kc,rfl,rfl,-,-⟩:=ht.shape;have HR:Hid (readM t=if t.name=nmMeta then readM1 t else .error t.name):=rfl;generalize readM t=R at *;clear ht hl;unfold nodeV;go_enter Tryz.func8,Tryz.ntmps8
 go_upto_region 1 with fail
 refine wp_world ?_
 intro W hW;have x1:Box W w.heap.size [.string (bs t.name),.slice ao t.attrs.length ac,.slice ko t.kids.length kc,.string (bs t.text)]:=by rw [hW]; exact (Box.new w [.string (bs t.name),.slice ao t.attrs.length ac,.slice ko t.kids.length kc,.string (bs t.text)] _ _ rfl).alloc _
 have y1:Box W (w.heap.size+1) [.string ⟨#[]⟩,.string ⟨#[]⟩,.slice none 0 0,.string ⟨#[]⟩,.string ⟨#[]⟩]:=by rw [hW]; exact Box.new _ [.string ⟨#[]⟩,.string ⟨#[]⟩,.slice none 0 0,.string ⟨#[]⟩,.string ⟨#[]⟩] _ _ (by simp)
 have hb:Below w.heap.size w W:=by rw [hW]; exact ((Below.refl _ w).alloc (Nat.le_refl _) _).alloc (by simp) _
 clear hW;have HT:Hid (NdF w W w.heap.size t (.slice ao t.attrs.length ac) (.slice ko t.kids.length kc)):=⟨x1,nodeXX HT0.out hb⟩;have HM:=Lib.hid y1;have HB:=Lib.hid hb;clear x1 y1 hb HT0;have hnm:=bsLit t.name nmMeta;have x0:=HT.out.box.cell 0 _ rfl;have x1:=HT.out.box.cell 1 _ rfl;have x2:=HT.out.box.cell 2 _ rfl;have x3:=HT.out.box.cell 3 _ rfl;have xl:=HT.out.box.lt;by_cases hn:t.name=nmMeta
 · have HR1:Hid (R=readM1 t):=by show _=_; rw [HR.out,if_pos hn]
   rw [decide_eq_true hn] at hnm;clear HR hn;have HR:=HR1;clear HR1;go_upto_region 3 with fail
   clear hnm x0 x1 x2 x3 xl;have HID:=Lib.hid (idM_any t nmG W _ _ HT.out.node HLT.out);unfold nodeV bs at HID;obtain ⟨o,ho⟩ : ∃ o,idK nmG t=o:=⟨_,rfl⟩;rw [ho] at HID;have HO:=Lib.hid ho;clear ho;have x0:=HT.out.box.cell 0 _ rfl;have x1:=HT.out.box.cell 1 _ rfl;have x2:=HT.out.box.cell 2 _ rfl;have x3:=HT.out.box.cell 3 _ rfl;have xl:=HT.out.box.lt;go_wp2_with fail
   refine HID.out.mono ?_
   rintro e wG ⟨hb1,sg,rfl,hs⟩;have HSg:=Lib.hid hs;replace HT:=Lib.hid (HT.out.below hb1);replace HM:=Lib.hid (HM.out.below hb1 HM.out.lt);replace HB:=Lib.hid (HB.out.trans (hb1.mono HB.out.size));clear hb1 hs HID x0 x1 x2 x3 xl;cases o with
   | none =>
    simp only [Option.isSome_none];have HRE:Hid (R = .error erG):=by show _=_; rw [HR.out]; unfold readM1; rw [HO.out]
    go_wp2_with ((with_reducible show wpList _ _ _ (Oper.mk none (Op.store 26 (.tmp 2) (.tmp 29)) _ _ _ _::_) _ _); refine wpList_store_box rfl 26 (.tmp 2) (.tmp 29) rfl (w.heap.size+1) _ [.string ⟨#[]⟩,.string ⟨#[]⟩,.slice none 0 0,.string ⟨#[]⟩,.string ⟨#[]⟩] rfl rfl HM.out rfl (by kernel_rfl) (by simp [Value.oneCell']) ?_; intro W7 v7 hg7; have HV7:=Lib.hid v7; have HB7:=Lib.hid (grB HB.out hg7 (by omega) (Nat.le_refl _)); clear v7 hg7)
    have z0:=HV7.out.cell 0 _ rfl;have z1:=HV7.out.cell 1 _ rfl;have z2:=HV7.out.cell 2 _ rfl;have z3:=HV7.out.cell 3 _ rfl;have z4:=HV7.out.cell 4 _ rfl;have zl:=HV7.out.lt;clear HM HB;go_wp2
    refine bodyPost_ret (v:=.tuple #[.agg metaZ.toArray,.int .i64 20,.string ⟨#[109,101,116,97,100,97,116,97,47,103,114,111,117,112,73,100]⟩]) (by simp [results,Tryz.results8,go_sem,z0,z1,z2,z3,z4,metaZ]) rfl ?_
    rw [HRE.out];exact ⟨HB7.out,rfl⟩
   | some g =>
    simp only [Option.isSome_some];have HR1:Hid (R=readM2 t g):=by show _=_; rw [HR.out]; unfold readM1; rw [HO.out]
    have HIg:=Lib.hid (idK_sz HO.out);have HSE:Hid (sg=bs g):=HSg.out _ rfl;clear HR HO HSg;have HR:=HR1;clear HR1;obtain rfl:=HSE.out;clear HSE;have HID:=Lib.hid (idM_any t nmA wG _ _ HT.out.node HLT.out);unfold nodeV bs at HID;obtain ⟨o,ho⟩ : ∃ o,idK nmA t=o:=⟨_,rfl⟩;rw [ho] at HID;have HO:=Lib.hid ho;clear ho;have x0:=HT.out.box.cell 0 _ rfl;have x1:=HT.out.box.cell 1 _ rfl;have x2:=HT.out.box.cell 2 _ rfl;have x3:=HT.out.box.cell 3 _ rfl;have xl:=HT.out.box.lt;go_wp2_with fail
    refine HID.out.mono ?_
    rintro e wA ⟨hb1,sa,rfl,hs⟩;have HSa:=Lib.hid hs;replace HT:=Lib.hid (HT.out.below hb1);replace HM:=Lib.hid (HM.out.below hb1 HM.out.lt);replace HB:=Lib.hid (HB.out.trans (hb1.mono HB.out.size));clear hb1 hs HID x0 x1 x2 x3 xl;cases o with
    | none =>
     simp only [Option.isSome_none];have HRE:Hid (R = .error erA):=by show _=_; rw [HR.out]; unfold readM2; rw [HO.out]
     go_wp2_with ((with_reducible show wpList _ _ _ (Oper.mk none (Op.store 26 (.tmp 2) (.tmp 37)) _ _ _ _::_) _ _); refine wpList_store_box rfl 26 (.tmp 2) (.tmp 37) rfl (w.heap.size+1) _ [.string ⟨#[]⟩,.string ⟨#[]⟩,.slice none 0 0,.string ⟨#[]⟩,.string ⟨#[]⟩] rfl rfl HM.out rfl (by kernel_rfl) (by simp [Value.oneCell']) ?_; intro W7 v7 hg7; have HV7:=Lib.hid v7; have HB7:=Lib.hid (grB HB.out hg7 (by omega) (Nat.le_refl _)); clear v7 hg7)
     have z0:=HV7.out.cell 0 _ rfl;have z1:=HV7.out.cell 1 _ rfl;have z2:=HV7.out.cell 2 _ rfl;have z3:=HV7.out.cell 3 _ rfl;have z4:=HV7.out.cell 4 _ rfl;have zl:=HV7.out.lt;clear HM HB;go_wp2
     refine bodyPost_ret (v:=.tuple #[.agg metaZ.toArray,.int .i64 20,.string ⟨#[109,101,116,97,100,97,116,97,47,97,114,116,105,102,97,99,116,73,100]⟩]) (by simp [results,Tryz.results8,go_sem,z0,z1,z2,z3,z4,metaZ]) rfl ?_
     rw [HRE.out];exact ⟨HB7.out,rfl⟩
    | some a =>
     simp only [Option.isSome_some];have HR1:Hid (R=readM3 t g a):=by show _=_; rw [HR.out]; unfold readM2; rw [HO.out]
     have HIa:=Lib.hid (idK_sz HO.out);have HSE:Hid (sa=bs a):=HSa.out _ rfl;clear HR HO HSa;have HR:=HR1;clear HR1;obtain rfl:=HSE.out;clear HSE;have HSG:=Lib.hid (single_any t nmV wA _ _ HT.out.node (by have:=lightT_kidl HLT.out; omega));unfold nodeV bs at HSG;obtain ⟨o,ho⟩ : ∃ o,oneK nmV t=o:=⟨_,rfl⟩;rw [ho] at HSG;have HO:=Lib.hid ho;clear ho;have x0:=HT.out.box.cell 0 _ rfl;have x1:=HT.out.box.cell 1 _ rfl;have x2:=HT.out.box.cell 2 _ rfl;have x3:=HT.out.box.cell 3 _ rfl;have xl:=HT.out.box.lt;go_wp2_with fail
     refine HSG.out.mono ?_
     intro e wV hp;cases o with
     | none =>
      obtain ⟨hb1,rfl⟩:=hp.none;replace HT:=Lib.hid (HT.out.below hb1);replace HM:=Lib.hid (HM.out.below hb1 HM.out.lt);replace HB:=Lib.hid (HB.out.trans (hb1.mono HB.out.size));clear hb1 hp HSG x0 x1 x2 x3 xl;unfold nodeZ;go_upto_region 10 with fail
      refine wp_world ?_
      intro WV2 hW;have hb:Below wV.heap.size wV WV2:=by rw [hW]; exact (Below.refl _ _).alloc (Nat.le_refl _) _
      clear hW;replace HT:=Lib.hid (HT.out.below hb);replace HM:=Lib.hid (HM.out.below hb HM.out.lt);replace HB:=Lib.hid (HB.out.trans (hb.mono HB.out.size));clear hb;have HRE:Hid (R = .error erV):=by show _=_; rw [HR.out]; unfold readM3; rw [HO.out]
      go_wp2_with ((with_reducible show wpList _ _ _ (Oper.mk none (Op.store 26 (.tmp 2) (.tmp 45)) _ _ _ _::_) _ _); refine wpList_store_box rfl 26 (.tmp 2) (.tmp 45) rfl (w.heap.size+1) _ [.string ⟨#[]⟩,.string ⟨#[]⟩,.slice none 0 0,.string ⟨#[]⟩,.string ⟨#[]⟩] rfl rfl HM.out rfl (by kernel_rfl) (by simp [Value.oneCell']) ?_; intro W7 v7 hg7; have HV7:=Lib.hid v7; have HB7:=Lib.hid (grB HB.out hg7 (by omega) (Nat.le_refl _)); clear v7 hg7)
      have z0:=HV7.out.cell 0 _ rfl;have z1:=HV7.out.cell 1 _ rfl;have z2:=HV7.out.cell 2 _ rfl;have z3:=HV7.out.cell 3 _ rfl;have z4:=HV7.out.cell 4 _ rfl;have zl:=HV7.out.lt;clear HM HB;go_wp2
      refine bodyPost_ret (v:=.tuple #[.agg metaZ.toArray,.int .i64 20,.string ⟨#[109,101,116,97,100,97,116,97,47,118,101,114,115,105,111,110,105,110,103]⟩]) (by simp [results,Tryz.results8,go_sem,z0,z1,z2,z3,z4,metaZ]) rfl ?_
      rw [HRE.out];exact ⟨HB7.out,rfl⟩
     | some i =>
      obtain ⟨hb1,iav,ikv,rfl,hn⟩:=hp.some;have HLi:=Lib.hid (oneK_light HLT.out HO.out);have HR1:Hid (R=readM4 g a i):=by show _=_; rw [HR.out]; unfold readM3; rw [HO.out]
      clear HR HO;have HR:=HR1;clear HR1;replace HT:=Lib.hid (HT.out.below hb1);replace HM:=Lib.hid (HM.out.below hb1 HM.out.lt);replace HB:=Lib.hid (HB.out.trans (hb1.mono HB.out.size));obtain ⟨iao,iac,iko,ikc,rfl,rfl,-,-⟩:=hn.shape;have HN:=Lib.hid hn;have HSZ:Hid (w.heap.size+2≤wV.heap.size):=by have:=HM.out.lt; show _≤_; omega
      clear hb1 hn hp HSG x0 x1 x2 x3 xl;unfold nodeV;go_upto_region 10 with fail
      refine wp_world ?_
      intro WV2 hW;have y1:Box WV2 wV.heap.size [.string (bs i.name),.slice iao i.attrs.length iac,.slice iko i.kids.length ikc,.string (bs i.text)]:=by rw [hW]; exact Box.new wV [.string (bs i.name),.slice iao i.attrs.length iac,.slice iko i.kids.length ikc,.string (bs i.text)] _ _ rfl
      have hb:Below wV.heap.size wV WV2:=by rw [hW]; exact (Below.refl _ _).alloc (Nat.le_refl _) _
      clear hW;have HI:Hid (NdF w WV2 wV.heap.size i (.slice iao i.attrs.length iac) (.slice iko i.kids.length ikc)):=⟨y1,HN.out.later hb⟩;replace HT:=Lib.hid (HT.out.below hb);replace HM:=Lib.hid (HM.out.below hb HM.out.lt);replace HB:=Lib.hid (HB.out.trans (hb.mono HB.out.size));clear y1 hb HN;obtain ⟨bi,hbi⟩ : ∃ b,wV.heap.size=b:=⟨_,rfl⟩;rw [hbi] at HI HSZ ⊢;have HZi:=HSZ;clear hbi HSZ;have HSG:=Lib.hid (single_any i nmL WV2 _ _ HI.out.node (by have:=lightT_kidl HLi.out; omega));unfold nodeV bs at HSG;obtain ⟨o,ho⟩ : ∃ o,oneK nmL i=o:=⟨_,rfl⟩;rw [ho] at HSG;have HO:=Lib.hid ho;clear ho;have x0:=HI.out.box.cell 0 _ rfl;have x1:=HI.out.box.cell 1 _ rfl;have x2:=HI.out.box.cell 2 _ rfl;have x3:=HI.out.box.cell 3 _ rfl;have xl:=HI.out.box.lt;go_wp2_with fail
      refine HSG.out.mono ?_
      intro e wL hp;cases o with
      | none =>
       obtain ⟨hb1,rfl⟩:=hp.none;replace HT:=Lib.hid (HT.out.below hb1);replace HM:=Lib.hid (HM.out.below hb1 HM.out.lt);replace HB:=Lib.hid (HB.out.trans (hb1.mono HB.out.size));clear hb1 hp HSG x0 x1 x2 x3 xl;unfold nodeZ;go_upto_region 13 with fail
       refine wp_world ?_
       intro WL2 hW;have hb:Below wL.heap.size wL WL2:=by rw [hW]; exact (Below.refl _ _).alloc (Nat.le_refl _) _
       clear hW;replace HT:=Lib.hid (HT.out.below hb);replace HM:=Lib.hid (HM.out.below hb HM.out.lt);replace HB:=Lib.hid (HB.out.trans (hb.mono HB.out.size));clear hb;have HRE:Hid (R = .error erL):=by show _=_; rw [HR.out]; unfold readM4; rw [HO.out]
       go_wp2_with ((with_reducible show wpList _ _ _ (Oper.mk none (Op.store 26 (.tmp 2) (.tmp 53)) _ _ _ _::_) _ _); refine wpList_store_box rfl 26 (.tmp 2) (.tmp 53) rfl (w.heap.size+1) _ [.string ⟨#[]⟩,.string ⟨#[]⟩,.slice none 0 0,.string ⟨#[]⟩,.string ⟨#[]⟩] rfl rfl HM.out rfl (by kernel_rfl) (by simp [Value.oneCell']) ?_; intro W7 v7 hg7; have HV7:=Lib.hid v7; have HB7:=Lib.hid (grB HB.out hg7 (by omega) (Nat.le_refl _)); clear v7 hg7)
       have z0:=HV7.out.cell 0 _ rfl;have z1:=HV7.out.cell 1 _ rfl;have z2:=HV7.out.cell 2 _ rfl;have z3:=HV7.out.cell 3 _ rfl;have z4:=HV7.out.cell 4 _ rfl;have zl:=HV7.out.lt;clear HM HB;go_wp2
       refine bodyPost_ret (v:=.tuple #[.agg metaZ.toArray,.int .i64 20,.string ⟨#[109,101,116,97,100,97,116,97,47,118,101,114,115,105,111,110,105,110,103,47,108,97,116,101,115,116]⟩]) (by simp [results,Tryz.results8,go_sem,z0,z1,z2,z3,z4,metaZ]) rfl ?_
       rw [HRE.out];exact ⟨HB7.out,rfl⟩
      | some l =>
       obtain ⟨hb1,lav,lkv,rfl,hn⟩:=hp.some;have HLl:=Lib.hid (oneK_light HLi.out HO.out);have HR1:Hid (R=readM5 g a i l):=by show _=_; rw [HR.out]; unfold readM4; rw [HO.out]
       clear HR HO;have HR:=HR1;clear HR1;replace HT:=Lib.hid (HT.out.below hb1);replace HM:=Lib.hid (HM.out.below hb1 HM.out.lt);replace HB:=Lib.hid (HB.out.trans (hb1.mono HB.out.size));replace HI:=Lib.hid (HI.out.below hb1);obtain ⟨lao,lac,lko,lkc,rfl,rfl,-,-⟩:=hn.shape;have HN:=Lib.hid hn;have HSZ:Hid (w.heap.size+2≤wL.heap.size):=by have:=HM.out.lt; show _≤_; omega
       clear hb1 hn hp HSG x0 x1 x2 x3 xl;unfold nodeV;go_upto_region 13 with fail
       refine wp_world ?_
       intro WL2 hW;have y1:Box WL2 wL.heap.size [.string (bs l.name),.slice lao l.attrs.length lac,.slice lko l.kids.length lkc,.string (bs l.text)]:=by rw [hW]; exact Box.new wL [.string (bs l.name),.slice lao l.attrs.length lac,.slice lko l.kids.length lkc,.string (bs l.text)] _ _ rfl
       have hb:Below wL.heap.size wL WL2:=by rw [hW]; exact (Below.refl _ _).alloc (Nat.le_refl _) _
       clear hW;have HLA:Hid (NdF w WL2 wL.heap.size l (.slice lao l.attrs.length lac) (.slice lko l.kids.length lkc)):=⟨y1,HN.out.later hb⟩;replace HT:=Lib.hid (HT.out.below hb);replace HM:=Lib.hid (HM.out.below hb HM.out.lt);replace HB:=Lib.hid (HB.out.trans (hb.mono HB.out.size));replace HI:=Lib.hid (HI.out.below hb);clear y1 hb HN;obtain ⟨bl,hbl⟩ : ∃ b,wL.heap.size=b:=⟨_,rfl⟩;rw [hbl] at HLA HSZ ⊢;have HZl:=HSZ;clear hbl HSZ;have HKD:=Lib.hid (kids_x i nmR WL2 _ _ HI.out.node (by have:=lightT_kidl HLi.out; omega));unfold nodeV bs at HKD;have x0:=HI.out.box.cell 0 _ rfl;have x1:=HI.out.box.cell 1 _ rfl;have x2:=HI.out.box.cell 2 _ rfl;have x3:=HI.out.box.cell 3 _ rfl;have xl:=HI.out.box.lt;go_wp2_with fail
       refine HKD.out.mono ?_
       rintro e w15 ⟨v,L,rfl,hL,hc⟩;have hb1:=hc.below;have HLR:Hid (RowF w w15 (w.heap.size+3) v L):=RowF.of hc (by have:=HI.out.box.lt; have:=HZi.out; omega);have HLK:=Lib.hid hL;replace HT:=Lib.hid (HT.out.below hb1);replace HM:=Lib.hid (HM.out.below hb1 HM.out.lt);replace HB:=Lib.hid (HB.out.trans (hb1.mono HB.out.size));replace HI:=Lib.hid (HI.out.below hb1);replace HLA:=Lib.hid (HLA.out.below hb1);obtain ⟨Lo,Lc,rfl⟩:=HLR.out.own.shape;clear hb1 hL hc HKD x0 x1 x2 x3 xl;have HLL:Hid (L.length=(kidsF nmR i.kids).length):=by show _=_; rw [← HLK.out,List.length_map]
       by_cases hn1:1<L.length
       · have e1:decide ((1:Int)<(L.length:Int))=true:=decide_eq_true (by omega)
         have e1p:(1:Int)<(L.length:Int):=by omega
         have e1n:decide (1<L.length)=true:=decide_eq_true hn1;have HYES:Hid (1<(kidsF nmR i.kids).length):=by rw [← HLL.out]; exact hn1
         clear hn1;have HRE:Hid (R = .error erR):=by show _=_; rw [HR.out]; unfold readM5; rw [if_pos HYES.out]
         go_wp2_with ((with_reducible show wpList _ _ _ (Oper.mk none (Op.store 26 (.tmp 2) (.tmp 59)) _ _ _ _::_) _ _); refine wpList_store_box rfl 26 (.tmp 2) (.tmp 59) rfl (w.heap.size+1) _ [.string ⟨#[]⟩,.string ⟨#[]⟩,.slice none 0 0,.string ⟨#[]⟩,.string ⟨#[]⟩] rfl rfl HM.out rfl (by kernel_rfl) (by simp [Value.oneCell']) ?_; intro W7 v7 hg7; have HV7:=Lib.hid v7; have HB7:=Lib.hid (grB HB.out hg7 (by omega) (Nat.le_refl _)); clear v7 hg7)
         have z0:=HV7.out.cell 0 _ rfl;have z1:=HV7.out.cell 1 _ rfl;have z2:=HV7.out.cell 2 _ rfl;have z3:=HV7.out.cell 3 _ rfl;have z4:=HV7.out.cell 4 _ rfl;have zl:=HV7.out.lt;clear HM HB;go_wp2
         refine bodyPost_ret (v:=.tuple #[.agg metaZ.toArray,.int .i64 20,.string ⟨#[109,101,116,97,100,97,116,97,47,118,101,114,115,105,111,110,105,110,103,47,114,101,108,101,97,115,101]⟩]) (by simp [results,Tryz.results8,go_sem,z0,z1,z2,z3,z4,metaZ]) rfl ?_
         rw [HRE.out];exact ⟨HB7.out,rfl⟩
       · have e1:decide ((1:Int)<(L.length:Int))=false:=decide_eq_false (by omega)
         have e1p : ¬ (1:Int)<(L.length:Int):=by omega
         have e1n:decide (1<L.length)=false:=decide_eq_false hn1;have HNR:Hid (¬ 1<(kidsF nmR i.kids).length):=by rw [← HLL.out]; exact hn1
         clear hn1;have HSG:=Lib.hid (single_any i nmVs w15 _ _ HI.out.node (by have:=lightT_kidl HLi.out; omega));unfold nodeV bs at HSG;obtain ⟨o,ho⟩ : ∃ o,oneK nmVs i=o:=⟨_,rfl⟩;rw [ho] at HSG;have HO:=Lib.hid ho;clear ho;have x0:=HI.out.box.cell 0 _ rfl;have x1:=HI.out.box.cell 1 _ rfl;have x2:=HI.out.box.cell 2 _ rfl;have x3:=HI.out.box.cell 3 _ rfl;have xl:=HI.out.box.lt;go_wp2_with fail
         refine HSG.out.mono ?_
         intro e wVs hp;cases o with
         | none =>
          obtain ⟨hb1,rfl⟩:=hp.none;replace HT:=Lib.hid (HT.out.below hb1);replace HM:=Lib.hid (HM.out.below hb1 HM.out.lt);replace HB:=Lib.hid (HB.out.trans (hb1.mono HB.out.size));clear hb1 hp HSG x0 x1 x2 x3 xl;unfold nodeZ;go_upto_region 19 with fail
          refine wp_world ?_
          intro WVs2 hW;have hb:Below wVs.heap.size wVs WVs2:=by rw [hW]; exact (Below.refl _ _).alloc (Nat.le_refl _) _
          clear hW;replace HT:=Lib.hid (HT.out.below hb);replace HM:=Lib.hid (HM.out.below hb HM.out.lt);replace HB:=Lib.hid (HB.out.trans (hb.mono HB.out.size));clear hb;have HRE:Hid (R = .error erVs):=by show _=_; rw [HR.out]; unfold readM5; rw [if_neg HNR.out]; rw [HO.out]
          go_wp2_with ((with_reducible show wpList _ _ _ (Oper.mk none (Op.store 26 (.tmp 2) (.tmp 67)) _ _ _ _::_) _ _); refine wpList_store_box rfl 26 (.tmp 2) (.tmp 67) rfl (w.heap.size+1) _ [.string ⟨#[]⟩,.string ⟨#[]⟩,.slice none 0 0,.string ⟨#[]⟩,.string ⟨#[]⟩] rfl rfl HM.out rfl (by kernel_rfl) (by simp [Value.oneCell']) ?_; intro W7 v7 hg7; have HV7:=Lib.hid v7; have HB7:=Lib.hid (grB HB.out hg7 (by omega) (Nat.le_refl _)); clear v7 hg7)
          have z0:=HV7.out.cell 0 _ rfl;have z1:=HV7.out.cell 1 _ rfl;have z2:=HV7.out.cell 2 _ rfl;have z3:=HV7.out.cell 3 _ rfl;have z4:=HV7.out.cell 4 _ rfl;have zl:=HV7.out.lt;clear HM HB;go_wp2
          refine bodyPost_ret (v:=.tuple #[.agg metaZ.toArray,.int .i64 20,.string ⟨#[109,101,116,97,100,97,116,97,47,118,101,114,115,105,111,110,105,110,103,47,118,101,114,115,105,111,110,115]⟩]) (by simp [results,Tryz.results8,go_sem,z0,z1,z2,z3,z4,metaZ]) rfl ?_
          rw [HRE.out];exact ⟨HB7.out,rfl⟩
         | some v =>
          obtain ⟨hb1,vav,vkv,rfl,hn⟩:=hp.some;have HLv:=Lib.hid (oneK_light HLi.out HO.out);have HR1:Hid (R=readM6 g a i l v):=by show _=_; rw [HR.out]; unfold readM5; rw [if_neg HNR.out]; rw [HO.out]
          clear HR HO;have HR:=HR1;clear HR1;replace HT:=Lib.hid (HT.out.below hb1);replace HM:=Lib.hid (HM.out.below hb1 HM.out.lt);replace HB:=Lib.hid (HB.out.trans (hb1.mono HB.out.size));replace HI:=Lib.hid (HI.out.below hb1);replace HLA:=Lib.hid (HLA.out.below hb1);replace HLR:=Lib.hid (HLR.out.below hb1);obtain ⟨vao,vac,vko,vkc,rfl,rfl,-,-⟩:=hn.shape;have HN:=Lib.hid hn;have HSZ:Hid (w.heap.size+2≤wVs.heap.size):=by have:=HM.out.lt; show _≤_; omega
          clear hb1 hn hp HSG x0 x1 x2 x3 xl;unfold nodeV;go_upto_region 19 with fail
          refine wp_world ?_
          intro WVs2 hW;have y1:Box WVs2 wVs.heap.size [.string (bs v.name),.slice vao v.attrs.length vac,.slice vko v.kids.length vkc,.string (bs v.text)]:=by rw [hW]; exact Box.new wVs [.string (bs v.name),.slice vao v.attrs.length vac,.slice vko v.kids.length vkc,.string (bs v.text)] _ _ rfl
          have hb:Below wVs.heap.size wVs WVs2:=by rw [hW]; exact (Below.refl _ _).alloc (Nat.le_refl _) _
          clear hW;have HV:Hid (NdF w WVs2 wVs.heap.size v (.slice vao v.attrs.length vac) (.slice vko v.kids.length vkc)):=⟨y1,HN.out.later hb⟩;replace HT:=Lib.hid (HT.out.below hb);replace HM:=Lib.hid (HM.out.below hb HM.out.lt);replace HB:=Lib.hid (HB.out.trans (hb.mono HB.out.size));replace HI:=Lib.hid (HI.out.below hb);replace HLA:=Lib.hid (HLA.out.below hb);replace HLR:=Lib.hid (HLR.out.below hb);clear y1 hb HN;obtain ⟨bv,hbv⟩ : ∃ b,wVs.heap.size=b:=⟨_,rfl⟩;rw [hbv] at HV HSZ ⊢;have HZv:=HSZ;clear hbv HSZ;have HTL:Hid (Calls Tryz.prog 24 #[nodeV l (.slice lao l.attrs.length lac) (.slice lko l.kids.length lkc)] WVs2 fun e w'=>e = .returned (.string (bs (tx l)))∧Below WVs2.heap.size WVs2 w'):=text_any l _ _ _ HLA.out.node.node (by have:=HLl.out.textL; omega);unfold nodeV at HTL;have x0:=HLA.out.box.cell 0 _ rfl;have x1:=HLA.out.box.cell 1 _ rfl;have x2:=HLA.out.box.cell 2 _ rfl;have x3:=HLA.out.box.cell 3 _ rfl;have xl:=HLA.out.box.lt;go_wp2_with fail
          refine HTL.out.mono ?_
          rintro e w6 ⟨rfl,hb⟩;replace HM:=Lib.hid (HM.out.below hb HM.out.lt);replace HB:=Lib.hid (HB.out.trans (hb.mono HB.out.size));replace HV:=Lib.hid (HV.out.below hb);replace HLR:=Lib.hid (HLR.out.below hb);clear hb HTL HLA HI HT x0 x1 x2 x3 xl;go_wp2_with ((with_reducible show wpList _ _ _ (Oper.mk none (Op.store 26 (.tmp 2) (.tmp 73)) _ _ _ _::_) _ _); refine wpList_store_box rfl 26 (.tmp 2) (.tmp 73) rfl (w.heap.size+1) _ [.string (bs g),.string (bs a),.slice none 0 0,.string (bs (tx l)),.string ⟨#[]⟩] rfl rfl HM.out rfl (by kernel_rfl) (by simp [Value.oneCell']) ?_; intro W7 v7 hg7; have HV7:=Lib.hid v7; have HB7:=Lib.hid (grB HB.out hg7 (by omega) (Nat.le_refl _)); have HVv:=Lib.hid (HV.out.put hg7 (by omega) (by have:=HZv.out; omega)); have HLRv:=Lib.hid (HLR.out.put hg7 (by omega) (by omega)); clear v7 hg7)
          clear HM HB HV HLR;have HM:=HV7;have HB:=HB7;have HV:=HVv;have HLR:=HLRv;clear HV7 HB7 HVv HLRv
          have HLB:Hid (L.length≤300):=by
           have h1:=List.length_filter_le (isKid nmR) i.kids;have h2:=lightT_kidl HLi.out;have h3:=HLL.out;unfold kidsF at h3;show _≤_; omega
          go_wp2
          go_loopw [76] (fun i2 wr=>∃ k:Nat,i2 = .int .i64 k∧k≤L.length∧Hid (RowF w wr (w.heap.size+3) (.slice Lo L.length Lc) L)∧Hid (NdF w wr bv v (.slice vao v.attrs.length vac) (.slice vko v.kids.length vkc))∧Hid (Box wr (w.heap.size+1) [.string (bs g),.string (bs a),.slice none 0 0,.string (bs (tx l)),.string (lastTx ((kidsF nmR i.kids).take k))])∧Hid (Below w.heap.size w wr)) (fun i2 _=>L.length - (intOf i2).toNat)
          case atStart=>exact ⟨0,rfl,Nat.zero_le _,HLR,HV,HM,HB⟩
          case round =>
           clear HLR HV HM HB;obtain ⟨k,rfl,hk,HLR,HV,HM,HB⟩:=hrel;by_cases hlt:k<L.length
           · obtain ⟨b,rfl,hbl,c0,c1,c2,c3⟩:=row_at HLR.out.own (List.getElem?_eq_getElem hlt)
             have HNY:=Lib.hid (HLR.out.nodes L[k] (List.getElem_mem hlt));have hkk:k<(kidsF nmR i.kids).length:=by rw [← HLL.out]; exact hlt
             have hyk:L[k].1=(kidsF nmR i.kids)[k]:=by
              have h:=HLK.out;have e:(L.map (·.1))[k]? = (kidsF nmR i.kids)[k]?:=by rw [h]
              rw [List.getElem?_map,List.getElem?_eq_getElem hlt,List.getElem?_eq_getElem hkk] at e;exact Option.some.inj e
             have HLT1:Hid (lastTx ((kidsF nmR i.kids).take (k+1))=bs (tx L[k].1)):=by show _=_; rw [lastTx_take hkk,hyk]
             have HLY:Hid (LightT L[k].1):=by show LightT _; rw [hyk]; exact kidsF_light HLi.out _ (List.getElem_mem hkk)
             have HKL:Hid (k+1≤L.length):=hlt;have d1:(k:Int)<(L.length:Int):=by omega
             have wk:IntKind.i64.wrap ((k:Int)+1)=(k:Int)+1:=IntWalk.i64_in _ (by have:=HLB.out; omega);generalize L[k]=y at *;obtain ⟨y,yav,ykv⟩:=y;simp only at c0 c1 c2 c3 HNY HLT1 HLY;obtain ⟨yao,yac,yko,ykc,rfl,rfl,-,-⟩:=HNY.out.shape;have HTY:Hid (∀ W,Below wr.heap.size wr W→Calls Tryz.prog 24 #[nodeV y (.slice yao y.attrs.length yac) (.slice yko y.kids.length ykc)] W fun e w'=>e = .returned (.string (bs (tx y)))∧Below W.heap.size W w'):=fun W hb=>text_any y W _ _ (HNY.out.later hb).node (by have:=HLY.out.textL; omega);unfold nodeV at HTY;generalize tx y=ty at *;clear HNY HLY hkk hyk hlt;go_upto_region 25 with fail
             refine wp_world ?_
             intro W1 hW;have y1:Box W1 wr.heap.size [.string (bs y.name),.slice yao y.attrs.length yac,.slice yko y.kids.length ykc,.string (bs y.text)]:=by rw [hW]; exact Box.new wr [.string (bs y.name),.slice yao y.attrs.length yac,.slice yko y.kids.length ykc,.string (bs y.text)] _ _ rfl
             have hb:Below wr.heap.size wr W1:=by rw [hW]; exact (Below.refl _ _).alloc (Nat.le_refl _) _
             clear hW c0 c1 c2 c3 hbl d1;replace HLR:=Lib.hid (HLR.out.below hb);replace HV:=Lib.hid (HV.out.below hb);replace HM:=Lib.hid (HM.out.below hb HM.out.lt);replace HB:=Lib.hid (HB.out.trans (hb.mono HB.out.size));have HTZ:=Lib.hid (HTY.out W1 hb);clear HTY hb;have x0:=y1.cell 0 _ rfl;have x1:=y1.cell 1 _ rfl;have x2:=y1.cell 2 _ rfl;have x3:=y1.cell 3 _ rfl;have xl:=y1.lt;clear y1;go_wp2_with fail
             refine HTZ.out.mono ?_
             rintro e W2 ⟨rfl,hb⟩;replace HLR:=Lib.hid (HLR.out.below hb);replace HV:=Lib.hid (HV.out.below hb);replace HM:=Lib.hid (HM.out.below hb HM.out.lt);replace HB:=Lib.hid (HB.out.trans (hb.mono HB.out.size));clear hb HTZ x0 x1 x2 x3 xl;have m4:=HM.out.cell 4 _ rfl;have ml:=HM.out.lt;have mf:=HM.out.free 4;go_upto_region 26 with fail
             refine wp_world ?_
             intro W3 hW;have HM3:Hid (Box W3 (w.heap.size+1) [.string (bs g),.string (bs a),.slice none 0 0,.string (bs (tx l)),.string (bs ty)]):=by show Box _ _ _; rw [hW]; exact HM.out.set 4 _
             have hg:W2.grownBy W3 (some (w.heap.size+1)):=by rw [hW]; exact setCell_grown _ _ _ _
             have HLR3:=Lib.hid (HLR.out.put hg (by omega) (by omega));have HV3:=Lib.hid (HV.out.put hg (by omega) (by have:=HZv.out; omega));have HB3:=Lib.hid (grB HB.out hg (by omega) (Nat.le_refl _));clear hW hg m4 ml mf HLR HV HM HB;rw [← show lastTx _=bs ty from HLT1.out] at HM3;go_wp2
             go_roundw
             case rel=>exact ⟨k+1,by first | rfl | go_num,HKL.out,HLR3,HV3,HM3,HB3⟩
             case measure=>simp [intOf]; have:=HKL.out; omega
           · obtain rfl:k=L.length:=by omega
             have d1 : ¬ (L.length:Int)<(L.length:Int):=by omega
             have HM1:=HM.out;rw [List.take_of_length_le (by rw [HLL.out]; exact Nat.le_refl _)] at HM1;replace HM:=Lib.hid HM1;clear HM1 HLR HLL HLK;have HKD:=Lib.hid (kids_x v nmVer wr _ _ HV.out.node (by have:=lightT_kidl HLv.out; omega));unfold nodeV bs at HKD;have x0:=HV.out.box.cell 0 _ rfl;have x1:=HV.out.box.cell 1 _ rfl;have x2:=HV.out.box.cell 2 _ rfl;have x3:=HV.out.box.cell 3 _ rfl;have xl:=HV.out.box.lt;go_wp2_with fail
             refine HKD.out.mono ?_
             rintro e w9 ⟨vv,L2,rfl,hL,hc⟩;have hb1:=hc.below;have HQR:Hid (RowF w w9 (w.heap.size+3) vv L2):=RowF.of hc (by have:=HV.out.box.lt; have:=HZv.out; omega);have HQK:=Lib.hid hL;replace HM:=Lib.hid (HM.out.below hb1 HM.out.lt);replace HB:=Lib.hid (HB.out.trans (hb1.mono HB.out.size));have HS9:Hid (w.heap.size+3≤w9.heap.size):=by have h1:=HV.out.box.lt; have h2:=HZv.out; have h3:=hb1.size; show _≤_; omega
             obtain ⟨qo,qc,rfl⟩:=HQR.out.own.shape;clear hb1 hL hc HKD HV x0 x1 x2 x3 xl;have HQL:Hid (L2.length=(kidsF nmVer v.kids).length):=by show _=_; rw [← HQK.out,List.length_map]
             have HQB:Hid (L2.length≤300):=by
              have h1:=List.length_filter_le (isKid nmVer) v.kids;have h2:=lightT_kidl HLv.out;have h3:=HQL.out;unfold kidsF at h3;show _≤_; omega
             have HLV:=Lib.hid (fun x hx=>kidsF_light (m:=nmVer) HLv.out x hx);have HVLN:Hid (∀ k,(txs ((kidsF nmVer v.kids).take k)).length≤k):=fun k=>by unfold txs; rw [List.length_map,List.length_take]; omega
             go_wp2
             go_loopw [87] (fun i2 wx=>∃ (k n:Nat) (mo:Option Addr) (mc:Nat),i2 = .int .i64 k∧k≤L2.length∧Hid (RowF w wx (w.heap.size+3) (.slice qo L2.length qc) L2)∧Hid (Owns (w.heap.size+3) 9 1 strC wx (.slice mo n mc) (txs ((kidsF nmVer v.kids).take k)))∧Hid (Box wx (w.heap.size+1) [.string (bs g),.string (bs a),.slice mo n mc,.string (bs (tx l)),.string (lastTx (kidsF nmR i.kids))])∧Hid (w.heap.size+3≤wx.heap.size)∧Hid (Below w.heap.size w wx)) (fun i2 _=>L2.length - (intOf i2).toNat)
             case atStart=>exact ⟨0,0,none,0,rfl,Nat.zero_le _,HQR,Owns.nil,HM,HS9,HB⟩
             case round =>
              clear HQR HM HB HS9;obtain ⟨k,n,mo,mc,rfl,hk,HQR,HO,HM,HS3,HB⟩:=hrel;obtain ⟨wo,rfl⟩ : ∃ wo:World,wo=wr:=⟨_,rfl⟩;by_cases hlt:k<L2.length
              · obtain ⟨b,rfl,hbl,c0,c1,c2,c3⟩:=row_at HQR.out.own (List.getElem?_eq_getElem hlt)
                have HNY:=Lib.hid (HQR.out.nodes L2[k] (List.getElem_mem hlt));have hkk:k<(kidsF nmVer v.kids).length:=by rw [← HQL.out]; exact hlt
                have hyk:L2[k].1=(kidsF nmVer v.kids)[k]:=by
                 have h:=HQK.out;have e:(L2.map (·.1))[k]? = (kidsF nmVer v.kids)[k]?:=by rw [h]
                 rw [List.getElem?_map,List.getElem?_eq_getElem hlt,List.getElem?_eq_getElem hkk] at e;exact Option.some.inj e
                have HTS:Hid (txs ((kidsF nmVer v.kids).take (k+1))=txs ((kidsF nmVer v.kids).take k) ++ [bs (tx L2[k].1)]):=by show _=_; rw [txs_take hkk,hyk]
                have HLY:Hid (LightT L2[k].1):=by show LightT _; rw [hyk]; exact HLV.out _ (List.getElem_mem hkk)
                have HKL:Hid (k+1≤L2.length):=hlt;have HNK:=Lib.hid (HVLN.out k);have d1:(k:Int)<(L2.length:Int):=by omega
                have wk:IntKind.i64.wrap ((k:Int)+1)=(k:Int)+1:=IntWalk.i64_in _ (by have:=HQB.out; omega);generalize L2[k]=y at *;obtain ⟨y,yav,ykv⟩:=y;simp only at c0 c1 c2 c3 HNY HTS HLY;obtain ⟨yao,yac,yko,ykc,rfl,rfl,-,-⟩:=HNY.out.shape;have HTY:Hid (∀ W,Below wo.heap.size wo W→Calls Tryz.prog 24 #[nodeV y (.slice yao y.attrs.length yac) (.slice yko y.kids.length ykc)] W fun e w'=>e = .returned (.string (bs (tx y)))∧Below W.heap.size W w'):=fun W hb=>text_any y W _ _ (HNY.out.later hb).node (by have:=HLY.out.textL; omega);unfold nodeV at HTY;have hnl:n=(txs ((kidsF nmVer v.kids).take k)).length:=by obtain ⟨_,_,e⟩:=HO.out.shape; cases e; rfl
                have HNL:=Lib.hid hnl;clear hnl;generalize txs ((kidsF nmVer v.kids).take k)=vl at *;obtain ⟨ty,hty⟩ : ∃ ty:S,bs (tx y)=ty:=⟨_,rfl⟩;rw [hty] at HTY HTS;clear HNY HLY hkk hyk hlt hty;go_upto_region 30 with fail
                refine wp_world ?_
                intro W1 hW;have y1:Box W1 wo.heap.size [.string (bs y.name),.slice yao y.attrs.length yac,.slice yko y.kids.length ykc,.string (bs y.text)]:=by rw [hW]; exact Box.new wo [.string (bs y.name),.slice yao y.attrs.length yac,.slice yko y.kids.length ykc,.string (bs y.text)] _ _ rfl
                have hb:Below wo.heap.size wo W1:=by rw [hW]; exact (Below.refl _ _).alloc (Nat.le_refl _) _
                clear hW c0 c1 c2 c3 hbl d1;replace HQR:=Lib.hid (HQR.out.below hb);replace HO:=Lib.hid (HO.out.below hb);replace HM:=Lib.hid (HM.out.below hb HM.out.lt);replace HB:=Lib.hid (HB.out.trans (hb.mono HB.out.size));have HTZ:Hid (∀ W,Below W1.heap.size W1 W→Calls Tryz.prog 24 #[.agg #[.string (bs y.name),.slice yao y.attrs.length yac,.slice yko y.kids.length ykc,.string (bs y.text)]] W fun e w'=>e = .returned (.string ty)∧Below W.heap.size W w'):=fun W hb2=>HTY.out W (hb.trans (hb2.mono hb.size));clear HTY hb;have x0:=y1.cell 0 _ rfl;have x1:=y1.cell 1 _ rfl;have x2:=y1.cell 2 _ rfl;have x3:=y1.cell 3 _ rfl;have xl:=y1.lt;have HYB:=Lib.hid y1;clear y1;have m2:=HM.out.cell 2 _ rfl;have ml:=HM.out.lt;have mf:=HM.out.free 2;have HW3:Hid (w.heap.size+3≤W1.heap.size):=by have h1:=HS3.out; have h3:=HYB.out.lt; show _≤_; omega
                have HTZD:Hid (Calls Tryz.prog 24 #[.agg #[.string (bs y.name),.slice yao y.attrs.length yac,.slice yko y.kids.length ykc,.string (bs y.text)]] W1.drew fun e w'=>e = .returned (.string ty)∧Below W1.drew.heap.size W1.drew w'):=HTZ.out _ ⟨rfl,rfl,rfl,Nat.le_refl _,fun _ _=>rfl⟩;clear HTZ;go_upto_region 30 with fail
                go_region_law (first | (go_simp; go_at_call 24; refine HTZD.out.mono ?_; rintro e w5 ⟨rfl,hb5⟩; have HB5:Hid (Below W1.heap.size W1 w5):=⟨hb5.os,hb5.tape,hb5.output,hb5.size,hb5.block⟩; have HM5:=Lib.hid (HM.out.below HB5.out HM.out.lt); have HOA:Hid (Owns (w.heap.size+3) 9 1 strC (w5.alloc (.cells #[.string ty] 9)) (.slice mo n mc) vl):=(HO.out.below HB5.out).alloc _; have HNA:Hid (SliceOf 1 strC (w5.alloc (.cells #[.string ty] 9)) (.slice (some ⟨w5.heap.size,0,none⟩) 1 1) [ty]):=(by show SliceOf _ _ _ _ _; simpa [strC] using sliceLit strC_lV w5 [ty] 9 w5.heap.size 1 rfl rfl (by simp [maxLen])); have k2:w5.cell? ⟨w.heap.size+1,2,none⟩=_:=HM5.out.cell 2 _ rfl; have kl:=HM5.out.lt; have kf:w5.frozen? ⟨w.heap.size+1,2,none⟩=false:=HM5.out.free 2; have HYB5:=Lib.hid (HYB.out.below HB5.out HYB.out.lt); clear hb5) | (refine step_append_slice _ rfl (.tmp 92) (.tmp 95) 24 rfl (w.heap.size+3) 9 Tryz.underlying24 info_str rfl (by decide) strC_lV (.slice mo n mc) vl (by simp [Act.eval]) HOA.out (.slice (some ⟨w5.heap.size,0,none⟩) 1 1) [ty] (by simp [Act.eval]) HNA.out (strC_onesR _) (by have h1:=HNK.out; have h2:=HQB.out; have h3:=HKL.out; simp only [List.length_singleton]; omega) (by decide) (by have h1:=HB5.out.size; have h2:=HW3.out; simp; omega) ?_; intro a8 n8 c8 w8 ho8 hg8; have HO8:=Lib.hid ho8; have HG8:=Lib.hid hg8; have HM8:=Lib.hid ((HM5.out.alloc _).grown hg8 (fun e=>by have h1:=HOA.out.lt _ e.symm; omega)); have j2:w8.cell? ⟨w.heap.size+1,2,none⟩=_:=HM8.out.cell 2 _ rfl; have jl:=HM8.out.lt; have jf:w8.frozen? ⟨w.heap.size+1,2,none⟩=false:=HM8.out.free 2; clear ho8 hg8) | fail)
                all_goals
                 obtain ⟨W3,hW⟩ : ∃ W,w8.setCell ⟨w.heap.size+1,2,none⟩ (.slice a8 n8 c8)=W:=⟨_,rfl⟩;rw [hW];have hg:w8.grownBy W3 (some (w.heap.size+1)):=by rw [← hW]; exact setCell_grown _ _ _ _
                 have HM3:Hid (Box W3 (w.heap.size+1) [.string (bs g),.string (bs a),.slice a8 n8 c8,.string (bs (tx l)),.string (lastTx (kidsF nmR i.kids))]):=by show Box _ _ _; rw [← hW]; exact HM8.out.set 2 _
                 have hba:Below W1.heap.size W1 (w5.alloc (.cells #[.string ty] 9)):=HB5.out.trans ((Below.refl _ _).alloc HB5.out.size _);have hqr:=HQR.out.below hba;have hq8:RowF w w8 (w.heap.size+3) (.slice (some ⟨b,0,none⟩) L2.length qc) L2:=⟨hqr.own.kept HG8.out (own_kindsR hqr.own HOA.out (by decide)),fun y hy=>(hqr.nodes y hy).keep (KeptX.grown HG8.out fun g e=>by have h1:=HOA.out.lt _ e; unfold XX; omega) (fun _ _ h=>h)⟩;have HQR3:=Lib.hid (hq8.put hg (by omega) (by omega));have hn8:n8=vl.length+1:=by obtain ⟨_,_,e⟩:=HO8.out.shape; cases e; simp
                 have HN8:=Lib.hid hn8;have HO3:=Lib.hid (HO8.out.keptR hg (by omega));have HS8:Hid (w.heap.size+3≤W3.heap.size):=by have h1:=HW3.out; have h2:=hba.size; have h3:=HG8.out.size; have h4:=hg.size; show _≤_; omega
                 have HB3:Hid (Below w.heap.size w W3):=(((HB.out.trans (hba.mono HB.out.size)).grown HG8.out (by have h1:=hba.size; have h2:=HB.out.size; omega) (fun j hj=>by have h1:=HOA.out.lt _ hj; omega))).grown hg (by have h1:=hba.size; have h2:=HB.out.size; have h3:=HG8.out.size; omega) (fun j hj=>by cases hj; omega);clear hW hg hba hqr hq8 hn8 HM5 HOA HNA HB5 HG8 HM8 HO8 j2 jl jf k2 kl kf HQR HO HM HB HYB5;clear m2 ml mf x0 x1 x2 x3 xl HYB;rw [← show txs _=_ from HTS.out] at HO3;go_wp2
                 go_roundw
                 case rel=>exact ⟨k+1,n8,a8,c8,by first | rfl | go_num,HKL.out,HQR3,HO3,HM3,HS8,HB3⟩
                 case measure=>simp [intOf]; have:=HKL.out; omega
              · obtain rfl:k=L2.length:=by omega
                have d1 : ¬ (L2.length:Int)<(L2.length:Int):=by omega
                have HO1:=HO.out;rw [List.take_of_length_le (by rw [HQL.out]; exact Nat.le_refl _)] at HO1;replace HO:=Lib.hid HO1;clear HO1 HQR HQK
                have HSM:Hid (MetaSm ⟨⟨bs g,bs a⟩,txs (kidsF nmVer v.kids),bs (tx l),lastTx (kidsF nmR i.kids)⟩):=by
                 refine ⟨by have:=HIg.out; show (bs g:S).size≤_; omega,by have:=HIa.out; show (bs a:S).size≤_; omega,?_,?_⟩
                 · have h1:=HQL.out
                   have h2:=HQB.out;show (txs _).length≤_
                   unfold txs;rw [List.length_map];omega
                 · intro x hx
                   obtain ⟨y,hy,rfl⟩:=List.mem_map.1 hx;have:=tx_len (HLV.out y hy)
                   rw [bs_size];omega
                have HR2:Hid (R=readM7 ⟨⟨bs g,bs a⟩,txs (kidsF nmVer v.kids),bs (tx l),lastTx (kidsF nmR i.kids)⟩):=HR.out;clear HR HLV HQL HQB HVLN HIg HIa;generalize lastTx (kidsF nmR i.kids)=RL at *;generalize txs (kidsF nmVer v.kids)=VL at *;have HMY:=Lib.hid (metaMay_any ⟨⟨bs g,bs a⟩,VL,bs (tx l),RL⟩ (.slice mo n mc) wo (HO.out.slice strC_lV) HSM.out);unfold metaAg metaC at HMY;have HRM:Hid (R=if mayM ⟨⟨bs g,bs a⟩,VL,bs (tx l),RL⟩=true then .ok ⟨⟨bs g,bs a⟩,VL,bs (tx l),RL⟩ else .error nmMeta):=HR2.out;clear HR2 HSM;generalize mayM ⟨⟨bs g,bs a⟩,VL,bs (tx l),RL⟩=q at *;have m0:=HM.out.cell 0 _ rfl;have m1:=HM.out.cell 1 _ rfl;have m2:=HM.out.cell 2 _ rfl;have m3:=HM.out.cell 3 _ rfl;have m4:=HM.out.cell 4 _ rfl;have ml:=HM.out.lt;go_wp2_with fail
                refine HMY.out.mono ?_
                rintro e w8 ⟨rfl,hb⟩;replace HO:=Lib.hid (HO.out.below hb);replace HM:=Lib.hid (HM.out.below hb HM.out.lt);replace HB:=Lib.hid (HB.out.trans (hb.mono HB.out.size));clear hb HMY m0 m1 m2 m3 m4 ml;cases q with
                | false =>
                 have HRE:Hid (R = .error nmMeta):=HRM.out;go_wp2_with ((with_reducible show wpList _ _ _ (Oper.mk none (Op.store 26 (.tmp 2) (.tmp 102)) _ _ _ _::_) _ _); refine wpList_store_box rfl 26 (.tmp 2) (.tmp 102) rfl (w.heap.size+1) _ [.string ⟨#[]⟩,.string ⟨#[]⟩,.slice none 0 0,.string ⟨#[]⟩,.string ⟨#[]⟩] rfl rfl HM.out rfl (by kernel_rfl) (by simp [Value.oneCell']) ?_; intro W7 v7 hg7; have HV7:=Lib.hid v7; have HB7:=Lib.hid (grB HB.out hg7 (by omega) (Nat.le_refl _)); clear v7 hg7)
                 have z0:=HV7.out.cell 0 _ rfl;have z1:=HV7.out.cell 1 _ rfl;have z2:=HV7.out.cell 2 _ rfl;have z3:=HV7.out.cell 3 _ rfl;have z4:=HV7.out.cell 4 _ rfl;have zl:=HV7.out.lt;clear HM HB;go_wp2
                 refine bodyPost_ret (v:=.tuple #[.agg metaZ.toArray,.int .i64 20,.string ⟨#[109,101,116,97,100,97,116,97]⟩]) (by simp [results,Tryz.results8,go_sem,z0,z1,z2,z3,z4,metaZ]) rfl ?_
                 rw [HRE.out];exact ⟨HB7.out,rfl⟩
                | true =>
                 have HRE:Hid (R = .ok ⟨⟨bs g,bs a⟩,VL,bs (tx l),RL⟩):=HRM.out;have m0:=HM.out.cell 0 _ rfl;have m1:=HM.out.cell 1 _ rfl;have m2:=HM.out.cell 2 _ rfl;have m3:=HM.out.cell 3 _ rfl;have m4:=HM.out.cell 4 _ rfl;have ml:=HM.out.lt;go_wp2_with ((with_reducible show wpList _ _ _ (Oper.mk none (Op.store 26 (.tmp 2) (.tmp 103)) _ _ _ _::_) _ _); refine wpList_store_box rfl 26 (.tmp 2) (.tmp 103) rfl (w.heap.size+1) _ [.string (bs g),.string (bs a),.slice mo n mc,.string (bs (tx l)),.string RL] rfl rfl HM.out rfl (by kernel_rfl) (by simp [Value.oneCell']) ?_; intro W7 v7 hg7; have HV7:=Lib.hid v7; have HB7:=Lib.hid (grB HB.out hg7 (by omega) (Nat.le_refl _)); have HO7:=Lib.hid (HO.out.keptR hg7 (by omega)); clear v7 hg7)
                 clear m0 m1 m2 m3 m4 ml;have z0:=HV7.out.cell 0 _ rfl;have z1:=HV7.out.cell 1 _ rfl;have z2:=HV7.out.cell 2 _ rfl;have z3:=HV7.out.cell 3 _ rfl;have z4:=HV7.out.cell 4 _ rfl;have zl:=HV7.out.lt;clear HM HB HO;go_wp2
                 refine bodyPost_ret (v:=.tuple #[.agg #[.string (bs g),.string (bs a),.slice mo n mc,.string (bs (tx l)),.string RL],.int .i64 0,.string ⟨#[]⟩]) (by simp [results,Tryz.results8,go_sem,z0,z1,z2,z3,z4]) rfl ?_
                 rw [HRE.out];exact ⟨HB7.out,_,HO7.out.slice strC_lV,rfl⟩
 · have HRE:Hid (R = .error t.name):=by show _=_; rw [HR.out,if_neg hn]
   rw [decide_eq_false hn] at hnm;clear HR hn;have m0:=HM.out.cell 0 _ rfl;have m1:=HM.out.cell 1 _ rfl;have m2:=HM.out.cell 2 _ rfl;have m3:=HM.out.cell 3 _ rfl;have m4:=HM.out.cell 4 _ rfl;have ml:=HM.out.lt;have f0:=HM.out.free 0;have f1:=HM.out.free 1;have f2:=HM.out.free 2;have f3:=HM.out.free 3;have f4:=HM.out.free 4;have ne1:w.heap.size≠w.heap.size+1:=by omega
   have ne2:w.heap.size+1≠w.heap.size:=by omega
   go_upto_region 2 with fail
   clear hnm;go_big_region
   all_goals
    obtain ⟨W7,hW⟩ : ∃ W',(((((W.setCell ⟨w.heap.size+1,0,none⟩ (.string ⟨#[]⟩)).setCell ⟨w.heap.size+1,1,none⟩ (.string ⟨#[]⟩)).setCell ⟨w.heap.size+1,2,none⟩ (.slice none 0 0)).setCell ⟨w.heap.size+1,3,none⟩ (.string ⟨#[]⟩)).setCell ⟨w.heap.size+1,4,none⟩ (.string ⟨#[]⟩)).drew=W':=⟨_,rfl⟩;rw [hW];have h5:Box W7 (w.heap.size+1) [.string ⟨#[]⟩,.string ⟨#[]⟩,.slice none 0 0,.string ⟨#[]⟩,.string ⟨#[]⟩]∧W.grownBy W7 (some (w.heap.size+1)):=by rw [← hW]; have h6:=box5R (v0:=.string ⟨#[]⟩) (v1:=.string ⟨#[]⟩) (v2:=.slice none 0 0) (v3:=.string ⟨#[]⟩) (v4:=.string ⟨#[]⟩) HM.out; exact ⟨⟨h6.1.lt,h6.1.cell,h6.1.free⟩,h6.2.trans ⟨rfl,rfl,rfl,Nat.le_refl _,fun _ _ _=>rfl⟩⟩
    obtain ⟨v7,hg7⟩:=h5;have HV7:=Lib.hid v7;have HB7:Hid (Below w.heap.size w W7):=grB HB.out hg7 (by omega) (Nat.le_refl _);clear v7 hg7 hW m0 m1 m2 m3 m4 ml f0 f1 f2 f3 f4 x0 x1 x2 x3 xl;have z0:=HV7.out.cell 0 _ rfl;have z1:=HV7.out.cell 1 _ rfl;have z2:=HV7.out.cell 2 _ rfl;have z3:=HV7.out.cell 3 _ rfl;have z4:=HV7.out.cell 4 _ rfl;have zl:=HV7.out.lt;go_wp2
    refine bodyPost_ret (v:=.tuple #[.agg metaZ.toArray,.int .i64 20,.string (bs t.name)]) (by simp [results,Tryz.results8,go_sem,z0,z1,z2,z3,z4,metaZ]) rfl ?_
    rw [HRE.out];exact ⟨HB7.out,rfl⟩
theorem rowM_iff {l:List S} : ∀ (n k:Nat),k+n=l.length→(rowM l n k=true ↔ ∀ j (hj:j<l.length),k≤j→stepM l j l[j]=true)
 | 0,k,h=>by
  constructor
  · intro _ j hj hk; omega
  · intro _; rfl
 | n+1,k,h=>by
  have hk:k<l.length:=by omega
  have ih:=rowM_iff (l:=l) n (k+1) (by omega)
  have e:rowM l (n+1) k=(stepM l k l[k] && rowM l n (k+1)):=by
   conv=>lhs; unfold rowM
   rw [List.getElem?_eq_getElem hk]
  rw [e,Bool.and_eq_true,ih];constructor
  · rintro ⟨h1,h2⟩ j hj hkj
    by_cases e:j=k
    · subst e; exact h1
    · exact h2 j hj (by omega)
  · intro h2
    exact ⟨h2 k hk (Nat.le_refl _),fun j hj hkj=>h2 j hj (by omega)⟩
theorem stepM_iff {l:List S} {k:Nat} (hk:k<l.length):stepM l k l[k]=true↔verMay l[k]=true∧l[k] ∉ l.take k∧(∀ (h:0<k),ltSV l[k] (l[k - 1]'(by omega))=false):=by
 unfold stepM;rw [Bool.and_eq_true,Bool.and_eq_true,and_assoc,Bool.not_eq_true',Bool.not_eq_true',← memB_iff (l:=l.take k),Bool.not_eq_true];refine and_congr Iff.rfl (and_congr Iff.rfl ?_)
 by_cases h0:0<k
 · rw [decide_eq_true h0,Bool.true_and]
   have hg:l.getD (k - 1) ⟨#[]⟩=l[k - 1]'(by omega):=by rw [List.getD_eq_getElem?_getD,List.getElem?_eq_getElem (by omega:k - 1<l.length)]; rfl
   rw [hg];have hf:=cmpSV_cmpr.flip (l[k - 1]'(by omega)) l[k];unfold ltSV;constructor
   · intro h _
     have h1:=of_decide_eq_false h;exact decide_eq_false (by omega)
   · intro h
     have h1:=of_decide_eq_false (h h0);exact decide_eq_false (by omega)
 · rw [decide_eq_false h0,Bool.false_and]
   exact ⟨fun _ h=>absurd h h0,fun _=>rfl⟩
structure RowOk (l:List S):Prop where
 may : ∀ x ∈ l,verMay x=true
 nd:l.Nodup
 srt:Srt ltSV l
theorem rowOk_iff {l:List S}:rowM l l.length 0=true↔RowOk l:=by
 rw [rowM_iff l.length 0 (by omega)];constructor
 · intro h
   have h':=fun j hj=>(stepM_iff hj).1 (h j hj (Nat.zero_le _));refine ⟨fun x hx=>?_,?_,?_⟩
   · obtain ⟨j,hj,rfl⟩:=List.mem_iff_getElem.1 hx
     exact (h' j hj).1
   · rw [List.nodup_iff_pairwise_ne,List.pairwise_iff_getElem]
     intro i j hi hj hij e;refine (h' j hj).2.1 ?_
     rw [← e];exact List.mem_iff_getElem.2 ⟨i,by rw [List.length_take]; omega,by rw [List.getElem_take]⟩
   · unfold Srt
     rw [List.pairwise_iff_getElem]
     have key : ∀ d i (hi:i<l.length) (hd:i+d<l.length),ltSV l[i+d] l[i]=false:=fun d=>by
      induction d with
      | zero=>intro i hi _; exact ltSV_weak.irr _
      | succ d ih =>
       intro i hi hd;have h1:=ih i hi (by omega);have h2:=(h' (i+(d+1)) hd).2.2 (by omega);exact ltSV_weak.leT h1 h2
     intro i j hi hj hij;obtain ⟨d,rfl⟩ : ∃ d,j=i+d:=⟨j - i,by omega⟩;exact key d i hi hj
 · rintro ⟨h1,h2,h3⟩ j hj _
   rw [stepM_iff hj];refine ⟨h1 _ (List.getElem_mem hj),fun hm=>?_,fun h0=>?_⟩
   · obtain ⟨i,hi,e⟩:=List.mem_iff_getElem.1 hm
     rw [List.length_take] at hi;rw [List.getElem_take] at e;rw [List.nodup_iff_pairwise_ne,List.pairwise_iff_getElem] at h2;exact h2 i j (by omega) hj (by omega) e
   · unfold Srt at h3
     rw [List.pairwise_iff_getElem] at h3;exact h3 (j - 1) j (by omega) hj (by omega)
theorem mayM_iff {m:MetaD}:mayM m=true↔isIdB m.id.group=true∧isIdB m.id.artifact=true∧m.vers≠[]∧m.vers.length≤1024∧RowOk m.vers∧m.latest=lastV m.vers∧m.rel=relV m.vers:=by
 unfold mayM;simp only [Bool.and_eq_true,decide_eq_true_eq,rowOk_iff,Bool.not_eq_true',List.isEmpty_eq_false_iff,and_assoc]
def leafM (n:Bs) (s:S):Tr:=.mk n [] [.mk [] [] [] s.data.toList] []
def relM (s:S):List Tr:=if s=⟨#[]⟩ then [] else [leafM nmR s]
def versM' (l:List S):Tr:=.mk nmVs [] (l.map (leafM nmVer)) []
def innerM (m:MetaD):Tr:=.mk nmV [] (leafM nmL m.latest::relM m.rel ++ [versM' m.vers]) []
def writeM (m:MetaD):Tr:=.mk nmMeta [] [leafM nmG m.id.group,leafM nmA m.id.artifact,innerM m] []
def cleanS (s:S):Prop:=∀ c ∈ s.data.toList,cBlank c=false
theorem verByte_clean {c:UInt8} (h:verByte c=true):cBlank c=false:=by
 rw [verByte_iff] at h;unfold cBlank;simp only [Bool.or_eq_false_iff,beq_eq_false_iff_ne];omega
theorem idByte_clean {c:UInt8} (h:idByte c=true):cBlank c=false:=verByte_clean (by unfold verByte; rw [h]; rfl)
theorem verMay_clean {s:S} (h:verMay s=true):cleanS s:=fun c hc=>by
 unfold verMay at h;simp only [Bool.and_eq_true,List.all_eq_true] at h;exact verByte_clean (h.1.1 c hc)
theorem isIdB_clean {s:S} (h:isIdB s=true):cleanS s:=fun c hc=>by
 unfold isIdB at h;simp only [Bool.and_eq_true,List.all_eq_true] at h;exact idByte_clean (h.1.1 c hc)
theorem empty_clean:cleanS ⟨#[]⟩:=fun c hc=>by cases hc
theorem drop_clean : ∀ (l:Bs),(∀ c ∈ l,cBlank c=false)→l.dropWhile cBlank=l
 | [],_=>rfl
 | c::l,h=>by rw [List.dropWhile_cons,h c (by simp)]; rfl
theorem trimB_clean {l:Bs} (h : ∀ c ∈ l,cBlank c=false):trimB l=l:=by
 unfold trimB;rw [drop_clean l h,drop_clean l.reverse (fun c hc=>h c (List.mem_reverse.1 hc)),List.reverse_reverse]
theorem tx_leaf {n:Bs} {s:S} (h:cleanS s):tx (leafM n s)=s.data.toList:=by
 have e:textF (leafM n s).kids=s.data.toList:=by show (if _ then _ else _) ++ _=_; simp [Tr.name,Tr.text,textF]
 unfold tx;rw [e];exact trimB_clean h
theorem bs_leaf {n:Bs} {s:S} (h:cleanS s):bs (tx (leafM n s))=s:=by rw [tx_leaf h]; exact data_bs s
theorem idK_leaf {nm n:Bs} {t:Tr} {s:S} (h:oneK nm t=some (leafM n s)) (hs:isIdB s=true):idK nm t=some s.data.toList:=by
 unfold idK;rw [h];have e:=tx_leaf (n:=n) (isIdB_clean hs);simp only;rw [e,data_bs,if_pos ⟨hs,rfl⟩]
theorem kids_rel (r:S):kidsF nmR (relM r)=relM r∧kidsF nmL (relM r)=[]∧kidsF nmVs (relM r)=[]:=by
 unfold relM;split
 · exact ⟨rfl,rfl,rfl⟩
 · exact ⟨rfl,rfl,rfl⟩
theorem kidsF_cons (n:Bs) (t:Tr) (l:List Tr):kidsF n (t::l)=(if isKid n t=true then [t] else []) ++ kidsF n l:=by
 unfold kidsF;rw [List.filter_cons];split <;> rfl
theorem kidsF_app (n:Bs) (l r:List Tr):kidsF n (l ++ r)=kidsF n l ++ kidsF n r:=List.filter_append ..
theorem kids_inner (m:MetaD):kidsF nmL (innerM m).kids=[leafM nmL m.latest]∧kidsF nmR (innerM m).kids=relM m.rel∧kidsF nmVs (innerM m).kids=[versM' m.vers]:=by
 obtain ⟨h1,h2,h3⟩:=kids_rel m.rel;have e:(innerM m).kids=leafM nmL m.latest::(relM m.rel ++ [versM' m.vers]):=rfl;rw [e];refine ⟨?_,?_,?_⟩
 · rw [kidsF_cons,kidsF_app,h2]; rfl
 · rw [kidsF_cons,kidsF_app,h1]
   show [] ++ (relM m.rel ++ [])=_
   rw [List.nil_append,List.append_nil]
 · rw [kidsF_cons,kidsF_app,h3]; rfl
theorem kids_vers (l:List S):kidsF nmVer (versM' l).kids=l.map (leafM nmVer):=by
 show kidsF nmVer (l.map (leafM nmVer))=_
 unfold kidsF;rw [List.filter_eq_self];intro t ht;obtain ⟨s,-,rfl⟩:=List.mem_map.1 ht;rfl
theorem txs_vers {l:List S} (h : ∀ s ∈ l,cleanS s):txs (l.map (leafM nmVer))=l:=by
 unfold txs;rw [List.map_map];conv=>rhs; rw [← List.map_id l]
 exact List.map_congr_left fun s hs=>bs_leaf (h s hs)
theorem snoc_indM {α:Type} {P:List α→Prop} (nil:P []) (snoc : ∀ l x,P l→P (l ++ [x])) (l:List α):P l:=by
 have h : ∀ r:List α,P r.reverse:=fun r=>by
  induction r with
  | nil=>exact nil
  | cons x r ih=>rw [List.reverse_cons]; exact snoc _ _ ih
 have:=h l.reverse
 rwa [List.reverse_reverse] at this
theorem relV_mem : ∀ (l:List S),relV l=⟨#[]⟩∨relV l ∈ l:=fun l=>by
 induction l using snoc_indM with
 | nil=>exact .inl rfl
 | snoc l x ih =>
  rw [relV_snoc];split
  · rcases ih with h | h
    · exact .inl h
    · exact .inr (List.mem_append.2 (.inl h))
  · exact .inr (by simp)
theorem lastV_mem {l:List S} (h:l≠[]):lastV l ∈ l:=by
 unfold lastV;rw [List.getLastD_eq_getLast?,List.getLast?_eq_some_getLast h];exact List.getLast_mem h
theorem rel_clean {m:MetaD} (h:mayM m=true):cleanS m.rel:=by
 obtain ⟨-,-,-,-,hr,-,he⟩:=mayM_iff.1 h;rw [he];rcases relV_mem m.vers with h | h
 · rw [h]; exact empty_clean
 · exact verMay_clean (hr.may _ h)
theorem latest_may {m:MetaD} (h:mayM m=true):verMay m.latest=true:=by
 obtain ⟨-,-,hn,-,hr,he,-⟩:=mayM_iff.1 h;rw [he];exact hr.may _ (lastV_mem hn)
theorem lastTx_rel {s:S} (h:cleanS s):lastTx (relM s)=s:=by
 unfold relM;split
 · rename_i e; rw [e]; rfl
 · exact bs_leaf h
theorem read_writeM {m:MetaD} (h:mayM m=true):readM (writeM m) = .ok m:=by
 obtain ⟨h1,h2,hn,hl,hr,he,he2⟩:=mayM_iff.1 h;have i1:idK nmG (writeM m)=some m.id.group.data.toList:=idK_leaf (t:=writeM m) (n:=nmG) rfl h1;have i2:idK nmA (writeM m)=some m.id.artifact.data.toList:=idK_leaf (t:=writeM m) (n:=nmA) rfl h2;have i3:oneK nmV (writeM m)=some (innerM m):=rfl;obtain ⟨k1,k2,k3⟩:=kids_inner m;have i4:oneK nmL (innerM m)=some (leafM nmL m.latest):=by unfold oneK; rw [k1]
 have i5:oneK nmVs (innerM m)=some (versM' m.vers):=by unfold oneK; rw [k3]
 have i6 : ¬ 1<(kidsF nmR (innerM m).kids).length:=by
  rw [k2];unfold relM;split <;> simp
 unfold readM;rw [if_pos (show (writeM m).name=nmMeta from rfl)];unfold readM1;rw [i1];simp only;unfold readM2;rw [i2];simp only;unfold readM3;rw [i3];simp only;unfold readM4;rw [i4];simp only;unfold readM5;rw [if_neg i6,i5];simp only;unfold readM6;rw [k2,kids_vers,txs_vers (fun s hs=>verMay_clean (hr.may s hs)),bs_leaf (verMay_clean (latest_may h)),lastTx_rel (rel_clean h),data_bs,data_bs];unfold readM7;exact if_pos h
end Go.Proofs.YtecffghcpknmjaaGreatDoor
namespace Go.Proofs.YtecffghcpknmjaaGreatDoor
open Go Go.RowKit
mutual
def Tr.pr:Tr→Bs
 | .mk n a ks x=>if n.isEmpty then esc false x else if ks.isEmpty then tagP ⟨2,n,a,[]⟩ [47,62] else tagP ⟨1,n,a,[]⟩ [62] ++ (Tr.prL ks ++ ([60,47] ++ (n ++ [62])))
def Tr.prL:List Tr→Bs
 | []=>[]
 | t::l=>t.pr ++ Tr.prL l
end
mutual
def Tr.wt:Tr→Nat
 | .mk n a ks x=>(2*n.length+x.length+attsW a+30)+Tr.wtL ks
def Tr.wtL:List Tr→Nat
 | []=>0
 | t::l=>t.wt+Tr.wtL l
end
theorem Tr.wt_eq (t:Tr):t.wt=(2*t.name.length+t.text.length+attsW t.attrs+30)+Tr.wtL t.kids:=by cases t; rw [Tr.wt]; rfl
theorem Tr.pr_eq (t:Tr):t.pr=if t.name.isEmpty then esc false t.text else if t.kids.isEmpty then tagP ⟨2,t.name,t.attrs,[]⟩ [47,62] else tagP ⟨1,t.name,t.attrs,[]⟩ [62] ++ (Tr.prL t.kids ++ ([60,47] ++ (t.name ++ [62]))):=by cases t; rw [Tr.pr]; rfl
theorem prL_append : ∀ (l m:List Tr),Tr.prL (l ++ m)=Tr.prL l ++ Tr.prL m
 | [],m=>by simp [Tr.prL]
 | t::l,m=>by rw [List.cons_append,Tr.prL,Tr.prL,prL_append l m,List.append_assoc]
theorem prL_take {l:List Tr} {k:Nat} (h:k<l.length):Tr.prL (l.take (k+1))=Tr.prL (l.take k) ++ l[k].pr:=by
 rw [List.take_succ_eq_append_getElem h,prL_append]; simp [Tr.prL]
theorem wtL_take : ∀ (l:List Tr) (k:Nat) (h:k<l.length),Tr.wtL (l.take k)+l[k].wt≤Tr.wtL l
 | t::l,0,_=>by simp only [List.take_zero,Tr.wtL,List.getElem_cons_zero]; omega
 | t::l,k+1,h=>by have:=wtL_take l k (by simpa using h); simp only [List.take_succ_cons,Tr.wtL,List.getElem_cons_succ]; omega
theorem tagT_len (k:Int) (n:Bs) (a:List At2) (q:Bs):(tagP ⟨k,n,a,[]⟩ q).length≤n.length+attsW a+q.length+1:=by
 have:=attsP_len a
 unfold tagP;simp only [List.length_cons,List.length_append]; omega
mutual
theorem pr_len : ∀ t:Tr,t.pr.length≤6*t.wt
 | .mk n a ks x=>by
  have h1:=(esc_len false x).2;have h2:=prL_len ks;have h3:=tagT_len 1 n a [62];have h4:=tagT_len 2 n a [47,62];simp only [List.length_cons,List.length_nil] at h3 h4;rw [Tr.pr,Tr.wt];repeat' split
  all_goals (try simp only [List.length_append,List.length_cons,List.length_nil]); omega
theorem prL_len : ∀ l:List Tr,(Tr.prL l).length≤6*Tr.wtL l
 | []=>by simp [Tr.prL]
 | t::l=>by
  have h1:=pr_len t;have h2:=prL_len l;rw [Tr.prL,Tr.wtL,List.length_append]; omega
end
theorem Kept.x {R b:Nat} {w w':World} (h:Kept R b w w'):KeptX (fun j=>R≤j∨j=b) w w' :=
 ⟨h.size,fun _ _ _ hn=>h.cell (Nat.lt_of_not_le (fun e=>hn (.inl e))) (fun e=>hn (.inr e))⟩
theorem SliceX.of {α:Type} {n:Nat} {C:α→List Value} {X:Nat→Prop} {w:World} {v:Value} {l:List α} (h:SliceX n C X w v l):SliceOf n C w v l:=h.slice
theorem tk_lit (W:World) (H:Nat) (hH:W.heap.size=H) (k:Int) (n:Bs) (a:List At2) (av:Value) (hA:SliceOf 2 atC W av a):TkMs (W.alloc (.cells #[.int .i64 k,.string (bs n),av,.string ⟨#[]⟩,.int .i64 0,.int .i64 0,.int .i64 0] 68)) (.slice (some ⟨H,0,none⟩) 1 1) [⟨⟨k,n,a,[]⟩,av,0,0,0⟩]:=by
 refine ⟨?_,fun x hx=>?_⟩
 · have h:=sliceLit tkC_len W [(⟨⟨k,n,a,[]⟩,av,0,0,0⟩:TkM)] 68 H 1 hH rfl (by unfold maxLen; simp)
   exact h
 · obtain rfl:=List.mem_singleton.1 hx
   exact hA.below ((Below.refl _ _).alloc (Nat.le_refl _) _)
theorem str3 (a:Array UInt8) (N:S) (n:Bs) (c:Array UInt8) (h:N=bs n):(⟨a⟩:S) ++ N ++ (⟨c⟩:S)=bs (a.toList ++ (n ++ c.toList)):=by
 rw [h,show (⟨a⟩:S)=bs a.toList by simp [bs],show (⟨c⟩:S)=bs c.toList by simp [bs],bs_append,bs_append,List.append_assoc]
set_option maxRecDepth 100000 in
set_option maxHeartbeats 16000000 in
theorem lay_any : ∀ (n:Nat) (t:Tr) (w:World) (av kv:Value) (R b c:Nat) (P:Bs),SizeOf.sizeOf t≤n→Bld R b (Lib.byteCells P) w→c<R→c≠b→w.cell? ⟨c,0,none⟩=some (.func (.func 29) #[] #[.pointer (some ⟨b,0,none⟩),.pointer (some ⟨c,0,none⟩)])→NodeX (fun j=>R≤j∨j=b) w t av kv→P.length+6*t.wt≤10000000000→t.wt≤900000000 →
    Calls Tryz.prog 29 #[nodeV t av kv,.pointer (some ⟨b,0,none⟩),.pointer (some ⟨c,0,none⟩)] w fun e w'=>e = .returned (.tuple #[])∧Bld R b (Lib.byteCells (P ++ t.pr)) w'∧Kept R b w w'
 | 0,t,w,av,kv,R,b,c,P,hn,_,_,_,_,_,_,_=>by
  obtain ⟨n,l,k,x⟩:=t;simp only [Tr.mk.sizeOf_spec] at hn;omega
 | n+1,t,w,av,kv,R,b,c,P,hn,hB,hcR,hcb,hcc,ht,hw1,hw2=>by
  obtain ⟨ao,ac,ko,kc,rfl,rfl,hal,hkl⟩:=ht.shape;have hwt:=t.wt_eq
  have HI:Hid (∀ k (hk:k<t.kids.length) (W':World) (v1 v2:Value) (P':Bs),Bld R b (Lib.byteCells P') W'→W'.cell? ⟨c,0,none⟩=some (.func (.func 29) #[] #[.pointer (some ⟨b,0,none⟩),.pointer (some ⟨c,0,none⟩)])→NodeX (fun j=>R≤j∨j=b) W' t.kids[k] v1 v2→P'.length+6*t.kids[k].wt≤10000000000 →
      Calls Tryz.prog 29 #[nodeV t.kids[k] v1 v2,.pointer (some ⟨b,0,none⟩),.pointer (some ⟨c,0,none⟩)] W' fun e w'=>e = .returned (.tuple #[])∧Bld R b (Lib.byteCells (P' ++ t.kids[k].pr)) w'∧Kept R b W' w'):=fun k hk W' v1 v2 P' h1 h2 h3 h4=>lay_any n _ W' v1 v2 R b c P' (by have:=kid_less hk; omega) h1 hcR hcb h2 h3 h4 (by have:=wtL_take t.kids k hk; omega)
  have hPR:=t.pr_eq;obtain ⟨N,hN⟩ : ∃ N:S,bs t.name=N:=⟨_,rfl⟩;obtain ⟨X,hX⟩ : ∃ X:S,bs t.text=X:=⟨_,rfl⟩;have hNs:N.size=t.name.length:=by rw [← hN,bs_size]
  have hNb:N.size≤900000000:=by omega
  have hXs:X.size≤1000000000:=by rw [← hX,bs_size]; omega
  have hXe:X.data.toList=t.text:=by rw [← hX,bs_data]
  have hbl:=hB.lt;have hbn:w.heap.size≠b:=by omega
  have HB:=Lib.hid hB;have HCC:=Lib.hid hcc;have HT:=Lib.hid ht;have HWT:Hid (P.length+6*t.wt≤10000000000∧t.wt≤900000000∧t.wt=(2*t.name.length+t.text.length+attsW t.attrs+30)+Tr.wtL t.kids):=⟨hw1,hw2,hwt⟩;have HNN:=Lib.hid hN;have hnl:t.name.length≤900000000:=by omega
  have haw:attsW t.attrs≤900000000:=by omega
  have hPl:P.length≤10000000000:=by omega
  have hnaw:t.name.length+attsW t.attrs≤900000000:=by omega
  clear hn hB hcc ht hw1 hw2 hwt;unfold nodeV;rw [hN,hX];by_cases hne:t.name=[]
  · have he:N.toList.isEmpty=true:=by rw [empty_data,hNs,hne]; rfl
    have HPR:Hid (t.pr=esc false X.data.toList):=by show _=_; rw [hPR,hne,hXe]; rfl
    have hEl:(esc false X.data.toList).length≤6000000000:=by
     have:=(esc_len false X.data.toList).2
     rw [size_data] at this; omega
    clear hne hPR hN hX hNs hXe;go_enter Tryz.func29,Tryz.ntmps29
    go_wp2_with fail
    refine (escape_any X false _ hXs).mono ?_
    rintro e w3 ⟨rfl,hb3⟩;have hb0:Below w.heap.size w w3:=((Below.refl _ w).alloc (Nat.le_refl _) _).trans (hb3.mono (by simp));have HB3:=Lib.hid (HB.out.keep hb0);have HK3:=Lib.hid (Kept.of_below (b:=b) hb0 HB.out.room);clear hb3 hb0;go_wp2_with fail
    refine (writeString_bld R b _ _ _ HB3.out (by rw [byteCells_len,bs_size]; omega)).mono ?_
    rintro e w4 ⟨rfl,hB4,hK4⟩
    have HB4:Hid (Bld R b (Lib.byteCells (P ++ t.pr)) w4):=by
     have h1:=hB4;rw [str_cells rfl] at h1;rw [HPR.out]; exact h1
    have HK4:=Lib.hid (HK3.out.trans hK4);clear hB4 hK4;go_wp2
    refine bodyPost_ret (v:=.tuple #[]) (by simp [results,Tryz.results29,go_sem]) rfl ?_
    exact ⟨rfl,HB4.out,HK4.out⟩
  · have he:N.toList.isEmpty=false:=by rw [empty_data,hNs]; simpa using hne
    have hE:t.name.isEmpty=false:=by simpa using hne
    rw [hE] at hPR;by_cases hk:t.kids=[]
    · have hk0:t.kids.length=0:=by rw [hk]; rfl
      have HPR:Hid (t.pr=tagP ⟨2,t.name,t.attrs,[]⟩ [47,62]):=by show _=_; rw [hPR,hk]; rfl
      have hkI : ¬ (0:Int)<(t.kids.length:Int):=by omega
      clear hne hPR hN hX hNs hXe hE hk hk0;go_enter Tryz.func29,Tryz.ntmps29
      go_wp2_with fail
      refine Calls.world ?_
      intro W1 hW1;have hb1:Below w.heap.size w W1:=by rw [hW1]; first | exact (((Below.refl _ w).alloc (Nat.le_refl _) _).alloc (by simp) _).alloc (by simp; omega) _ | exact ((((Below.refl _ w).alloc (Nat.le_refl _) _).alloc (by simp) _).setCell (by simp) _).alloc (by simp; omega) _
      have hnb1:W1.heap[w.heap.size]? = some (.cells #[.string N,.slice ao t.attrs.length ac,.slice ko t.kids.length kc,.string X] 32 (0,0)):=by
       rw [hW1]
       first
        | (rw [Lib.alloc_old _ _ _ (by simp; omega),Lib.alloc_old _ _ _ (by simp)]; exact heap_alloc_new w _)
        | (rw [Lib.alloc_old _ _ _ (by simp; omega),heap_set_other _ _ _ _ _ (by simp),Lib.alloc_old _ _ _ (by simp)]; exact heap_alloc_new w _)
      have htk:TkMs W1 (.slice (some ⟨w.heap.size+2,0,none⟩) 1 1) [⟨⟨2,t.name,t.attrs,[]⟩,.slice ao t.attrs.length ac,0,0,0⟩]:=by
       rw [hW1,← HNN.out];refine tk_lit _ _ (by simp) 2 t.name t.attrs _ (HT.out.att.below ?_)
       first | exact ((Below.refl _ w).alloc (Nat.le_refl _) _).alloc (by simp) _ | exact (((Below.refl _ w).alloc (Nat.le_refl _) _).alloc (by simp) _).setCell (by simp) _
      have HPC:=Lib.hid (print_any _ _ W1 htk (by show tksW [_]≤_; unfold tksW tkW; simp; omega));have hB1:=HB.out.keep hb1;have HK1:=Lib.hid (Kept.of_below (b:=b) hb1 HB.out.room);have HNB1:=Lib.hid hnb1;have HB1:=Lib.hid hB1;clear hW1 hb1 htk hnb1 hB1;refine HPC.out.mono ?_
      rintro e w2 ⟨rfl,hb2⟩;have HB2:=Lib.hid (HB1.out.keep hb2);have HK2:=Lib.hid (HK1.out.trans (Kept.of_below (b:=b) hb2 HB1.out.room));have HNB2:Hid (w2.heap[w.heap.size]? = some (.cells #[.string N,.slice ao t.attrs.length ac,.slice ko t.kids.length kc,.string X] 32 (0,0))):=(hb2.block _ (Array.getElem?_eq_some_iff.1 HNB1.out).1).trans HNB1.out;obtain ⟨Y,hY⟩ : ∃ Y:S,Y=bs (printP (([⟨⟨2,t.name,t.attrs,[]⟩,.slice ao t.attrs.length ac,0,0,0⟩]:List TkM).map (·.t))):=⟨_,rfl⟩;have hYt:Y=bs (tagP ⟨2,t.name,t.attrs,[]⟩ [47,62]):=by rw [hY]; show bs (printP [_])=_; rw [printP_one]; rfl
      rw [← hY];have hYs:Y.size≤t.name.length+attsW t.attrs+3:=by rw [hYt,bs_size]; have:=tagT_len 2 t.name t.attrs [47,62]; simp only [List.length_cons,List.length_nil] at this; omega
      have HYT:=Lib.hid hYt;clear hb2 HPC HNB1 HB1 HK1 hY hYt;go_wp2_with fail
      refine (writeString_bld R b _ Y _ HB2.out (by rw [byteCells_len]; omega)).mono ?_
      rintro e w3 ⟨rfl,hB3,hK3⟩
      have HB3:Hid (Bld R b (Lib.byteCells (P ++ tagP ⟨2,t.name,t.attrs,[]⟩ [47,62])) w3):=by
       have h1:=hB3;rw [str_cells HYT.out] at h1;exact h1
      have HK3:=Lib.hid (HK2.out.trans hK3);have HNB3:Hid (w3.heap[w.heap.size]? = some (.cells #[.string N,.slice ao t.attrs.length ac,.slice ko t.kids.length kc,.string X] 32 (0,0))):=hK3.typed _ _ _ _ hbn (by decide) HNB2.out;have n2:w3.cell? ⟨w.heap.size,2,none⟩=some (.slice ko t.kids.length kc):=by rw [Lib.cell_of_heap HNB3.out]; rfl
      have nl:w.heap.size<w3.heap.size:=(Array.getElem?_eq_some_iff.1 HNB3.out).1;clear hB3 hK3 HB2 HK2 HNB2 hYs HYT;go_wp2_with fail
      go_loopw [31] (fun i wr=>i = .int .i64 0∧wr=w3) (fun _ _=>0)
      case atStart=>exact ⟨rfl,rfl⟩
      case round =>
       obtain ⟨rfl,hwr⟩:=hrel;obtain rfl:w3=wr:=hwr.symm;go_wp2
       go_end0
       exact ⟨rfl,by rw [HPR.out]; exact HB3.out,HK3.out⟩
    · have hk0:0<t.kids.length:=by cases h:t.kids with | nil=>exact absurd h hk | cons a b=>simp
      have hkE:t.kids.isEmpty=false:=by simpa using hk
      have HPR:Hid (t.pr=tagP ⟨1,t.name,t.attrs,[]⟩ [62] ++ (Tr.prL t.kids ++ ([60,47] ++ (t.name ++ [62])))):=by show _=_; rw [hPR,hkE]; rfl
      have hkI:(0:Int)<(t.kids.length:Int):=by omega
      clear hne hPR hN hX hNs hXe hE hk hkE;go_enter Tryz.func29,Tryz.ntmps29
      go_wp2_with fail
      refine Calls.world ?_
      intro W1 hW1;have hb1:Below w.heap.size w W1:=by rw [hW1]; first | exact (((Below.refl _ w).alloc (Nat.le_refl _) _).alloc (by simp) _).alloc (by simp; omega) _ | exact ((((Below.refl _ w).alloc (Nat.le_refl _) _).alloc (by simp) _).setCell (by simp) _).alloc (by simp; omega) _
      have hnb1:W1.heap[w.heap.size]? = some (.cells #[.string N,.slice ao t.attrs.length ac,.slice ko t.kids.length kc,.string X] 32 (0,0)):=by
       rw [hW1]
       first
        | (rw [Lib.alloc_old _ _ _ (by simp; omega),Lib.alloc_old _ _ _ (by simp)]; exact heap_alloc_new w _)
        | (rw [Lib.alloc_old _ _ _ (by simp; omega),heap_set_other _ _ _ _ _ (by simp),Lib.alloc_old _ _ _ (by simp)]; exact heap_alloc_new w _)
      have htk:TkMs W1 (.slice (some ⟨w.heap.size+2,0,none⟩) 1 1) [⟨⟨1,t.name,t.attrs,[]⟩,.slice ao t.attrs.length ac,0,0,0⟩]:=by
       rw [hW1,← HNN.out];refine tk_lit _ _ (by simp) 1 t.name t.attrs _ (HT.out.att.below ?_)
       first | exact ((Below.refl _ w).alloc (Nat.le_refl _) _).alloc (by simp) _ | exact (((Below.refl _ w).alloc (Nat.le_refl _) _).alloc (by simp) _).setCell (by simp) _
      have HPC:=Lib.hid (print_any _ _ W1 htk (by show tksW [_]≤_; unfold tksW tkW; simp; omega));have hB1:=HB.out.keep hb1;have HK1:=Lib.hid (Kept.of_below (b:=b) hb1 HB.out.room);have HNB1:=Lib.hid hnb1;have HB1:=Lib.hid hB1;clear hW1 hb1 htk hnb1 hB1;refine HPC.out.mono ?_
      rintro e w2 ⟨rfl,hb2⟩;have HB2:=Lib.hid (HB1.out.keep hb2);have HK2:=Lib.hid (HK1.out.trans (Kept.of_below (b:=b) hb2 HB1.out.room));have HNB2:Hid (w2.heap[w.heap.size]? = some (.cells #[.string N,.slice ao t.attrs.length ac,.slice ko t.kids.length kc,.string X] 32 (0,0))):=(hb2.block _ (Array.getElem?_eq_some_iff.1 HNB1.out).1).trans HNB1.out;obtain ⟨Y,hY⟩ : ∃ Y:S,Y=bs (printP (([⟨⟨1,t.name,t.attrs,[]⟩,.slice ao t.attrs.length ac,0,0,0⟩]:List TkM).map (·.t))):=⟨_,rfl⟩;have hYt:Y=bs (tagP ⟨1,t.name,t.attrs,[]⟩ [62]):=by rw [hY]; show bs (printP [_])=_; rw [printP_one]; rfl
      rw [← hY];have hYs:Y.size≤t.name.length+attsW t.attrs+3:=by rw [hYt,bs_size]; have:=tagT_len 1 t.name t.attrs [62]; simp only [List.length_cons,List.length_nil] at this; omega
      have HYT:=Lib.hid hYt;clear hb2 HPC HNB1 HB1 HK1 hY hYt;go_wp2_with fail
      refine (writeString_bld R b _ Y _ HB2.out (by rw [byteCells_len]; omega)).mono ?_
      rintro e w3 ⟨rfl,hB3,hK3⟩
      have HB3:Hid (Bld R b (Lib.byteCells (P ++ tagP ⟨1,t.name,t.attrs,[]⟩ [62])) w3):=by
       have h1:=hB3;rw [str_cells HYT.out] at h1;exact h1
      have HK3:=Lib.hid (HK2.out.trans hK3);have HNB3:Hid (w3.heap[w.heap.size]? = some (.cells #[.string N,.slice ao t.attrs.length ac,.slice ko t.kids.length kc,.string X] 32 (0,0))):=hK3.typed _ _ _ _ hbn (by decide) HNB2.out;have n2:w3.cell? ⟨w.heap.size,2,none⟩=some (.slice ko t.kids.length kc):=by rw [Lib.cell_of_heap HNB3.out]; rfl
      have nl:w.heap.size<w3.heap.size:=(Array.getElem?_eq_some_iff.1 HNB3.out).1;clear hB3 hK3 HB2 HK2 HNB2 hYs HYT;go_wp2_with fail
      go_loopw [31] (fun i wr=>∃ k:Nat,k≤t.kids.length∧i = .int .i64 k∧Hid (Bld R b (Lib.byteCells (P ++ tagP ⟨1,t.name,t.attrs,[]⟩ [62] ++ Tr.prL (t.kids.take k))) wr∧Kept R b w wr∧wr.heap[w.heap.size]? = some (.cells #[.string N,.slice ao t.attrs.length ac,.slice ko t.kids.length kc,.string X] 32 (0,0)))) (fun i _=>t.kids.length - (intOf i).toNat)
      case atStart=>exact ⟨0,Nat.zero_le _,rfl,by simpa [Tr.prL] using HB3.out,HK3.out,HNB3.out⟩
      case round =>
       obtain ⟨k,hk,rfl,HR⟩:=hrel;clear n2 nl;by_cases hlt:k<t.kids.length
       · have hkx:=HT.out.keep HR.out.2.1.x (fun _ _ h=>h)
         obtain ⟨g,o,r1,r2,s1,s2,rfl,hg,-,c0,c1,c2,c3,hn1⟩:=hkx.at k hlt;have hki:(k:Int)<(t.kids.length:Int):=by omega
         have cc:wr.cell? ⟨c,0,none⟩=some (.func (.func 29) #[] #[.pointer (some ⟨b,0,none⟩),.pointer (some ⟨c,0,none⟩)]):=(HR.out.2.1.cell hcR hcb).trans HCC.out;have hcl:c<wr.heap.size:=Nat.lt_of_lt_of_le hcR (Nat.le_trans HB.out.room HR.out.2.1.size)
         have HC:Hid (∀ o1,Calls Tryz.prog 29 #[nodeV t.kids[k] (.slice r1 t.kids[k].attrs.length r2) (.slice s1 t.kids[k].kids.length s2),.pointer (some ⟨b,0,none⟩),.pointer (some ⟨c,0,none⟩)] (wr.alloc o1) fun e w'=>e = .returned (.tuple #[])∧Bld R b (Lib.byteCells ((P ++ tagP ⟨1,t.name,t.attrs,[]⟩ [62] ++ Tr.prL (t.kids.take k)) ++ t.kids[k].pr)) w'∧Kept R b (wr.alloc o1) w'):=fun o1=>by
          have h0:Below wr.heap.size wr (wr.alloc o1):=(Below.refl _ _).alloc (Nat.le_refl _) _;refine HI.out k hlt _ _ _ _ (HR.out.1.keep h0) ((h0.cell (p:=⟨c,0,none⟩) (by exact hcl)).trans cc) (hn1.keep (KeptX.below h0) (fun _ _ h=>h)) ?_
          have h1:=tagT_len 1 t.name t.attrs [62];have h2:=prL_len (t.kids.take k);have h3:=wtL_take t.kids k hlt;have h4:=HWT.out;simp only [List.length_append,List.length_cons,List.length_nil] at h1 ⊢;omega
         have HKW:=Lib.hid (fun o1=>HR.out.2.1.trans (Kept.of_below (R:=R) (b:=b) ((Below.refl wr.heap.size wr).alloc (Nat.le_refl _) o1) (Nat.le_trans HB.out.room HR.out.2.1.size)));have HNW:Hid (∀ o1,(wr.alloc o1).heap[w.heap.size]? = some (.cells #[.string N,.slice ao t.attrs.length ac,.slice (some ⟨g,o,none⟩) t.kids.length kc,.string X] 32 (0,0))):=fun o1=>(Lib.alloc_old _ _ _ (Array.getElem?_eq_some_iff.1 HR.out.2.2).1).trans HR.out.2.2;have HPT:=Lib.hid (prL_take hlt);unfold nodeV at HC;clear hkx hn1;go_wp2_with fail
         refine (HC.out _).mono ?_
         rintro e w4 ⟨rfl,hB4,hK4⟩
         have HB4:Hid (Bld R b (Lib.byteCells (P ++ tagP ⟨1,t.name,t.attrs,[]⟩ [62] ++ Tr.prL (t.kids.take (k+1)))) w4):=by
          show Bld _ _ _ _
          rw [HPT.out,← List.append_assoc]; exact hB4
         have HK4:=Lib.hid ((HKW.out _).trans hK4);have HNB4:Hid (w4.heap[w.heap.size]? = some (.cells #[.string N,.slice ao t.attrs.length ac,.slice (some ⟨g,o,none⟩) t.kids.length kc,.string X] 32 (0,0))):=hK4.typed _ _ _ _ hbn (by decide) (HNW.out _);clear hB4 hK4 HC HKW HNW;go_wp2
         go_roundw
         case rel=>exact ⟨k+1,hlt,by go_num,HB4.out,HK4.out,HNB4.out⟩
         case measure=>simp [intOf]; omega
       · obtain rfl:k=t.kids.length:=by omega
         have n0:wr.cell? ⟨w.heap.size,0,none⟩=some (.string N):=by rw [Lib.cell_of_heap HR.out.2.2]; rfl
         have n2:wr.cell? ⟨w.heap.size,2,none⟩=some (.slice ko t.kids.length kc):=by rw [Lib.cell_of_heap HR.out.2.2]; rfl
         have nl:w.heap.size<wr.heap.size:=(Array.getElem?_eq_some_iff.1 HR.out.2.2).1;have hl1:(0:Int)<(t.kids.length:Int):=by omega
         have hsz9:(P ++ tagP ⟨1,t.name,t.attrs,[]⟩ [62] ++ Tr.prL t.kids).length≤20000000000:=by
          have h1:=tagT_len 1 t.name t.attrs [62];have h2:=prL_len t.kids;have h4:=HWT.out;simp only [List.length_append,List.length_cons,List.length_nil] at h1 ⊢;omega
         have HRB:Hid (Bld R b (Lib.byteCells (P ++ tagP ⟨1,t.name,t.attrs,[]⟩ [62] ++ Tr.prL t.kids)) wr):=by have:=HR.out.1; rwa [List.take_length] at this
         have HEND:Hid ((⟨#[60,47]⟩:S) ++ N ++ (⟨#[62]⟩:S)=bs ([60,47] ++ (t.name ++ [62]))):=str3 _ _ _ _ HNN.out.symm;go_wp2_with fail
         refine (writeString_bld R b _ ((⟨#[60,47]⟩:S) ++ N ++ (⟨#[62]⟩:S)) _ HRB.out (by simp only [byteCells_len,ByteArray.size_append,size_lit]; simp; simp at hsz9; omega)).mono ?_
         rintro e w4 ⟨rfl,hB4,hK4⟩
         have HB4:Hid (Bld R b (Lib.byteCells (P ++ t.pr)) w4):=by
          have h1:=hB4;rw [str_cells HEND.out] at h1;show Bld _ _ _ _
          rw [HPR.out];simpa using h1
         have HK4:=Lib.hid (HR.out.2.1.trans hK4);clear hB4 hK4;go_wp2
         go_end0
         exact ⟨rfl,HB4.out,HK4.out⟩
set_option maxRecDepth 100000 in
set_option maxHeartbeats 8000000 in
theorem treePrint_any (t:Tr) (w:World) (av kv:Value) (h:NodeOf w t av kv) (hw:t.wt≤900000000) :
    Calls Tryz.prog 10 #[nodeV t av kv] w fun e w'=>e = .returned (.string (bs t.pr))∧Below w.heap.size w w':=by
 obtain ⟨ao,ac,ko,kc,rfl,rfl,-,-⟩:=h.shape;have HT:=Lib.hid h;clear h;unfold nodeV;go_enter Tryz.func10,Tryz.ntmps10
 go_wp2_with fail
 refine Calls.world ?_
 intro W hW;have hWs:W.heap.size=w.heap.size+3:=by rw [hW]; simp
 have hbW:Below w.heap.size w W:=by rw [hW]; exact (((Below.refl _ w).alloc (Nat.le_refl _) _).alloc (by simp) _).alloc (by simp; omega) _
 have hBl:Bld W.heap.size (w.heap.size+1) (Lib.byteCells []) W:=by
  have h1:=Bld.fresh (w.alloc (.cells #[.string (bs t.name),.slice ao t.attrs.length ac,.slice ko t.kids.length kc,.string (bs t.text)] 32)) W (by rw [hW]; exact (Below.refl _ _).alloc (by simp) _);rw [show (w.alloc (.cells #[.string (bs t.name),.slice ao t.attrs.length ac,.slice ko t.kids.length kc,.string (bs t.text)] 32)).heap.size=w.heap.size+1 by simp] at h1;exact h1
 have hcc:W.cell? ⟨w.heap.size+1+1,0,none⟩=some (.func (.func 29) #[] #[.pointer (some ⟨w.heap.size+1,0,none⟩),.pointer (some ⟨w.heap.size+1+1,0,none⟩)]):=by rw [hW]; exact (Box.new _ [_] _ _ (by simp)).cell 0 _ rfl
 have HLA:=lay_any _ t W _ _ W.heap.size (w.heap.size+1) (w.heap.size+1+1) [] (Nat.le_refl _) hBl (by omega) (by omega) hcc (HT.out.keep (KeptX.below hbW) (fun k h1 h2=>by omega)) (by simp; omega) hw;unfold nodeV at HLA;refine HLA.mono ?_
 rintro e w1 ⟨rfl,hB1,hK1⟩;have HB1:=Lib.hid (hB1.isB w.heap.size (by omega) (by omega));have HBE:=Lib.hid (hbW.trans (hK1.below (B:=w.heap.size) (by omega) (by omega)));have HSZ:Hid (w.heap.size≤w1.heap.size):=HBE.out.size;clear hWs hbW hBl hcc HLA hB1 hK1 hW hw;go_wp2_with fail
 refine (Tryz.Builder_String_any w.heap.size (w.heap.size+1) ([] ++ t.pr) w1 HB1.out HSZ.out).mono ?_
 rintro e w2 ⟨rfl,hb2⟩;have HZ:=Lib.hid (HBE.out.trans hb2);clear hb2;go_wp2
 go_ret
 exact ⟨rfl,HZ.out⟩
end Go.Proofs.YtecffghcpknmjaaGreatDoor
namespace Go.Proofs.YtecffghcpknmjaaGreatDoor
open Go Go.RowKit
def okName (l:Bs):Bool:=!l.isEmpty && decide (nameLen l=l.length)
def okText (l:Bs):Bool:=l.all cText
theorem okText_take {l:Bs} {k:Nat} (h:k<l.length):okText (l.take (k+1))=(okText (l.take k) && cText l[k]):=by
 unfold okText;rw [List.take_succ_eq_append_getElem h,List.all_append]; simp
theorem okText_false {l:Bs} {k:Nat} (h:k<l.length) (hc:cText l[k]=false):okText l=false:=by
 unfold okText;rw [Bool.eq_false_iff];intro h2;have:=List.all_eq_true.1 h2 l[k] (List.getElem_mem h)
 rw [hc] at this; cases this
theorem get_data (s:S) (k:Nat) (h:k<s.size):s.data.toList[k]'(by rw [size_data]; exact h)=s[k]:=rfl
set_option maxHeartbeats 1000000 in
theorem refIsNm_any (s:S) (w:World) (hs:s.size≤9223372036854775807) :
    Calls Tryz.prog 64 #[.string s] w fun e w'=>e = .returned (.bool (okName s.data.toList))∧w=w':=by
 by_cases h0:s.size=0
 · have hI : ¬ (0:Int)<(s.size:Int):=by omega
   have hd:s.data.toList=[]:=List.eq_nil_of_length_eq_zero (by rw [size_data,h0]);have HO:Hid (okName s.data.toList=false):=by show _=_; rw [hd]; rfl
   clear hd h0;go_enter Tryz.func64,Tryz.ntmps64
   go_wp2_with fail
   go_ret
   exact ⟨by rw [HO.out]; rfl,rfl⟩
 · have hI:(0:Int)<(s.size:Int):=by omega
   have HO:Hid (okName s.data.toList=decide (nameLen s.data.toList=s.size)):=by
    show _=_
    have hd:s.data.toList.isEmpty=false:=by
     cases h:s.data.toList with
     | nil=>have:=size_data s; rw [h] at this; exact absurd this.symm h0
     | cons a b=>rfl
    unfold okName;rw [hd,size_data]; rfl
   have HN:=Lib.hid (fun w=>refName_any s w hs);clear h0;generalize nameLen s.data.toList=n at *;by_cases hn:n=s.size
   · have hb:((n:Int) == (s.size:Int))=true:=by rw [hn]; simp
     rw [decide_eq_true hn] at HO;have HNN:=Lib.hid hn;clear hn;go_enter Tryz.func64,Tryz.ntmps64
     go_wp2_with (go_at_call 95; refine (HN.out _).mono ?_; rintro e w' ⟨rfl,rfl⟩)
     go_ret
     exact ⟨by rw [HO.out]; rfl,rfl⟩
   · have hb:((n:Int) == (s.size:Int))=false:=beq_eq_false_iff_ne.2 (by omega)
     rw [decide_eq_false hn] at HO;have HNN:=Lib.hid hn;clear hn;go_enter Tryz.func64,Tryz.ntmps64
     go_wp2_with (go_at_call 95; refine (HN.out _).mono ?_; rintro e w' ⟨rfl,rfl⟩)
     go_ret
     exact ⟨by rw [HO.out]; rfl,rfl⟩
set_option maxHeartbeats 2000000 in
theorem refPlain_any (s:S) (w:World) (hs:s.size≤9223372036854775807) :
    Calls Tryz.prog 65 #[.string s] w fun e w'=>e = .returned (.bool (okText s.data.toList))∧w=w':=by
 go_enter Tryz.func65,Tryz.ntmps65
 go_wp2_with fail
 go_loop [3] (fun i=>∃ k:Nat,k≤s.size∧i = .int .i64 k∧Hid (okText (s.data.toList.take k)=true)) (fun i=>s.size - (intOf i).toNat)
 case atStart=>exact ⟨0,Nat.zero_le _,rfl,by show _=_; rfl⟩
 case round =>
  obtain ⟨k,hk,rfl,HK⟩:=hrel;by_cases hlt:k<s.size
  · have hi1:(k:Int)<(s.size:Int):=by omega
    have hlt':k<s.data.toList.length:=by rw [size_data]; exact hlt
    have HT:=Lib.hid (okText_take hlt');have HFF:=Lib.hid (fun h=>okText_false hlt' h);rw [get_data s k hlt] at HT HFF;have HCT:=Lib.hid (fun w=>is16_any s[k] w);cases hc:cText s[k]
    · rw [hc] at HCT HFF
      have HF2:Hid (okText s.data.toList=false):=HFF.out rfl;clear hc;go_wp2_with (go_at_call 96; refine (HCT.out _).mono ?_; rintro e w' ⟨rfl,rfl⟩)
      go_ret
      exact ⟨by rw [HF2.out]; rfl,rfl⟩
    · rw [hc] at HCT HT
      clear hc;go_wp2_with (go_at_call 96; refine (HCT.out _).mono ?_; rintro e w' ⟨rfl,rfl⟩)
      go_round
      case rel=>exact ⟨k+1,hlt,by go_num,by show _=_; rw [HT.out,HK.out]; rfl⟩
      case measure=>simp [intOf]; omega
  · obtain rfl:k=s.size:=by omega
    have HO:Hid (okText s.data.toList=true):=by have:=HK.out; rwa [List.take_of_length_le (by rw [size_data]; exact Nat.le_refl _)] at this
    go_wp2_with fail
    go_ret
    exact ⟨by rw [HO.out]; rfl,rfl⟩
theorem Says.qb {p:Prop} {q:Bool} (hq:q=true↔p) {w:World} {e:Ending} {w':World} (h:Says p w e w'):e = .returned (.bool q)∧Below w.heap.size w w':=by
 obtain ⟨z,rfl,hz,hb⟩:=h
 have:z=q:=by
  cases z <;> cases q
  · rfl
  · have:=hz.2 (hq.1 rfl); cases this
  · have:=hq.2 (hz.1 rfl); cases this
  · rfl
 exact ⟨by rw [this],hb⟩
theorem bool_of (p:Prop) : ∃ q:Bool,q=true↔p:=by
 by_cases h:p
 · exact ⟨true,fun _=>h,fun _=>rfl⟩
 · exact ⟨false,fun e=>absurd e Bool.false_ne_true,fun e=>absurd e h⟩
def GoodAtts (l:List At2):Prop:=(∀ a ∈ l,okName a.1=true∧okText a.2=true)∧(l.map (·.1)).Nodup
def hasAtt (n:Bs) (l:List At2):Prop:=∃ k,∃ h:k<l.length,l[k].1=n
def OkAt (l:List At2) (k:Nat) (h:k<l.length):Prop:=¬ hasAtt l[k].1 (l.take k)∧okName l[k].1=true∧okText l[k].2=true
theorem goodAtts_iff (l:List At2):GoodAtts l ↔ ∀ k (h:k<l.length),OkAt l k h:=by
 constructor
 · rintro ⟨h1,h2⟩ k h
   refine ⟨?_,h1 _ (List.getElem_mem h)⟩
   rintro ⟨j,hj,he⟩;have hjk:j<k:=by rw [List.length_take] at hj; omega
   rw [List.getElem_take] at he;have h3:=(List.pairwise_iff_getElem.1 h2) j k (by simp; omega) (by simpa using h) hjk;simp only [List.getElem_map] at h3;exact h3 he
 · intro h
   refine ⟨fun a ha=>?_,?_⟩
   · obtain ⟨k,hk,rfl⟩:=List.mem_iff_getElem.1 ha
     exact (h k hk).2
   · refine List.pairwise_iff_getElem.2 fun i j hi hj hij=>?_
     have hj':j<l.length:=by simpa using hj
     simp only [List.getElem_map];intro e;exact (h j hj').1 ⟨i,by rw [List.length_take]; omega,by rw [List.getElem_take]; exact e⟩
def LeafOk (t:Tr):Prop:=t.attrs=[]∧t.kids=[]∧t.text≠[]∧okText t.text=true
inductive RightT:Tr→Prop where
 | mk {n:Bs} {a:List At2} {ks:List Tr} {x:Bs} (hn:okName n=true) (hx:x=[]) (ha:GoodAtts a) (hk : ∀ k ∈ ks,k.name≠[]→RightT k) (hl : ∀ k ∈ ks,k.name=[]→LeafOk k) (hs : ∀ (k:Nat) (h:k+1<ks.length),(ks[k]'(Nat.lt_of_succ_lt h)).name=[]→(ks[k+1]'h).name≠[]):RightT (.mk n a ks x)
def KidOk (t:Tr) (k:Nat) (h:k<t.kids.length):Prop:=((t.kids[k]'h).name≠[]∧RightT (t.kids[k]'h))∨((t.kids[k]'h).name=[]∧LeafOk (t.kids[k]'h) ∧ ∀ j (hj:j+1=k),(t.kids[j]'(by omega)).name≠[])
theorem right_iff (t:Tr):RightT t↔okName t.name=true∧t.text=[]∧GoodAtts t.attrs ∧ ∀ k (h:k<t.kids.length),KidOk t k h:=by
 constructor
 · intro h
   cases h with
   | mk hn hx ha hk hl hs =>
    refine ⟨hn,hx,ha,fun k h=>?_⟩
    rename_i n a ks x
    show ((ks[k]'h).name≠[]∧RightT (ks[k]'h))∨((ks[k]'h).name=[]∧LeafOk (ks[k]'h) ∧ ∀ j (hj:j+1=k),(ks[j]'(by have:k<ks.length:=h; omega)).name≠[])
    by_cases hne:(ks[k]'h).name=[]
    · refine .inr ⟨hne,hl _ (List.getElem_mem _) hne,fun j hj e=>?_⟩
      subst hj;exact hs j h e hne
    · exact .inl ⟨hne,hk _ (List.getElem_mem _) hne⟩
 · rintro ⟨hn,hx,ha,h⟩
   obtain ⟨n,a,ks,x⟩:=t;refine .mk hn hx ha (fun y hy hne=>?_) (fun y hy hne=>?_) (fun k hk hne hne2=>?_)
   · obtain ⟨k,hk,rfl⟩:=List.mem_iff_getElem.1 hy
     rcases h k hk with ⟨-,h1⟩ | ⟨h1,-⟩
     · exact h1
     · exact absurd h1 hne
   · obtain ⟨k,hk,rfl⟩:=List.mem_iff_getElem.1 hy
     rcases h k hk with ⟨h1,-⟩ | ⟨-,h1,-⟩
     · exact absurd hne h1
     · exact h1
   · rcases h (k+1) hk with ⟨h1,-⟩ | ⟨-,-,h1⟩
     · exact h1 hne2
     · exact h1 k rfl hne
inductive FineT:Tr→Prop where
 | mk {n:Bs} {a:List At2} {ks:List Tr} {x:Bs} (hn:n.length≤1000000000) (hx:x.length≤1000000000) (ha : ∀ b ∈ a,b.1.length≤1000000000∧b.2.length≤1000000000) (hk : ∀ k ∈ ks,FineT k):FineT (.mk n a ks x)
theorem FineT.name {t:Tr} (h:FineT t):t.name.length≤1000000000:=by cases h; assumption
theorem FineT.text {t:Tr} (h:FineT t):t.text.length≤1000000000:=by cases h; assumption
theorem FineT.attrs {t:Tr} (h:FineT t) : ∀ b ∈ t.attrs,b.1.length≤1000000000∧b.2.length≤1000000000:=by cases h; assumption
theorem FineT.kids {t:Tr} (h:FineT t) : ∀ k ∈ t.kids,FineT k:=by cases h; assumption
def MayT (t:Tr):Prop:=RightT t∧t.cnt≤4096∧t.dep≤64
end Go.Proofs.YtecffghcpknmjaaGreatDoor
