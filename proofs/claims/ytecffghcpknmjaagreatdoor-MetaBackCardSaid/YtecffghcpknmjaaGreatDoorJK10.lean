/- The walk of the program's reader's token at a beginning of an element; the conditions stand in the theorem. -/
import Derived.Test.YtecffghcpknmjaaGreatDoorJK06
import Derived.Test.YtecffghcpknmjaaGreatDoorJK04
import Derived.Test.YtecffghcpknmjaaGreatDoorJK05
import Derived.Test.YtecffghcpknmjaaGreatDoorJK07
import Derived.Test.YtecffghcpknmjaaGreatDoorJK08
import Derived.Test.YtecffghcpknmjaaGreatDoorJK09
import Derived.Test.YtecffghcpknmjaaGreatDoorOwn2
import Derived.Test.YtecffghcpknmjaaGreatDoorQB
import Derived.Test.YtecffghcpknmjaaGreatDoorG2
import Derived.Test.YtecffghcpknmjaaGreatDoorK19
import Derived.Test.YtecffghcpknmjaaGreatDoorK4
import Derived.Test.YtecffghcpknmjaaGreatDoorR0
import Derived.Test.YtecffghcpknmjaaGreatDoorL0
import Derived.Test.YtecffghcpknmjaaGreatDoorSB
import Derived.Defers
import Derived.Recover
import Derived.Laws.Pointers
import Derived.KernelRfl
import Derived.StillTailTactics
namespace Go.Proofs.YtecffghcpknmjaaGreatDoor
open Go Go.RowKit
set_option maxRecDepth 100000 in
set_option maxHeartbeats 8000000 in
theorem tok_open (b:Nat) (s:S) (l:Bs) (ao:Option Addr) (cap:Nat) (L:List TkM) (m:Int) (w:World) (h:Toks w b s l (.slice ao L.length cap) L) (hs:s.size≤65536) (hm:w.cell? ⟨0,0,none⟩=some (.int .i64 m)) (hL:L.length≤1000000)
    (l':Bs) (hl:l=60::l') (hsl:([47]:Bs).isPrefixOf l'=false) (hno:sNote.isPrefixOf l=false) (hno2:sData.isPrefixOf l=false) (hh:pos s l=0→isHead l=false) :
    Calls Tryz.prog 53 #[.pointer (some ⟨b,0,none⟩)] w (OutT b s (pos s l) L w (openR l')):=by
 have hlt0:=h.rd.box.lt;have c1:=h.rd.c1;have H0:=Lib.hid h;have hs2:s.size≤1000000:=by omega
 have HM:=Lib.hid hm;have hp:=pos_add h.rd.suf;have hpb:(pos s l:Int)≤65536:=by omega
 have HA:Hid (∀ w,Rd w b s l (.slice ao L.length cap)→Calls Tryz.prog 80 #[.pointer (some ⟨b,0,none⟩),.string ⟨#[60,33,45,45]⟩] w (Qt (.bool false) w)):=fun w h=>by
  have:=has_pre b s l (.slice ao L.length cap) ⟨#[60,33,45,45]⟩ w h
  rw [show (⟨#[60,33,45,45]⟩:S).data.toList.isPrefixOf l=false from hno] at this; exact this
 have HB:Hid (∀ w,Rd w b s l (.slice ao L.length cap)→Calls Tryz.prog 80 #[.pointer (some ⟨b,0,none⟩),.string ⟨#[60,33,91,67,68,65,84,65,91]⟩] w (Qt (.bool false) w)):=fun w h=>by
  have:=has_pre b s l (.slice ao L.length cap) ⟨#[60,33,91,67,68,65,84,65,91]⟩ w h
  rw [show (⟨#[60,33,91,67,68,65,84,65,91]⟩:S).data.toList.isPrefixOf l=false from hno2] at this; exact this
 have hlt2:([60,47]:Bs).isPrefixOf l=false:=by rw [hl]; simp only [List.isPrefixOf,beq_self_eq_true,Bool.true_and]; exact hsl
 have HC:Hid (∀ w,Rd w b s l (.slice ao L.length cap)→Calls Tryz.prog 80 #[.pointer (some ⟨b,0,none⟩),.string ⟨#[60,47]⟩] w (Qt (.bool false) w)):=fun w h=>by
  have:=has_pre b s l (.slice ao L.length cap) ⟨#[60,47]⟩ w h
  rw [show (⟨#[60,47]⟩:S).data.toList.isPrefixOf l=false from hlt2] at this; exact this
 have HD:Hid (∀ w,Rd w b s l (.slice ao L.length cap)→Calls Tryz.prog 80 #[.pointer (some ⟨b,0,none⟩),.string ⟨#[60]⟩] w (Qt (.bool true) w)):=fun w h=>by
  have:=has_pre b s l (.slice ao L.length cap) ⟨#[60]⟩ w h
  rw [show (⟨#[60]⟩:S).data.toList.isPrefixOf l=true from (by rw [hl]; rfl)] at this; exact this
 have HSUF:Hid (l' <:+ s.data.toList):=by have:=h.rd.suf; rw [hl] at this; exact suf_tail this
 have HPOS:Hid (pos s l'=pos s l+1):=by have h1:=pos_add HSUF.out; rw [hl] at hp ⊢; simp only [List.length_cons] at hp; show _=_; omega
 clear hno hno2 hl hlt2 hsl h hm;by_cases hp0:pos s l=0
 · have e0:(((pos s l:Nat):Int) == 0)=true:=by rw [hp0]; rfl
   have HIH:Hid (∀ w,Rd w b s l (.slice ao L.length cap)→Calls Tryz.prog 82 #[.pointer (some ⟨b,0,none⟩)] w (Qt (.bool false) w)):=fun w h=>by
    have:=isHead_any b s l (.slice ao L.length cap) w h hs2
    rw [show isHead l=false from hh hp0] at this; exact this
   clear hp0 hh;have hR:Rd (w.alloc (.cells #[.int .i64 0,.string ⟨#[]⟩,.slice none 0 0,.string ⟨#[]⟩,.int .i64 (pos s l),.int .i64 0,.int .i64 0] 68)) b s l (.slice ao L.length cap):=H0.out.rd.below ((Below.refl _ _).alloc (Nat.le_refl _) _);go_enter Tryz.func53,Tryz.ntmps53
   go_wp2_with fail
   refine Calls.world ?_
   intro W hW;have hx:Box W w.heap.size [.int .i64 0,.string ⟨#[]⟩,.slice none 0 0,.string ⟨#[]⟩,.int .i64 (pos s l),.int .i64 0,.int .i64 0]:=by rw [hW]; exact Box.new w _ _ _ rfl
   have hG:w.grownBy W (some b):=by rw [hW]; exact World.grownBy_alloc _ _ _
   rw [← hW] at hR;have hm:W.cell? ⟨0,0,none⟩=some (.int .i64 m):=by rw [hW,World.cell?_alloc_lt _ _ _ (by simp; omega)]; exact HM.out
   clear hW;clear c1;have c1:=hR.c1;have f1:=hR.f1;have hltW:=hR.box.lt;refine (HA.out W hR).mono ?_
   rintro e w1 ⟨rfl,n0,rfl⟩;go_wp2_with fail
   refine (HB.out _ (hR.drewN _)).mono ?_
   rintro e w1 ⟨rfl,n1,rfl⟩;go_wp2_with fail
   refine (HIH.out _ (hR.drewN _)).mono ?_
   rintro e w1 ⟨rfl,n2,rfl⟩;go_wp2_with fail
   refine (HC.out _ (hR.drewN _)).mono ?_
   rintro e w1 ⟨rfl,n3,rfl⟩;go_wp2_with fail
   refine (HD.out _ (hR.drewN _)).mono ?_
   rintro e w1 ⟨rfl,n4,rfl⟩;go_wp2_with fail
   refine Calls.world ?_
   intro W2 hW2;have hRa:Rd W2 b s l' (.slice ao L.length cap):=by rw [hW2]; exact (hR.drewN _).move HSUF.out (v:=.int .i64 ((pos s l:Int)+1)) (by rw [HPOS.out]; rfl)
   have hxa:Box W2 w.heap.size [.int .i64 0,.string ⟨#[]⟩,.slice none 0 0,.string ⟨#[]⟩,.int .i64 (pos s l),.int .i64 0,.int .i64 0]:=by rw [hW2]; exact (hx.drewN _).grownB (setCell_grown _ b 1 _) (by omega)
   have hGa:w.grownBy W2 (some b):=by rw [hW2]; exact (hG.trans (grownN _ _ _)).trans (setCell_grown _ b 1 _)
   clear hW2 hx hG hR hm c1 f1 hltW;have hcall:=rname_any b s 11 l' (.slice ao L.length cap) W2 hRa hs2;cases hcl:nameR 11 l' with
   | bad x r =>
    rw [hcl] at hcall;have HP:=Lib.hid hcl;clear hcl;have HCL:=Lib.hid hcall;clear hcall hRa hxa;go_wp2_with fail
    refine HCL.out.mono ?_
    intro e w2 hO;obtain ⟨rfl,hg⟩:Bad x s r b _ e w2:=hO;go_wp2
    rw [show openR l' = .bad x r by unfold openR; rw [HP.out]; rfl];exact ⟨rfl,rfl,below_grown (hGa.trans hg) (by omega)⟩
   | ok nm r1 =>
    rw [hcl] at hcall;have HP:=Lib.hid hcl;clear hcl;have HCL:=Lib.hid hcall;clear hcall;go_wp2_with fail
    refine HCL.out.mono ?_
    intro e w2 hO;obtain ⟨rfl,hR2,hg⟩:Goes (.string (bs nm)) b s r1 (.slice ao L.length cap) _ e w2:=hO;have hx2:=hxa.grownB hg (by omega);have hG2:=hGa.trans hg;have q1:=hx2.cell 1 _ rfl;have qf1:=hx2.free 1;have qlt:=hx2.lt;clear hxa hGa hg hRa HCL;go_wp2_with fail
    refine Calls.world ?_
    intro W4 hW4;have hx4:Box W4 w.heap.size [.int .i64 0,.string (bs nm),.slice none 0 0,.string ⟨#[]⟩,.int .i64 (pos s l),.int .i64 0,.int .i64 0]:=by rw [hW4]; exact hx2.set 1 _
    have hR4:Rd W4 b s r1 (.slice ao L.length cap):=by rw [hW4]; exact hR2.setOther (by omega) _ _
    have hG4:w.grownBy W4 (some b):=by rw [hW4]; exact grown_set hG2 (Nat.le_refl _) _ _
    clear hW4 hx2 hG2 hR2 q1 qf1 qlt;have hB4:Hid (w.heap.size<W4.heap.size):=hx4.lt;have hcall:=attrs_any b s r1 (.slice ao L.length cap) W4 hR4 hs2;cases hcl:attrsR r1 with
    | bad x r =>
     rw [hcl] at hcall;have HP2:=Lib.hid hcl;clear hcl;have HCL:=Lib.hid hcall;clear hcall hR4 hx4;go_wp2_with fail
     refine HCL.out.mono ?_
     intro e w2 hO;obtain ⟨rfl,hg⟩:Bad x s r b _ e w2:=hO;go_wp2
     rw [show openR l' = .bad x r by unfold openR; rw [HP.out]; simp only [Res.bind]; rw [HP2.out]];exact ⟨rfl,rfl,below_grown (hG4.trans hg) (by omega)⟩
    | ok ats r2 =>
     rw [hcl] at hcall;have HP2:=Lib.hid hcl;clear hcl;refine hcall.mono ?_
     clear hcall;intro e w5 hO;obtain ⟨av,⟨rfl,hR5,hg5⟩,hA5⟩ : ∃ v,Goes v b s r2 (.slice ao L.length cap) W4 e w5∧Owns W4.heap.size 139 2 atC w5 v ats:=hO;have hx5:=hx4.grownB hg5 (by omega);have hG5:=hG4.trans hg5;obtain ⟨ao5,cap5,rfl⟩:=hA5.shape;have q0:=hx5.cell 0 _ rfl;have q2:=hx5.cell 2 _ rfl;have qf0:=hx5.free 0;have qf2:=hx5.free 2;have qlt:=hx5.lt;clear hx4 hG4 hR4 hg5;go_wp2_with fail
     refine Calls.world ?_
     intro W6 hW6;have hx6:Box W6 w.heap.size [.int .i64 1,.string (bs nm),.slice ao5 ats.length cap5,.string ⟨#[]⟩,.int .i64 (pos s l),.int .i64 0,.int .i64 0]:=by rw [hW6]; exact (hx5.set 2 _).set 0 _
     have hR6:Rd W6 b s r2 (.slice ao L.length cap):=by rw [hW6]; exact (hR5.setOther (by omega) _ _).setOther (by omega) _ _
     have hG6:w.grownBy W6 (some b):=by rw [hW6]; exact grown_set (grown_set hG5 (Nat.le_refl _) _ _) (Nat.le_refl _) _ _
     have hA6:Owns W4.heap.size 139 2 atC W6 (.slice ao5 ats.length cap5) ats:=by rw [hW6]; exact (hA5.keptR (setCell_grown _ _ _ _) hB4.out).keptR (setCell_grown _ _ _ _) hB4.out
     clear hW6 hx5 hG5 hR5 hA5 q0 q2 qf0 qf2 qlt;have hhas:=has_pre b s r2 (.slice ao L.length cap) ⟨#[47]⟩ W6 hR6;rw [bs_one] at hhas;by_cases hsl:([47]:Bs).isPrefixOf r2=true
     · obtain ⟨r3,rfl⟩ : ∃ r3,r2=47::r3:=by
        obtain ⟨r3,h3⟩:=List.isPrefixOf_iff_prefix.1 hsl; exact ⟨r3,h3.symm⟩
       rw [hsl] at hhas;have HHS:=Lib.hid hhas;clear hhas hsl;have hS7:=Lib.hid (suf_tail hR6.suf);have hC7:=Lib.hid (pos_cons hR6.suf);have hpl7:=pos_lt hR6.suf;have HX6:=Lib.hid hx6;have HG6:=Lib.hid hG6;have HA6:=Lib.hid hA6;have HR6:=Lib.hid hR6;have c1:=hR6.c1;have f1:=hR6.f1;have hlt6:=hR6.box.lt;have q0:=hx6.cell 0 _ rfl;have qf0:=hx6.free 0;have qlt:=hx6.lt;clear hx6 hG6 hA6 hR6;generalize pos s (47::r3)=p7 at *;have hp7:(p7:Int)+1≤1000000:=by omega
       refine HHS.out.mono ?_
       rintro e w' ⟨rfl,n7,rfl⟩;go_wp2_with fail
       refine Calls.world ?_
       intro W8 hW8;have hx8:Box W8 w.heap.size [.int .i64 2,.string (bs nm),.slice ao5 ats.length cap5,.string ⟨#[]⟩,.int .i64 (pos s l),.int .i64 0,.int .i64 0]:=by rw [hW8]; exact ((HX6.out.drewN n7).set 0 _).grownB (setCell_grown _ _ _ _) (by omega)
       have hR8:Rd W8 b s r3 (.slice ao L.length cap):=by rw [hW8]; exact ((HR6.out.drewN n7).setOther (by omega) _ _).move hS7.out (v:=.int .i64 ((p7:Int)+1)) (by rw [hC7.out]; rfl)
       have hG8:w.grownBy W8 (some b):=by rw [hW8]; exact (grown_set (HG6.out.trans (grownN _ n7 _)) (Nat.le_refl _) _ _).trans (setCell_grown _ b _ _)
       have hA8:Owns W4.heap.size 139 2 atC W8 (.slice ao5 ats.length cap5) ats:=by
        rw [hW8]; exact ((HA6.out.keptR (grownN _ n7 (some b)) (by have:=hB4.out; omega)).keptR (setCell_grown _ _ _ _) hB4.out).keptR (setCell_grown _ b _ _) (by have:=hB4.out; omega)
       clear hW8 c1 f1 q0 qf0 qlt HX6 HG6 HA6 HR6 hlt6;have hcall:=want_any b s 62 r3 (.slice ao L.length cap) W8 hR8 hs2;cases hcl:wantC 62 r3 with
       | bad x r =>
        rw [hcl] at hcall;have HP3:=Lib.hid hcl;clear hcl;have HCL:=Lib.hid hcall;clear hcall hR8 hx8;go_wp2_with fail
        refine HCL.out.mono ?_
        intro e w2 hO;obtain ⟨rfl,hg⟩:Bad x s r b _ e w2:=hO;go_wp2
        rw [show openR l' = .bad x r by unfold openR; rw [HP.out]; simp only [Res.bind]; rw [HP2.out]; simp only; rw [HP3.out]; rfl];exact ⟨rfl,rfl,below_grown (hG8.trans hg) (by omega)⟩
       | ok u r =>
        rw [hcl] at hcall;have HP3:=Lib.hid hcl;clear hcl;refine hcall.mono ?_
        clear hcall;intro e W3 hO;obtain ⟨rfl,hR3,hg⟩:Goes (.tuple #[]) b s r (.slice ao L.length cap) _ e W3:=hO;have hx3:=hx8.grownB hg (by omega);have hG3:=hG8.trans hg;have HAV:Hid (Owns (b+1) 139 2 atC W3 (.slice ao5 ats.length cap5) ats):=(hA8.keptR hg (by have:=hB4.out; omega)).base_mono (by have:=hB4.out; omega);clear hx8 hG8 hg hR8 hA8;go_wp2
        have c2:=hR3.c2;have f2:=hR3.box.free 2;have hlt3:=hR3.box.lt;have t0:=hx3.cell 0 _ rfl;have t1:=hx3.cell 1 _ rfl;have t2:=hx3.cell 2 _ rfl;have t3:=hx3.cell 3 _ rfl;have t4:=hx3.cell 4 _ rfl;have t5:=hx3.cell 5 _ rfl;have t6:=hx3.cell 6 _ rfl;have tlt:=hx3.lt;have HT3:=Lib.hid (H0.out.kept hG3 hR3);have HR3:=Lib.hid hR3;have HG3:=Lib.hid hG3;clear hx3 hR3 hG3;have hne8:Hid (some b≠(Value.slice ao L.length cap).ownBlock):=fun e=>by have:=(HT3.out.own.lt b e.symm).1; omega
        have hbx8:Hid (Box ((W3.alloc (.cells (tkC ⟨⟨2,nm,ats,[]⟩,.slice ao5 ats.length cap5,pos s l,0,0⟩).toArray 68)).drew) b [.string s,.int .i64 (pos s r:Nat),.slice ao L.length cap]):=(HR3.out.box.alloc _).drew;have hnw : ∀ j u,(tkC ⟨⟨2,nm,ats,[]⟩,.slice ao5 ats.length cap5,pos s l,0,0⟩)[j]? = some u→((W3.alloc (.cells (tkC ⟨⟨2,nm,ats,[]⟩,.slice ao5 ats.length cap5,pos s l,0,0⟩).toArray 68)).drew).cell? ⟨W3.heap.size,j,none⟩=some u:=fun j u hu=>(Box.new W3 (tkC ⟨⟨2,nm,ats,[]⟩,.slice ao5 ats.length cap5,pos s l,0,0⟩) 68 _ rfl).cell j u hu;have hco : ∀ u ∈ tkC ⟨⟨2,nm,ats,[]⟩,.slice ao5 ats.length cap5,pos s l,0,0⟩,u.oneCell'=true:=by intro u hu; simp [tkC] at hu; rcases hu with rfl | rfl | rfl | rfl | rfl | rfl | rfl <;> rfl
        have HNW:=Lib.hid hnw;have HCO:=Lib.hid hco;have hown4:=Lib.hid ((HT3.out.own.alloc (.cells (tkC ⟨⟨2,nm,ats,[]⟩,.slice ao5 ats.length cap5,pos s l,0,0⟩).toArray 68)).drew);have hbl:Hid ((L.length+1)*88≤140737488355328):=by show _≤_; omega
        have hbs:Hid (b+1≤((W3.alloc (.cells (tkC ⟨⟨2,nm,ats,[]⟩,.slice ao5 ats.length cap5,pos s l,0,0⟩).toArray 68)).drew).heap.size):=by show _≤_; simp; omega
        have hsz4:Hid (((W3.alloc (.cells (tkC ⟨⟨2,nm,ats,[]⟩,.slice ao5 ats.length cap5,pos s l,0,0⟩).toArray 68)).drew).heap.size=W3.heap.size+1):=by show _=_; simp
        clear hnw hco;go_region_law (first | (refine step_append_one rfl (.tmp 110) (.tmp 112) 60 rfl (b+1) 68 Tryz.underlying60 info_token rfl (by decide) tkC_len (.slice ao L.length cap) L (by simp [Act.eval]) hown4.out W3.heap.size ⟨⟨2,nm,ats,[]⟩,.slice ao5 ats.length cap5,pos s l,0,0⟩ (by simp [Act.eval]) HNW.out HCO.out hbl.out (by decide) hbs.out (W3.heap.size+1) hsz4.out ?_; intro g8 cap8 w8 hown8 hgrow8 hat8 hlt8; have hb9:=Lib.hid (hbx8.out.grown hgrow8 hne8.out); have e2:=hb9.out.cell 2 _ rfl; have ef2:=hb9.out.free 2; have el2:=hb9.out.lt; have ho9:=Lib.hid hown8; have hg9:=Lib.hid hgrow8; clear hown8 hgrow8 hat8))
        all_goals
         go_end0
         rw [show openR l' = .ok ⟨2,nm,ats,[]⟩ r by unfold openR; rw [HP.out]; simp only [Res.bind]; rw [HP2.out]; simp only; rw [HP3.out]; rfl];obtain ⟨h1,h2⟩:=HT3.out.push HG3.out hlt0 (x:=⟨⟨2,nm,ats,[]⟩,.slice ao5 ats.length cap5,pos s l,0,0⟩) HAV.out hg9.out ho9.out;exact ⟨rfl,_,_,h1,h2⟩
     · have hslf:([47]:Bs).isPrefixOf r2=false:=Bool.eq_false_iff.2 hsl
       rw [hslf] at hhas;have HHS:=Lib.hid hhas
       have HSPEC:Hid (openR l'=(wantC 62 r2).map fun _=>⟨1,nm,ats,[]⟩):=by
        show _=_
        unfold openR; rw [HP.out]; simp only [Res.bind]; rw [HP2.out]; simp only;split
        · simp at hslf
        · rfl
       clear hhas hsl hslf;refine HHS.out.mono ?_
       rintro e w' ⟨rfl,n7,rfl⟩;go_wp2_with fail
       have hR8:=hR6.drewN n7;have hx8:=hx6.drewN n7;have hG8:=hG6.trans (grownN W6 n7 _);have hA8:=hA6.keptR (grownN W6 n7 (some b)) (by have:=hB4.out; omega);have hcall:=want_any b s 62 r2 (.slice ao L.length cap) (W6.drewN n7) hR8 hs2;cases hcl:wantC 62 r2 with
       | bad x r =>
        rw [hcl] at hcall;have HP3:=Lib.hid hcl;clear hcl;have HCL:=Lib.hid hcall;clear hcall hR8 hx8 hR6 hx6;refine HCL.out.mono ?_
        intro e w2 hO;obtain ⟨rfl,hg⟩:Bad x s r b _ e w2:=hO;go_wp2
        rw [show openR l' = .bad x r by rw [HSPEC.out,HP3.out]; rfl];exact ⟨rfl,rfl,below_grown (hG8.trans hg) (by omega)⟩
       | ok u r =>
        rw [hcl] at hcall;have HP3:=Lib.hid hcl;clear hcl;refine hcall.mono ?_
        clear hcall;intro e W3 hO;obtain ⟨rfl,hR3,hg⟩:Goes (.tuple #[]) b s r (.slice ao L.length cap) _ e W3:=hO;have hx3:=hx8.grownB hg (by omega);have hG3:=hG8.trans hg;have HAV:Hid (Owns (b+1) 139 2 atC W3 (.slice ao5 ats.length cap5) ats):=(hA8.keptR hg (by have:=hB4.out; omega)).base_mono (by have:=hB4.out; omega);clear hx8 hG8 hg hR8 hA8 hx6 hG6 hR6 hA6;go_wp2
        have c2:=hR3.c2;have f2:=hR3.box.free 2;have hlt3:=hR3.box.lt;have t0:=hx3.cell 0 _ rfl;have t1:=hx3.cell 1 _ rfl;have t2:=hx3.cell 2 _ rfl;have t3:=hx3.cell 3 _ rfl;have t4:=hx3.cell 4 _ rfl;have t5:=hx3.cell 5 _ rfl;have t6:=hx3.cell 6 _ rfl;have tlt:=hx3.lt;have HT3:=Lib.hid (H0.out.kept hG3 hR3);have HR3:=Lib.hid hR3;have HG3:=Lib.hid hG3;clear hx3 hR3 hG3;have hne8:Hid (some b≠(Value.slice ao L.length cap).ownBlock):=fun e=>by have:=(HT3.out.own.lt b e.symm).1; omega
        have hbx8:Hid (Box ((W3.alloc (.cells (tkC ⟨⟨1,nm,ats,[]⟩,.slice ao5 ats.length cap5,pos s l,0,0⟩).toArray 68)).drew) b [.string s,.int .i64 (pos s r:Nat),.slice ao L.length cap]):=(HR3.out.box.alloc _).drew;have hnw : ∀ j u,(tkC ⟨⟨1,nm,ats,[]⟩,.slice ao5 ats.length cap5,pos s l,0,0⟩)[j]? = some u→((W3.alloc (.cells (tkC ⟨⟨1,nm,ats,[]⟩,.slice ao5 ats.length cap5,pos s l,0,0⟩).toArray 68)).drew).cell? ⟨W3.heap.size,j,none⟩=some u:=fun j u hu=>(Box.new W3 (tkC ⟨⟨1,nm,ats,[]⟩,.slice ao5 ats.length cap5,pos s l,0,0⟩) 68 _ rfl).cell j u hu;have hco : ∀ u ∈ tkC ⟨⟨1,nm,ats,[]⟩,.slice ao5 ats.length cap5,pos s l,0,0⟩,u.oneCell'=true:=by intro u hu; simp [tkC] at hu; rcases hu with rfl | rfl | rfl | rfl | rfl | rfl | rfl <;> rfl
        have HNW:=Lib.hid hnw;have HCO:=Lib.hid hco;have hown4:=Lib.hid ((HT3.out.own.alloc (.cells (tkC ⟨⟨1,nm,ats,[]⟩,.slice ao5 ats.length cap5,pos s l,0,0⟩).toArray 68)).drew);have hbl:Hid ((L.length+1)*88≤140737488355328):=by show _≤_; omega
        have hbs:Hid (b+1≤((W3.alloc (.cells (tkC ⟨⟨1,nm,ats,[]⟩,.slice ao5 ats.length cap5,pos s l,0,0⟩).toArray 68)).drew).heap.size):=by show _≤_; simp; omega
        have hsz4:Hid (((W3.alloc (.cells (tkC ⟨⟨1,nm,ats,[]⟩,.slice ao5 ats.length cap5,pos s l,0,0⟩).toArray 68)).drew).heap.size=W3.heap.size+1):=by show _=_; simp
        clear hnw hco;go_region_law (first | (refine step_append_one rfl (.tmp 110) (.tmp 112) 60 rfl (b+1) 68 Tryz.underlying60 info_token rfl (by decide) tkC_len (.slice ao L.length cap) L (by simp [Act.eval]) hown4.out W3.heap.size ⟨⟨1,nm,ats,[]⟩,.slice ao5 ats.length cap5,pos s l,0,0⟩ (by simp [Act.eval]) HNW.out HCO.out hbl.out (by decide) hbs.out (W3.heap.size+1) hsz4.out ?_; intro g8 cap8 w8 hown8 hgrow8 hat8 hlt8; have hb9:=Lib.hid (hbx8.out.grown hgrow8 hne8.out); have e2:=hb9.out.cell 2 _ rfl; have ef2:=hb9.out.free 2; have el2:=hb9.out.lt; have ho9:=Lib.hid hown8; have hg9:=Lib.hid hgrow8; clear hown8 hgrow8 hat8))
        all_goals
         go_end0
         rw [show openR l' = .ok ⟨1,nm,ats,[]⟩ r by rw [HSPEC.out,HP3.out]; rfl];obtain ⟨h1,h2⟩:=HT3.out.push HG3.out hlt0 (x:=⟨⟨1,nm,ats,[]⟩,.slice ao5 ats.length cap5,pos s l,0,0⟩) HAV.out hg9.out ho9.out;exact ⟨rfl,_,_,h1,h2⟩
 · have e0:(((pos s l:Nat):Int) == 0)=false:=beq_eq_false_iff_ne.2 (by omega)
   clear hp0 hh;have hR:Rd (w.alloc (.cells #[.int .i64 0,.string ⟨#[]⟩,.slice none 0 0,.string ⟨#[]⟩,.int .i64 (pos s l),.int .i64 0,.int .i64 0] 68)) b s l (.slice ao L.length cap):=H0.out.rd.below ((Below.refl _ _).alloc (Nat.le_refl _) _);go_enter Tryz.func53,Tryz.ntmps53
   go_wp2_with fail
   refine Calls.world ?_
   intro W hW;have hx:Box W w.heap.size [.int .i64 0,.string ⟨#[]⟩,.slice none 0 0,.string ⟨#[]⟩,.int .i64 (pos s l),.int .i64 0,.int .i64 0]:=by rw [hW]; exact Box.new w _ _ _ rfl
   have hG:w.grownBy W (some b):=by rw [hW]; exact World.grownBy_alloc _ _ _
   rw [← hW] at hR;have hm:W.cell? ⟨0,0,none⟩=some (.int .i64 m):=by rw [hW,World.cell?_alloc_lt _ _ _ (by simp; omega)]; exact HM.out
   clear hW;clear c1;have c1:=hR.c1;have f1:=hR.f1;have hltW:=hR.box.lt;refine (HA.out W hR).mono ?_
   rintro e w1 ⟨rfl,n0,rfl⟩;go_wp2_with fail
   refine (HB.out _ (hR.drewN _)).mono ?_
   rintro e w1 ⟨rfl,n1,rfl⟩;go_wp2_with fail
   refine (HC.out _ (hR.drewN _)).mono ?_
   rintro e w1 ⟨rfl,n2,rfl⟩;go_wp2_with fail
   refine (HD.out _ (hR.drewN _)).mono ?_
   rintro e w1 ⟨rfl,n3,rfl⟩;go_wp2_with fail
   refine Calls.world ?_
   intro W2 hW2;have hRa:Rd W2 b s l' (.slice ao L.length cap):=by rw [hW2]; exact (hR.drewN _).move HSUF.out (v:=.int .i64 ((pos s l:Int)+1)) (by rw [HPOS.out]; rfl)
   have hxa:Box W2 w.heap.size [.int .i64 0,.string ⟨#[]⟩,.slice none 0 0,.string ⟨#[]⟩,.int .i64 (pos s l),.int .i64 0,.int .i64 0]:=by rw [hW2]; exact (hx.drewN _).grownB (setCell_grown _ b 1 _) (by omega)
   have hGa:w.grownBy W2 (some b):=by rw [hW2]; exact (hG.trans (grownN _ _ _)).trans (setCell_grown _ b 1 _)
   clear hW2 hx hG hR hm c1 f1 hltW;have hcall:=rname_any b s 11 l' (.slice ao L.length cap) W2 hRa hs2;cases hcl:nameR 11 l' with
   | bad x r =>
    rw [hcl] at hcall;have HP:=Lib.hid hcl;clear hcl;have HCL:=Lib.hid hcall;clear hcall hRa hxa;go_wp2_with fail
    refine HCL.out.mono ?_
    intro e w2 hO;obtain ⟨rfl,hg⟩:Bad x s r b _ e w2:=hO;go_wp2
    rw [show openR l' = .bad x r by unfold openR; rw [HP.out]; rfl];exact ⟨rfl,rfl,below_grown (hGa.trans hg) (by omega)⟩
   | ok nm r1 =>
    rw [hcl] at hcall;have HP:=Lib.hid hcl;clear hcl;have HCL:=Lib.hid hcall;clear hcall;go_wp2_with fail
    refine HCL.out.mono ?_
    intro e w2 hO;obtain ⟨rfl,hR2,hg⟩:Goes (.string (bs nm)) b s r1 (.slice ao L.length cap) _ e w2:=hO;have hx2:=hxa.grownB hg (by omega);have hG2:=hGa.trans hg;have q1:=hx2.cell 1 _ rfl;have qf1:=hx2.free 1;have qlt:=hx2.lt;clear hxa hGa hg hRa HCL;go_wp2_with fail
    refine Calls.world ?_
    intro W4 hW4;have hx4:Box W4 w.heap.size [.int .i64 0,.string (bs nm),.slice none 0 0,.string ⟨#[]⟩,.int .i64 (pos s l),.int .i64 0,.int .i64 0]:=by rw [hW4]; exact hx2.set 1 _
    have hR4:Rd W4 b s r1 (.slice ao L.length cap):=by rw [hW4]; exact hR2.setOther (by omega) _ _
    have hG4:w.grownBy W4 (some b):=by rw [hW4]; exact grown_set hG2 (Nat.le_refl _) _ _
    clear hW4 hx2 hG2 hR2 q1 qf1 qlt;have hB4:Hid (w.heap.size<W4.heap.size):=hx4.lt;have hcall:=attrs_any b s r1 (.slice ao L.length cap) W4 hR4 hs2;cases hcl:attrsR r1 with
    | bad x r =>
     rw [hcl] at hcall;have HP2:=Lib.hid hcl;clear hcl;have HCL:=Lib.hid hcall;clear hcall hR4 hx4;go_wp2_with fail
     refine HCL.out.mono ?_
     intro e w2 hO;obtain ⟨rfl,hg⟩:Bad x s r b _ e w2:=hO;go_wp2
     rw [show openR l' = .bad x r by unfold openR; rw [HP.out]; simp only [Res.bind]; rw [HP2.out]];exact ⟨rfl,rfl,below_grown (hG4.trans hg) (by omega)⟩
    | ok ats r2 =>
     rw [hcl] at hcall;have HP2:=Lib.hid hcl;clear hcl;refine hcall.mono ?_
     clear hcall;intro e w5 hO;obtain ⟨av,⟨rfl,hR5,hg5⟩,hA5⟩ : ∃ v,Goes v b s r2 (.slice ao L.length cap) W4 e w5∧Owns W4.heap.size 139 2 atC w5 v ats:=hO;have hx5:=hx4.grownB hg5 (by omega);have hG5:=hG4.trans hg5;obtain ⟨ao5,cap5,rfl⟩:=hA5.shape;have q0:=hx5.cell 0 _ rfl;have q2:=hx5.cell 2 _ rfl;have qf0:=hx5.free 0;have qf2:=hx5.free 2;have qlt:=hx5.lt;clear hx4 hG4 hR4 hg5;go_wp2_with fail
     refine Calls.world ?_
     intro W6 hW6;have hx6:Box W6 w.heap.size [.int .i64 1,.string (bs nm),.slice ao5 ats.length cap5,.string ⟨#[]⟩,.int .i64 (pos s l),.int .i64 0,.int .i64 0]:=by rw [hW6]; exact (hx5.set 2 _).set 0 _
     have hR6:Rd W6 b s r2 (.slice ao L.length cap):=by rw [hW6]; exact (hR5.setOther (by omega) _ _).setOther (by omega) _ _
     have hG6:w.grownBy W6 (some b):=by rw [hW6]; exact grown_set (grown_set hG5 (Nat.le_refl _) _ _) (Nat.le_refl _) _ _
     have hA6:Owns W4.heap.size 139 2 atC W6 (.slice ao5 ats.length cap5) ats:=by rw [hW6]; exact (hA5.keptR (setCell_grown _ _ _ _) hB4.out).keptR (setCell_grown _ _ _ _) hB4.out
     clear hW6 hx5 hG5 hR5 hA5 q0 q2 qf0 qf2 qlt;have hhas:=has_pre b s r2 (.slice ao L.length cap) ⟨#[47]⟩ W6 hR6;rw [bs_one] at hhas;by_cases hsl:([47]:Bs).isPrefixOf r2=true
     · obtain ⟨r3,rfl⟩ : ∃ r3,r2=47::r3:=by
        obtain ⟨r3,h3⟩:=List.isPrefixOf_iff_prefix.1 hsl; exact ⟨r3,h3.symm⟩
       rw [hsl] at hhas;have HHS:=Lib.hid hhas;clear hhas hsl;have hS7:=Lib.hid (suf_tail hR6.suf);have hC7:=Lib.hid (pos_cons hR6.suf);have hpl7:=pos_lt hR6.suf;have HX6:=Lib.hid hx6;have HG6:=Lib.hid hG6;have HA6:=Lib.hid hA6;have HR6:=Lib.hid hR6;have c1:=hR6.c1;have f1:=hR6.f1;have hlt6:=hR6.box.lt;have q0:=hx6.cell 0 _ rfl;have qf0:=hx6.free 0;have qlt:=hx6.lt;clear hx6 hG6 hA6 hR6;generalize pos s (47::r3)=p7 at *;have hp7:(p7:Int)+1≤1000000:=by omega
       refine HHS.out.mono ?_
       rintro e w' ⟨rfl,n7,rfl⟩;go_wp2_with fail
       refine Calls.world ?_
       intro W8 hW8;have hx8:Box W8 w.heap.size [.int .i64 2,.string (bs nm),.slice ao5 ats.length cap5,.string ⟨#[]⟩,.int .i64 (pos s l),.int .i64 0,.int .i64 0]:=by rw [hW8]; exact ((HX6.out.drewN n7).set 0 _).grownB (setCell_grown _ _ _ _) (by omega)
       have hR8:Rd W8 b s r3 (.slice ao L.length cap):=by rw [hW8]; exact ((HR6.out.drewN n7).setOther (by omega) _ _).move hS7.out (v:=.int .i64 ((p7:Int)+1)) (by rw [hC7.out]; rfl)
       have hG8:w.grownBy W8 (some b):=by rw [hW8]; exact (grown_set (HG6.out.trans (grownN _ n7 _)) (Nat.le_refl _) _ _).trans (setCell_grown _ b _ _)
       have hA8:Owns W4.heap.size 139 2 atC W8 (.slice ao5 ats.length cap5) ats:=by
        rw [hW8]; exact ((HA6.out.keptR (grownN _ n7 (some b)) (by have:=hB4.out; omega)).keptR (setCell_grown _ _ _ _) hB4.out).keptR (setCell_grown _ b _ _) (by have:=hB4.out; omega)
       clear hW8 c1 f1 q0 qf0 qlt HX6 HG6 HA6 HR6 hlt6;have hcall:=want_any b s 62 r3 (.slice ao L.length cap) W8 hR8 hs2;cases hcl:wantC 62 r3 with
       | bad x r =>
        rw [hcl] at hcall;have HP3:=Lib.hid hcl;clear hcl;have HCL:=Lib.hid hcall;clear hcall hR8 hx8;go_wp2_with fail
        refine HCL.out.mono ?_
        intro e w2 hO;obtain ⟨rfl,hg⟩:Bad x s r b _ e w2:=hO;go_wp2
        rw [show openR l' = .bad x r by unfold openR; rw [HP.out]; simp only [Res.bind]; rw [HP2.out]; simp only; rw [HP3.out]; rfl];exact ⟨rfl,rfl,below_grown (hG8.trans hg) (by omega)⟩
       | ok u r =>
        rw [hcl] at hcall;have HP3:=Lib.hid hcl;clear hcl;refine hcall.mono ?_
        clear hcall;intro e W3 hO;obtain ⟨rfl,hR3,hg⟩:Goes (.tuple #[]) b s r (.slice ao L.length cap) _ e W3:=hO;have hx3:=hx8.grownB hg (by omega);have hG3:=hG8.trans hg;have HAV:Hid (Owns (b+1) 139 2 atC W3 (.slice ao5 ats.length cap5) ats):=(hA8.keptR hg (by have:=hB4.out; omega)).base_mono (by have:=hB4.out; omega);clear hx8 hG8 hg hR8 hA8;go_wp2
        have c2:=hR3.c2;have f2:=hR3.box.free 2;have hlt3:=hR3.box.lt;have t0:=hx3.cell 0 _ rfl;have t1:=hx3.cell 1 _ rfl;have t2:=hx3.cell 2 _ rfl;have t3:=hx3.cell 3 _ rfl;have t4:=hx3.cell 4 _ rfl;have t5:=hx3.cell 5 _ rfl;have t6:=hx3.cell 6 _ rfl;have tlt:=hx3.lt;have HT3:=Lib.hid (H0.out.kept hG3 hR3);have HR3:=Lib.hid hR3;have HG3:=Lib.hid hG3;clear hx3 hR3 hG3;have hne8:Hid (some b≠(Value.slice ao L.length cap).ownBlock):=fun e=>by have:=(HT3.out.own.lt b e.symm).1; omega
        have hbx8:Hid (Box ((W3.alloc (.cells (tkC ⟨⟨2,nm,ats,[]⟩,.slice ao5 ats.length cap5,pos s l,0,0⟩).toArray 68)).drew) b [.string s,.int .i64 (pos s r:Nat),.slice ao L.length cap]):=(HR3.out.box.alloc _).drew;have hnw : ∀ j u,(tkC ⟨⟨2,nm,ats,[]⟩,.slice ao5 ats.length cap5,pos s l,0,0⟩)[j]? = some u→((W3.alloc (.cells (tkC ⟨⟨2,nm,ats,[]⟩,.slice ao5 ats.length cap5,pos s l,0,0⟩).toArray 68)).drew).cell? ⟨W3.heap.size,j,none⟩=some u:=fun j u hu=>(Box.new W3 (tkC ⟨⟨2,nm,ats,[]⟩,.slice ao5 ats.length cap5,pos s l,0,0⟩) 68 _ rfl).cell j u hu;have hco : ∀ u ∈ tkC ⟨⟨2,nm,ats,[]⟩,.slice ao5 ats.length cap5,pos s l,0,0⟩,u.oneCell'=true:=by intro u hu; simp [tkC] at hu; rcases hu with rfl | rfl | rfl | rfl | rfl | rfl | rfl <;> rfl
        have HNW:=Lib.hid hnw;have HCO:=Lib.hid hco;have hown4:=Lib.hid ((HT3.out.own.alloc (.cells (tkC ⟨⟨2,nm,ats,[]⟩,.slice ao5 ats.length cap5,pos s l,0,0⟩).toArray 68)).drew);have hbl:Hid ((L.length+1)*88≤140737488355328):=by show _≤_; omega
        have hbs:Hid (b+1≤((W3.alloc (.cells (tkC ⟨⟨2,nm,ats,[]⟩,.slice ao5 ats.length cap5,pos s l,0,0⟩).toArray 68)).drew).heap.size):=by show _≤_; simp; omega
        have hsz4:Hid (((W3.alloc (.cells (tkC ⟨⟨2,nm,ats,[]⟩,.slice ao5 ats.length cap5,pos s l,0,0⟩).toArray 68)).drew).heap.size=W3.heap.size+1):=by show _=_; simp
        clear hnw hco;go_region_law (first | (refine step_append_one rfl (.tmp 110) (.tmp 112) 60 rfl (b+1) 68 Tryz.underlying60 info_token rfl (by decide) tkC_len (.slice ao L.length cap) L (by simp [Act.eval]) hown4.out W3.heap.size ⟨⟨2,nm,ats,[]⟩,.slice ao5 ats.length cap5,pos s l,0,0⟩ (by simp [Act.eval]) HNW.out HCO.out hbl.out (by decide) hbs.out (W3.heap.size+1) hsz4.out ?_; intro g8 cap8 w8 hown8 hgrow8 hat8 hlt8; have hb9:=Lib.hid (hbx8.out.grown hgrow8 hne8.out); have e2:=hb9.out.cell 2 _ rfl; have ef2:=hb9.out.free 2; have el2:=hb9.out.lt; have ho9:=Lib.hid hown8; have hg9:=Lib.hid hgrow8; clear hown8 hgrow8 hat8))
        all_goals
         go_end0
         rw [show openR l' = .ok ⟨2,nm,ats,[]⟩ r by unfold openR; rw [HP.out]; simp only [Res.bind]; rw [HP2.out]; simp only; rw [HP3.out]; rfl];obtain ⟨h1,h2⟩:=HT3.out.push HG3.out hlt0 (x:=⟨⟨2,nm,ats,[]⟩,.slice ao5 ats.length cap5,pos s l,0,0⟩) HAV.out hg9.out ho9.out;exact ⟨rfl,_,_,h1,h2⟩
     · have hslf:([47]:Bs).isPrefixOf r2=false:=Bool.eq_false_iff.2 hsl
       rw [hslf] at hhas;have HHS:=Lib.hid hhas
       have HSPEC:Hid (openR l'=(wantC 62 r2).map fun _=>⟨1,nm,ats,[]⟩):=by
        show _=_
        unfold openR; rw [HP.out]; simp only [Res.bind]; rw [HP2.out]; simp only;split
        · simp at hslf
        · rfl
       clear hhas hsl hslf;refine HHS.out.mono ?_
       rintro e w' ⟨rfl,n7,rfl⟩;go_wp2_with fail
       have hR8:=hR6.drewN n7;have hx8:=hx6.drewN n7;have hG8:=hG6.trans (grownN W6 n7 _);have hA8:=hA6.keptR (grownN W6 n7 (some b)) (by have:=hB4.out; omega);have hcall:=want_any b s 62 r2 (.slice ao L.length cap) (W6.drewN n7) hR8 hs2;cases hcl:wantC 62 r2 with
       | bad x r =>
        rw [hcl] at hcall;have HP3:=Lib.hid hcl;clear hcl;have HCL:=Lib.hid hcall;clear hcall hR8 hx8 hR6 hx6;refine HCL.out.mono ?_
        intro e w2 hO;obtain ⟨rfl,hg⟩:Bad x s r b _ e w2:=hO;go_wp2
        rw [show openR l' = .bad x r by rw [HSPEC.out,HP3.out]; rfl];exact ⟨rfl,rfl,below_grown (hG8.trans hg) (by omega)⟩
       | ok u r =>
        rw [hcl] at hcall;have HP3:=Lib.hid hcl;clear hcl;refine hcall.mono ?_
        clear hcall;intro e W3 hO;obtain ⟨rfl,hR3,hg⟩:Goes (.tuple #[]) b s r (.slice ao L.length cap) _ e W3:=hO;have hx3:=hx8.grownB hg (by omega);have hG3:=hG8.trans hg;have HAV:Hid (Owns (b+1) 139 2 atC W3 (.slice ao5 ats.length cap5) ats):=(hA8.keptR hg (by have:=hB4.out; omega)).base_mono (by have:=hB4.out; omega);clear hx8 hG8 hg hR8 hA8 hx6 hG6 hR6 hA6;go_wp2
        have c2:=hR3.c2;have f2:=hR3.box.free 2;have hlt3:=hR3.box.lt;have t0:=hx3.cell 0 _ rfl;have t1:=hx3.cell 1 _ rfl;have t2:=hx3.cell 2 _ rfl;have t3:=hx3.cell 3 _ rfl;have t4:=hx3.cell 4 _ rfl;have t5:=hx3.cell 5 _ rfl;have t6:=hx3.cell 6 _ rfl;have tlt:=hx3.lt;have HT3:=Lib.hid (H0.out.kept hG3 hR3);have HR3:=Lib.hid hR3;have HG3:=Lib.hid hG3;clear hx3 hR3 hG3;have hne8:Hid (some b≠(Value.slice ao L.length cap).ownBlock):=fun e=>by have:=(HT3.out.own.lt b e.symm).1; omega
        have hbx8:Hid (Box ((W3.alloc (.cells (tkC ⟨⟨1,nm,ats,[]⟩,.slice ao5 ats.length cap5,pos s l,0,0⟩).toArray 68)).drew) b [.string s,.int .i64 (pos s r:Nat),.slice ao L.length cap]):=(HR3.out.box.alloc _).drew;have hnw : ∀ j u,(tkC ⟨⟨1,nm,ats,[]⟩,.slice ao5 ats.length cap5,pos s l,0,0⟩)[j]? = some u→((W3.alloc (.cells (tkC ⟨⟨1,nm,ats,[]⟩,.slice ao5 ats.length cap5,pos s l,0,0⟩).toArray 68)).drew).cell? ⟨W3.heap.size,j,none⟩=some u:=fun j u hu=>(Box.new W3 (tkC ⟨⟨1,nm,ats,[]⟩,.slice ao5 ats.length cap5,pos s l,0,0⟩) 68 _ rfl).cell j u hu;have hco : ∀ u ∈ tkC ⟨⟨1,nm,ats,[]⟩,.slice ao5 ats.length cap5,pos s l,0,0⟩,u.oneCell'=true:=by intro u hu; simp [tkC] at hu; rcases hu with rfl | rfl | rfl | rfl | rfl | rfl | rfl <;> rfl
        have HNW:=Lib.hid hnw;have HCO:=Lib.hid hco;have hown4:=Lib.hid ((HT3.out.own.alloc (.cells (tkC ⟨⟨1,nm,ats,[]⟩,.slice ao5 ats.length cap5,pos s l,0,0⟩).toArray 68)).drew);have hbl:Hid ((L.length+1)*88≤140737488355328):=by show _≤_; omega
        have hbs:Hid (b+1≤((W3.alloc (.cells (tkC ⟨⟨1,nm,ats,[]⟩,.slice ao5 ats.length cap5,pos s l,0,0⟩).toArray 68)).drew).heap.size):=by show _≤_; simp; omega
        have hsz4:Hid (((W3.alloc (.cells (tkC ⟨⟨1,nm,ats,[]⟩,.slice ao5 ats.length cap5,pos s l,0,0⟩).toArray 68)).drew).heap.size=W3.heap.size+1):=by show _=_; simp
        clear hnw hco;go_region_law (first | (refine step_append_one rfl (.tmp 110) (.tmp 112) 60 rfl (b+1) 68 Tryz.underlying60 info_token rfl (by decide) tkC_len (.slice ao L.length cap) L (by simp [Act.eval]) hown4.out W3.heap.size ⟨⟨1,nm,ats,[]⟩,.slice ao5 ats.length cap5,pos s l,0,0⟩ (by simp [Act.eval]) HNW.out HCO.out hbl.out (by decide) hbs.out (W3.heap.size+1) hsz4.out ?_; intro g8 cap8 w8 hown8 hgrow8 hat8 hlt8; have hb9:=Lib.hid (hbx8.out.grown hgrow8 hne8.out); have e2:=hb9.out.cell 2 _ rfl; have ef2:=hb9.out.free 2; have el2:=hb9.out.lt; have ho9:=Lib.hid hown8; have hg9:=Lib.hid hgrow8; clear hown8 hgrow8 hat8))
        all_goals
         go_end0
         rw [show openR l' = .ok ⟨1,nm,ats,[]⟩ r by rw [HSPEC.out,HP3.out]; rfl];obtain ⟨h1,h2⟩:=HT3.out.push HG3.out hlt0 (x:=⟨⟨1,nm,ats,[]⟩,.slice ao5 ats.length cap5,pos s l,0,0⟩) HAV.out hg9.out ho9.out;exact ⟨rfl,_,_,h1,h2⟩
theorem token_any (b:Nat) (s:S) (l:Bs) (ov:Value) (L:List TkM) (m:Int) (w:World) (h:Toks w b s l ov L) (hs:s.size≤65536) (hm:w.cell? ⟨0,0,none⟩=some (.int .i64 m)) (hL:L.length≤1000000) :
    Calls Tryz.prog 53 #[.pointer (some ⟨b,0,none⟩)] w (OutT b s (pos s l) L w (tokenR (decide (pos s l=0)) l)):=by
 obtain ⟨ao,cap,rfl⟩:=h.own.shape;by_cases h1:sNote.isPrefixOf l=true
 · have:=tok_note b s l ao cap L m w h hs hm hL h1
   unfold tokenR; rw [if_pos h1]; exact this
 · have h1':=Bool.eq_false_iff.2 h1
   by_cases h2:sData.isPrefixOf l=true
   · have:=tok_data b s l ao cap L m w h hs hm hL h1' h2
     unfold tokenR; rw [if_neg h1,if_pos h2]; exact this
   · have h2':=Bool.eq_false_iff.2 h2
     by_cases h3:(decide (pos s l=0) && isHead l)=true
     · have h4:=h3
       rw [Bool.and_eq_true,decide_eq_true_eq] at h4;have:=tok_head b s l ao cap L m w h hs hm hL h1' h2' h4.1 h4.2
       unfold tokenR; rw [if_neg h1,if_neg h2,if_pos h3]; exact this
     · have hh:pos s l=0→isHead l=false:=fun e=>by
        cases hi:isHead l
        · rfl
        · exact absurd (by simp [e,hi]) h3
       unfold tokenR; rw [if_neg h1,if_neg h2,if_neg h3];split
       · rename_i l' 
         exact tok_close b s _ ao cap L m w h hs hm hL l' rfl h1' h2' hh
       · rename_i l' hx
         refine tok_open b s _ ao cap L m w h hs hm hL l' rfl ?_ h1' h2' hh
         cases l' with
         | nil=>rfl
         | cons c r =>
          simp only [List.isPrefixOf,Bool.and_true];have:c≠47:=fun e=>hx r (by rw [e])
          simpa using Ne.symm this
       · rename_i hx hy
         refine tok_text b s _ ao cap L m w h hs hm hL h1' h2' hh ?_
         cases l with
         | nil=>rfl
         | cons c r =>
          simp only [List.isPrefixOf,Bool.and_true];have:c≠60:=fun e=>hy r (by rw [e])
          simpa using Ne.symm this
def placeV (s:Bs) (o:Nat):Value:=.agg #[.int .i64 o,.int .i64 (lineCol (s.take o)).1,.int .i64 (lineCol (s.take o)).2]
set_option maxRecDepth 100000 in
set_option maxHeartbeats 2000000 in
theorem at_any (s:S) (o:Nat) (w:World) (h:o≤s.size) (hs:s.size≤1000000) :
    Calls Tryz.prog 28 #[.string s,.int .i64 o] w fun e w'=>e = .returned (placeV s.data.toList o)∧Below w.heap.size w w':=by
 have hE:Hid ((s.extract 0 o).data.toList=s.data.toList.take o):=by show _=_; rw [Lib.extract_data]; simp
 have hz:Hid ((s.extract 0 o).size=o):=by show _=_; rw [← size_data,hE.out,List.length_take,size_data]; omega
 have HC:=Lib.hid (fun w=>count_any (s.extract 0 o) w);have HL:=Lib.hid (fun w=>lastIndex_any (s.extract 0 o) w (by rw [hz.out]; omega));rw [hE.out] at HC HL;rw [hz.out] at HL;obtain ⟨b1,b2,b3,b4⟩:=lineCol_pos (s.data.toList.take o);rw [List.length_take] at b3 b4;have b5:(lineCol (s.data.toList.take o)).1≤1000001:=by omega
 have b6:(lineCol (s.data.toList.take o)).2≤1000001:=by omega
 unfold placeV;generalize (lineCol (s.data.toList.take o)).1=li at *;generalize (lineCol (s.data.toList.take o)).2=co at *;clear b3 b4 hE;have m1:min (o:Int) (s.size:Int)=(o:Int):=by omega
 have m2:max (0:Int) (o:Int)=(o:Int):=by omega
 go_enter Tryz.func28,Tryz.ntmps28
 go_wp2_with fail
 refine (HC.out _).mono ?_
 rintro e w' ⟨rfl,rfl⟩;go_wp2_with fail
 refine (HL.out _).mono ?_
 rintro e w' ⟨rfl,rfl⟩;go_wp2
 refine bodyPost_ret (v:=.agg #[.int .i64 o,.int .i64 (1+((li:Int) - 1)),.int .i64 ((o:Int) - ((o:Int) - co))]) (by simp [results,Tryz.results28,go_sem]) rfl ⟨?_,(Below.refl _ _).alloc (Nat.le_refl _) _⟩
 rw [show 1+((li:Int) - 1)=(li:Int) by omega,show (o:Int) - ((o:Int) - co)=(co:Int) by omega]
theorem assert_fault (x o:Int) (w:World):(Instr.typeAssert (.iface 124 (.agg #[.int .i64 x,.int .i64 o])) 20 124 true).run Tryz.prog w = .ok (.tuple #[.agg #[.int .i64 x,.int .i64 o],.bool true]) w:=by kernel_rfl
set_option maxRecDepth 100000 in
set_option maxHeartbeats 4000000 in
theorem catch_panicking (B:Nat) (s:S) (x:Int) (o:Nat) (older:List PanicEntry) (v1 v2 p0 p1 p2:Value) (w:World) (ho:o≤s.size) (hs:s.size≤1000000)
    (h0:Box w B [.string s]) (h1:Box w (B+1) [v1]) (h2:Box w (B+2) [v2]) (h3:Box w (B+3) [p0,p1,p2]) :
    CallsD Tryz.prog 51 #[.pointer (some ⟨B,0,none⟩),.pointer (some ⟨B+1,0,none⟩),.pointer (some ⟨B+2,0,none⟩),.pointer (some ⟨B+3,0,none⟩)] (.panicking ({ v:=faultV x o,recovered:=false }::older)) w fun e u' w' =>
     e = .returned (.tuple #[])∧u' = .panicking ({ v:=faultV x o,recovered:=true }::older)∧Box w' (B+1) [.slice none 0 0]∧Box w' (B+2) [.int .i64 x]∧(∃ q0 q1 q2,placeV s.data.toList o = .agg #[q0,q1,q2]∧Box w' (B+3) [q0,q1,q2])∧Below B w w':=by
 refine callsD_of_wpS Tryz.func51 rfl fun c₀ cs hu=>?_
 apply wpS_seq
 apply wpS_region
 simp [wpOpsS,go_sem,recoverD,hu,Tryz.ntmps51,Exit.thenS]
 refine wpS_of_wp ?_
 have ht : ∀ a b c d v:Value,(#[a,b,c,d] ++ (Array.replicate 15 undef).setIfInBounds 3 v:Array Value)=#[a,b,c,d,undef,undef,undef,v,undef,undef,undef,undef,undef,undef,undef,undef,undef,undef,undef]:=fun _ _ _ _ _=>rfl;rw [ht];clear ht;simp only [faultV];have HAT:Hid (∀ w,Calls Tryz.prog 28 #[.string s,.int .i64 o] w fun e w'=>e = .returned (.agg #[.int .i64 o,.int .i64 (lineCol (s.data.toList.take o)).1,.int .i64 (lineCol (s.data.toList.take o)).2])∧Below w.heap.size w w'):=fun w=>at_any s o w ho hs;have hta:=assert_fault x o;have H0:=Lib.hid (And.intro h0 (And.intro h1 (And.intro h2 h3)));have l3:=h3.lt;clear h0 h1 h2 h3;generalize hli:(lineCol (s.data.toList.take o)).1=li at *;generalize hco:(lineCol (s.data.toList.take o)).2=co at *;have HLI:=Lib.hid hli;have HCO:=Lib.hid hco;clear hli hco;go_wp2
 refine wp_world ?_
 intro W hW;have hF:Box W w.heap.size [.int .i64 x,.int .i64 o]:=by rw [hW]; exact Box.new w _ _ _ rfl
 have hbW:Below w.heap.size w W:=by rw [hW]; exact (Below.refl _ _).alloc (Nat.le_refl _) _
 clear hW hta;have h0:=H0.out.1.below hbW H0.out.1.lt;have h1:=H0.out.2.1.below hbW H0.out.2.1.lt;have h2:=H0.out.2.2.1.below hbW H0.out.2.2.1.lt;have h3:=H0.out.2.2.2.below hbW H0.out.2.2.2.lt;have a0:=h0.cell 0 _ rfl;have a1:=hF.cell 0 _ rfl;have a2:=hF.cell 1 _ rfl;have a3:=h1.cell 0 _ rfl;have a4:=h2.cell 0 _ rfl;have a5:=h3.cell 0 _ rfl;have a6:=h3.cell 1 _ rfl;have a7:=h3.cell 2 _ rfl;have f3:=h1.free 0;have f4:=h2.free 0;have f5:=h3.free 0;have f6:=h3.free 1;have f7:=h3.free 2;have lF:=hF.lt;have KF:=Lib.hid hF;have K1:=Lib.hid h1;have K2:=Lib.hid h2;have K3:=Lib.hid h3;clear h0 h1 h2 h3 hF;go_region_with ((go_at_call 28; refine (HAT.out _).mono ?_; rintro e w9 ⟨rfl,hb9'⟩; have hb9:Hid (Below W.heap.size W w9):=(Below.drew (Below.refl W.heap.size W)).trans hb9'; clear hb9'; have b1:=(KF.out.below hb9.out KF.out.lt).cell 0 _ rfl; have b3:=(K1.out.below hb9.out K1.out.lt).cell 0 _ rfl; have b4:=(K2.out.below hb9.out K2.out.lt).cell 0 _ rfl; have b5:=(K3.out.below hb9.out K3.out.lt).cell 0 _ rfl; have b6:=(K3.out.below hb9.out K3.out.lt).cell 1 _ rfl; have b7:=(K3.out.below hb9.out K3.out.lt).cell 2 _ rfl; have g3:=(K1.out.below hb9.out K1.out.lt).free 0; have g4:=(K2.out.below hb9.out K2.out.lt).free 0; have g5:=(K3.out.below hb9.out K3.out.lt).free 0; have g6:=(K3.out.below hb9.out K3.out.lt).free 1; have g7:=(K3.out.below hb9.out K3.out.lt).free 2; have l9:=(K3.out.below hb9.out K3.out.lt).lt))
 all_goals
  have z1:Box (((((w9.setCell ⟨B+1,0,none⟩ (.slice none 0 0)).setCell ⟨B+2,0,none⟩ (.int .i64 x)).setCell ⟨B+3,0,none⟩ (.int .i64 o)).setCell ⟨B+3,1,none⟩ (.int .i64 li)).setCell ⟨B+3,2,none⟩ (.int .i64 co)) (B+1) [.slice none 0 0] :=
   (((((K1.out.below hb9.out K1.out.lt).set 0 _).grownB (setCell_grown _ (B+2) 0 _) (by omega)).grownB (setCell_grown _ (B+3) 0 _) (by omega)).grownB (setCell_grown _ (B+3) 1 _) (by omega)).grownB (setCell_grown _ (B+3) 2 _) (by omega)
  have z2:Box (((((w9.setCell ⟨B+1,0,none⟩ (.slice none 0 0)).setCell ⟨B+2,0,none⟩ (.int .i64 x)).setCell ⟨B+3,0,none⟩ (.int .i64 o)).setCell ⟨B+3,1,none⟩ (.int .i64 li)).setCell ⟨B+3,2,none⟩ (.int .i64 co)) (B+2) [.int .i64 x] :=
   (((((K2.out.below hb9.out K2.out.lt).grownB (setCell_grown _ (B+1) 0 _) (by omega)).set 0 _).grownB (setCell_grown _ (B+3) 0 _) (by omega)).grownB (setCell_grown _ (B+3) 1 _) (by omega)).grownB (setCell_grown _ (B+3) 2 _) (by omega)
  have z3:Box (((((w9.setCell ⟨B+1,0,none⟩ (.slice none 0 0)).setCell ⟨B+2,0,none⟩ (.int .i64 x)).setCell ⟨B+3,0,none⟩ (.int .i64 o)).setCell ⟨B+3,1,none⟩ (.int .i64 li)).setCell ⟨B+3,2,none⟩ (.int .i64 co)) (B+3) [.int .i64 o,.int .i64 li,.int .i64 co] :=
   (((((K3.out.below hb9.out K3.out.lt).grownB (setCell_grown _ (B+1) 0 _) (by omega)).grownB (setCell_grown _ (B+2) 0 _) (by omega)).set 0 _).set 1 _).set 2 _
  have z4:Below B w (((((w9.setCell ⟨B+1,0,none⟩ (.slice none 0 0)).setCell ⟨B+2,0,none⟩ (.int .i64 x)).setCell ⟨B+3,0,none⟩ (.int .i64 o)).setCell ⟨B+3,1,none⟩ (.int .i64 li)).setCell ⟨B+3,2,none⟩ (.int .i64 co)) :=
   ((((((hbW.mono (by omega)).trans (hb9.out.mono (by omega))).setCell (p:=⟨B+1,0,none⟩) (by simp) _).setCell (p:=⟨B+2,0,none⟩) (by simp) _).setCell (p:=⟨B+3,0,none⟩) (by simp) _).setCell (p:=⟨B+3,1,none⟩) (by simp) _).setCell (p:=⟨B+3,2,none⟩) (by simp) _
  exact ⟨rfl,_,rfl,.tuple #[],by simp [results,Tryz.results51,go_sem],rfl,rfl,z1,z2,⟨.int .i64 o,.int .i64 li,.int .i64 co,by unfold placeV; rw [HLI.out,HCO.out],z3⟩,z4⟩
set_option maxRecDepth 100000 in
set_option maxHeartbeats 4000000 in
theorem catch_idle (a b c d:Addr) (w:World) :
    CallsD Tryz.prog 51 #[.pointer (some a),.pointer (some b),.pointer (some c),.pointer (some d)] .returning w fun e u' w'=>e = .returned (.tuple #[])∧u' = .returning∧w'=w:=by
 refine callsD_of_wpS Tryz.func51 rfl fun c₀ cs hu=>?_
 apply wpS_seq
 apply wpS_region
 simp [wpOpsS,go_sem,recoverD,hu,Tryz.ntmps51,Exit.thenS]
 refine wpS_of_wp ?_
 have ht : ∀ a b c d v:Value,(#[a,b,c,d] ++ (Array.replicate 15 undef).setIfInBounds 3 v:Array Value)=#[a,b,c,d,undef,undef,undef,v,undef,undef,undef,undef,undef,undef,undef,undef,undef,undef,undef]:=fun _ _ _ _ _=>rfl;rw [ht];clear ht;go_wp2
 refine ⟨rfl,.returning,?_,.tuple #[],by simp [results,Tryz.results51,go_sem],rfl,rfl,rfl⟩
 cases c₀
 simp_all
structure TokSl (base:Nat) (w:World) (s:S) (ov:Value) (L:List TkM) (acc:List (Tk × Bs)):Prop where
 own:Owns base 68 7 tkC w ov L
 att : ∀ x ∈ L,Owns base 139 2 atC w x.av x.t.attrs
 is:L.map (fun x=>(x.t,x.off,x.line,x.col))=acc.map (fun p=>(p.1,(pos s p.2:Int),((lineCol (s.data.toList.take (pos s p.2))).1:Int),((lineCol (s.data.toList.take (pos s p.2))).2:Int)))
def zeroPlace:Value:=.agg #[.int .i64 0,.int .i64 0,.int .i64 0]
def AllOut (s:S) (w:World):Res (List (Tk × Bs))→Ending→World→Prop
 | .ok acc _=>fun e w'=>∃ ov L,e = .returned (.tuple #[ov,.int .i64 0,zeroPlace])∧TokSl w.heap.size w' s ov L acc∧Below w.heap.size w w'
 | .bad x r=>fun e w'=>e = .returned (.tuple #[.slice none 0 0,.int .i64 x,placeV s.data.toList (pos s r)])∧Below w.heap.size w w'
structure Vars (W:World) (B:Nat) (s:S) (v1 v2 p0 p1 p2:Value):Prop where
 x0:Box W B [.string s]
 x1:Box W (B+1) [v1]
 x2:Box W (B+2) [v2]
 x3:Box W (B+3) [p0,p1,p2]
theorem Vars.made (w:World) (s:S):Vars ((((w.alloc (.cells #[.string s] 9)).alloc (.cells #[.slice none 0 0] 60)).alloc (.cells #[.int .i64 0] 34)).alloc (.cells #[.int .i64 0,.int .i64 0,.int .i64 0] 38)) w.heap.size s (.slice none 0 0) (.int .i64 0) (.int .i64 0) (.int .i64 0) (.int .i64 0) :=
 ⟨(((Box.new w [.string s] _ _ rfl).alloc _).alloc _).alloc _,(((Box.new _ [.slice none 0 0] _ _ (by simp)).alloc _).alloc _),((Box.new _ [.int .i64 0] _ _ (by simp)).alloc _),Box.new _ [.int .i64 0,.int .i64 0,.int .i64 0] _ _ (by simp)⟩
theorem Vars.below {W W':World} {B:Nat} {s:S} {v1 v2 p0 p1 p2:Value} (h:Vars W B s v1 v2 p0 p1 p2) (hb:Below W.heap.size W W'):Vars W' B s v1 v2 p0 p1 p2 :=
 ⟨h.x0.below hb h.x0.lt,h.x1.below hb h.x1.lt,h.x2.below hb h.x2.lt,h.x3.below hb h.x3.lt⟩
theorem Vars.belowB {W W':World} {B C:Nat} {s:S} {v1 v2 p0 p1 p2:Value} (h:Vars W B s v1 v2 p0 p1 p2) (hb:Below C W W') (hC:B+3<C):Vars W' B s v1 v2 p0 p1 p2 :=
 ⟨h.x0.below hb (by omega),h.x1.below hb (by omega),h.x2.below hb (by omega),h.x3.below hb (by omega)⟩
theorem Vars.store {W:World} {B:Nat} {s:S} {v1 v2 p0 p1 p2:Value} (h:Vars W B s v1 v2 p0 p1 p2) (u1 u2 q0 q1 q2:Value):Vars (((((W.setCell ⟨B+1,0,none⟩ u1).setCell ⟨B+2,0,none⟩ u2).setCell ⟨B+3,0,none⟩ q0).setCell ⟨B+3,1,none⟩ q1).setCell ⟨B+3,2,none⟩ q2) B s u1 u2 q0 q1 q2 :=
 ⟨((((h.x0.grownB (setCell_grown _ (B+1) 0 _) (by omega)).grownB (setCell_grown _ (B+2) 0 _) (by omega)).grownB (setCell_grown _ (B+3) 0 _) (by omega)).grownB (setCell_grown _ (B+3) 1 _) (by omega)).grownB (setCell_grown _ (B+3) 2 _) (by omega),
  ((((h.x1.set 0 _).grownB (setCell_grown _ (B+2) 0 _) (by omega)).grownB (setCell_grown _ (B+3) 0 _) (by omega)).grownB (setCell_grown _ (B+3) 1 _) (by omega)).grownB (setCell_grown _ (B+3) 2 _) (by omega),
  ((((h.x2.grownB (setCell_grown _ (B+1) 0 _) (by omega)).set 0 _).grownB (setCell_grown _ (B+3) 0 _) (by omega)).grownB (setCell_grown _ (B+3) 1 _) (by omega)).grownB (setCell_grown _ (B+3) 2 _) (by omega),
  ((((h.x3.grownB (setCell_grown _ (B+1) 0 _) (by omega)).grownB (setCell_grown _ (B+2) 0 _) (by omega)).set 0 _).set 1 _).set 2 _⟩
theorem below_store {W0 W:World} {B:Nat} (h:Below B W0 W) (u1 u2 q0 q1 q2:Value):Below B W0 (((((W.setCell ⟨B+1,0,none⟩ u1).setCell ⟨B+2,0,none⟩ u2).setCell ⟨B+3,0,none⟩ q0).setCell ⟨B+3,1,none⟩ q1).setCell ⟨B+3,2,none⟩ q2) :=
 ((((h.setCell (p:=⟨B+1,0,none⟩) (by simp) _).setCell (p:=⟨B+2,0,none⟩) (by simp) _).setCell (p:=⟨B+3,0,none⟩) (by simp) _).setCell (p:=⟨B+3,1,none⟩) (by simp) _).setCell (p:=⟨B+3,2,none⟩) (by simp) _
def fillT (s:S) (x:TkM):TkM:={ x with line:=(lineCol (s.data.toList.take x.off.toNat)).1,col:=(lineCol (s.data.toList.take x.off.toNat)).2 }
theorem Vars.setHigh {W:World} {B:Nat} {s:S} {v1 v2 p0 p1 p2:Value} (h:Vars W B s v1 v2 p0 p1 p2) {g:Nat} (hg:B+3<g) (j:Nat) (u:Value):Vars (W.setCell ⟨g,j,none⟩ u) B s v1 v2 p0 p1 p2 :=
 ⟨h.x0.grownB (setCell_grown _ g j _) (by omega),h.x1.grownB (setCell_grown _ g j _) (by omega),h.x2.grownB (setCell_grown _ g j _) (by omega),h.x3.grownB (setCell_grown _ g j _) (by omega)⟩
structure Places (w wr:World) (s:S) (ao:Option Addr) (cap:Nat) (L:List TkM) (k:Nat):Prop where
 rd:Rd wr (w.heap.size+4) s [] (.slice ao L.length cap)
 vars:Vars wr w.heap.size s (.slice none 0 0) (.int .i64 0) (.int .i64 0) (.int .i64 0) (.int .i64 0)
 below:Below w.heap.size w wr
 own:Owns (w.heap.size+5) 68 7 tkC wr (.slice ao L.length cap) ((L.take k).map (fillT s) ++ L.drop k)
 att : ∀ x ∈ (L.take k).map (fillT s) ++ L.drop k,Owns (w.heap.size+5) 139 2 atC wr x.av x.t.attrs
theorem fill_get {s:S} {L:List TkM} {k:Nat} (hk:k<L.length):((L.take k).map (fillT s) ++ L.drop k)[k]? = some L[k]:=by
 rw [List.getElem?_append_right (by simp; omega)];simp [Nat.min_eq_left (Nat.le_of_lt hk)]
theorem fill_set {s:S} {L:List TkM} {k:Nat} (hk:k<L.length):((L.take k).map (fillT s) ++ L.drop k).set k (fillT s L[k])=(L.take (k+1)).map (fillT s) ++ L.drop (k+1):=by
 have hl:((L.take k).map (fillT s)).length=k:=by simp; omega
 rw [List.set_append_right _ _ (by omega),hl,Nat.sub_self,List.drop_eq_getElem_cons hk,List.set_cons_zero,List.take_succ_eq_append_getElem hk,List.map_append];simp
theorem Places.step {w wr:World} {s:S} {g cap:Nat} {L:List TkM} {k:Nat} (h:Places w wr s (some ⟨g,0,none⟩) cap L k) (hk:k<L.length) (hg:w.heap.size+5≤g) :
    Places w ((wr.setCell ⟨g,k*7+5,none⟩ (.int .i64 (fillT s L[k]).line)).setCell ⟨g,k*7+6,none⟩ (.int .i64 (fillT s L[k]).col)) s (some ⟨g,0,none⟩) cap L (k+1):=by
 have hlen:((L.take k).map (fillT s) ++ L.drop k).length=L.length:=by simp; omega
 have ho1:Owns (w.heap.size+5) 68 7 tkC wr (.slice (some ⟨g,0,none⟩) ((L.take k).map (fillT s) ++ L.drop k).length cap) ((L.take k).map (fillT s) ++ L.drop k):=by rw [hlen]; exact h.own
 obtain ⟨g1,e1,-,-,-,-,-,hst1⟩:=own_store (j:=5) tkC_len ho1 (fill_get hk) (by decide);cases e1
 have ho2:=hst1 (.int .i64 (fillT s L[k]).line) { L[k] with line:=(fillT s L[k]).line } rfl
 have hget2:(((L.take k).map (fillT s) ++ L.drop k).set k { L[k] with line:=(fillT s L[k]).line })[k]? = some { L[k] with line:=(fillT s L[k]).line }:=by
  rw [List.getElem?_set,if_pos rfl,if_pos (by rw [hlen]; exact hk)]
 obtain ⟨g2,e2,-,-,-,-,-,hst2⟩:=own_store (j:=6) tkC_len ho2 hget2 (by decide);cases e2
 have ho3:=hst2 (.int .i64 (fillT s L[k]).col) (fillT s L[k]) rfl;rw [List.set_set,fill_set hk] at ho3;have hl3:((L.take (k+1)).map (fillT s) ++ L.drop (k+1)).length=L.length:=by simp; omega
 refine ⟨(h.rd.setOther (by omega) _ _).setOther (by omega) _ _,(h.vars.setHigh (by omega) _ _).setHigh (by omega) _ _,(h.below.setCell (p:=⟨g,_,none⟩) (by simp; omega) _).setCell (p:=⟨g,_,none⟩) (by simp; omega) _,?_,?_⟩
 · rw [hlen] at ho3; exact ho3
 · intro x hx
   have hx' : ∃ y ∈ (L.take k).map (fillT s) ++ L.drop k,y.av=x.av∧y.t=x.t:=by
    rw [← fill_set hk] at hx;obtain ⟨i,hi,rfl⟩:=List.mem_iff_getElem.1 hx;rw [List.length_set] at hi;rw [List.getElem_set];split
    · exact ⟨L[k],List.mem_of_getElem? (fill_get hk),rfl,rfl⟩
    · exact ⟨_,List.getElem_mem hi,rfl,rfl⟩
   obtain ⟨y,hy,ha,ht⟩:=hx';have h1:=h.att y hy;rw [ha,ht] at h1;have hne:=own_types h1 h.own (by decide);have h2:=h1.kept (setCell_grown wr g (k*7+5) (.int .i64 (fillT s L[k]).line)) hne;exact h2.kept (setCell_grown _ g (k*7+6) (.int .i64 (fillT s L[k]).col)) hne
structure Alls (w wr:World) (s:S) (l:Bs) (ov:Value) (L:List TkM) (acc:List (Tk × Bs)) (f:Nat):Prop where
 toks:Toks wr (w.heap.size+4) s l ov L
 vars:Vars wr w.heap.size s (.slice none 0 0) (.int .i64 0) (.int .i64 0) (.int .i64 0) (.int .i64 0)
 below:Below w.heap.size w wr
 spec:allR s.data.toList=allGo f (decide (pos s l=0)) acc l
 fuel:l.length≤f
 same:L.map (fun x=>(x.t,x.off,x.line,x.col))=acc.map (fun p=>(p.1,(pos s p.2:Int),(0:Int),(0:Int)))
 falls:Falls s.data.toList acc l
 num:L.length+l.length≤s.size
theorem Alls.drewN {w wr:World} {s:S} {l:Bs} {ov:Value} {L:List TkM} {acc:List (Tk × Bs)} {f:Nat} (h:Alls w wr s l ov L acc f) (n:Nat):Alls w (wr.drewN n) s l ov L acc f :=
 ⟨h.toks.kept (grownN _ _ _) (h.toks.rd.drewN n),h.vars.below (belowN (Below.refl _ _) n),belowN h.below n,h.spec,h.fuel,h.same,h.falls,h.num⟩
theorem Alls.next {w wr w2:World} {s:S} {l r:Bs} {ov ov2 av:Value} {L:List TkM} {acc:List (Tk × Bs)} {f:Nat} {t:Tk} (h:Alls w wr s l ov L acc f) (hl:l≠[]) (ht:tokenR (decide (pos s l=0)) l = .ok t r)
    (hT:Toks w2 (w.heap.size+4) s r ov2 (L ++ [⟨t,av,pos s l,0,0⟩])) (hb:Below (w.heap.size+4) wr w2):Alls w w2 s r ov2 (L ++ [⟨t,av,pos s l,0,0⟩]) (acc ++ [(t,l)]) (f - 1):=by
 have hlt:=tokenR_less ht hl;have hsuf:=suf_of_ok (tokenR_suf _ l) ht;have hpos:0<l.length:=List.length_pos_iff.2 hl;obtain ⟨f',rfl⟩ : ∃ f',f=f'+1:=⟨f - 1,by have:=h.fuel; omega⟩;refine ⟨hT,h.vars.belowB hb (by omega),h.below.trans (hb.mono (by omega)),?_,?_,?_,h.falls.snoc h.toks.rd.suf hsuf hlt t,?_⟩
 · rw [h.spec]
   cases l with
   | nil=>exact absurd rfl hl
   | cons c l =>
    simp only [allGo];rw [ht];simp only [Nat.add_sub_cancel]
    have:decide (pos s r=0)=false:=by
     have h1:=pos_add h.toks.rd.suf;have h2:=pos_add hT.rd.suf;simp; omega
    rw [this]
 · have:=h.fuel; omega
 · rw [List.map_append,List.map_append,h.same]; rfl
 · have:=h.num; rw [List.length_append,List.length_singleton]; omega
theorem Alls.bad {w wr:World} {s:S} {l r:Bs} {ov:Value} {L:List TkM} {acc:List (Tk × Bs)} {f:Nat} {x:Int} (h:Alls w wr s l ov L acc f) (hl:l≠[]) (ht:tokenR (decide (pos s l=0)) l = .bad x r):allR s.data.toList = .bad x r:=by
 have hpos:0<l.length:=List.length_pos_iff.2 hl;obtain ⟨f',rfl⟩ : ∃ f',f=f'+1:=⟨f - 1,by have:=h.fuel; omega⟩;rw [h.spec];cases l with
 | nil=>exact absurd rfl hl
 | cons c l=>simp only [allGo]; rw [ht]
theorem Alls.done {w wr:World} {s:S} {ov:Value} {L:List TkM} {acc:List (Tk × Bs)} {f:Nat} (h:Alls w wr s [] ov L acc f):allR s.data.toList = .ok acc []:=by
 rw [h.spec]; cases f <;> rfl
theorem Alls.start {w W:World} {s:S} (hx:Box W (w.heap.size+4) [.string s,.int .i64 0,.slice none 0 0]) (hV:Vars W w.heap.size s (.slice none 0 0) (.int .i64 0) (.int .i64 0) (.int .i64 0) (.int .i64 0)) (hb:Below w.heap.size w W) :
    Alls w W s s.data.toList (.slice none 0 0) [] [] s.size:=by
 have hp:pos s s.data.toList=0:=by unfold pos; rw [size_data]; omega
 refine ⟨⟨⟨by rw [hp]; exact hx,List.suffix_refl _⟩,Owns.nil,by simp⟩,hV,hb,?_,by rw [size_data]; exact Nat.le_refl _,rfl,Falls.nil _ _,by simp⟩
 rw [hp]; unfold allR; rw [size_data]; rfl
theorem Alls.rises {w wr:World} {s:S} {ov:Value} {L:List TkM} {acc:List (Tk × Bs)} {f:Nat} (h:Alls w wr s [] ov L acc f) :
    (∀ j (hj:j<L.length),∃ o:Nat,L[j].off=o∧o<s.size) ∧ ∀ i j (hi:i<j) (hj:j<L.length),L[i].off≤L[j].off:=by
 have hlen:L.length=acc.length:=by have:=congrArg List.length h.same; simpa using this
 have hoff : ∀ j (hj:j<L.length),L[j].off=(pos s (acc[j]'(by omega)).2:Int):=fun j hj=>by
  have:=congrArg (·[j]?) h.same
  simp only [List.getElem?_map,List.getElem?_eq_getElem hj,List.getElem?_eq_getElem (show j<acc.length by omega),Option.map_some,Option.some.injEq,Prod.mk.injEq] at this;exact this.2.1
 refine ⟨fun j hj=>⟨_,hoff j hj,?_⟩,fun i j hi hj=>?_⟩
 · obtain ⟨-,h2,h3⟩:=h.falls.2 (acc[j]'(by omega)) (List.getElem_mem _)
   have:=pos_add h3
   simp at h2; omega
 · rw [hoff i (by omega),hoff j hj]
   have h1:=List.pairwise_iff_getElem.1 h.falls.1 i j (by omega) (by omega) hi;obtain ⟨-,-,h3⟩:=h.falls.2 (acc[i]'(by omega)) (List.getElem_mem _);obtain ⟨-,-,h4⟩:=h.falls.2 (acc[j]'(by omega)) (List.getElem_mem _);have:=pos_add h3
   have:=pos_add h4
   have:=h1.2
   omega
theorem Alls.places {w wr:World} {s:S} {l:Bs} {ov:Value} {L:List TkM} {acc:List (Tk × Bs)} {f:Nat} (h:Alls w wr s l ov L acc f) :
    (L.map (fillT s)).map (fun x=>(x.t,x.off,x.line,x.col))=acc.map (fun p=>(p.1,(pos s p.2:Int),((lineCol (s.data.toList.take (pos s p.2))).1:Int),((lineCol (s.data.toList.take (pos s p.2))).2:Int))):=by
 have h1:=congrArg (List.map (fun q:Tk × Int × Int × Int=>(q.1,q.2.1,((lineCol (s.data.toList.take q.2.1.toNat)).1:Int),((lineCol (s.data.toList.take q.2.1.toNat)).2:Int)))) h.same;rw [List.map_map,List.map_map] at h1;rw [List.map_map];refine Eq.trans ?_ (h1.trans ?_)
 · rfl
 · rfl
theorem own_stored {α:Type} {base E n:Nat} {C:α→List Value} {W:World} {B:Nat} {v:Value} {l:List α} (h:Owns base E n C W v l) (hB:B+3<base) (u1 u2 q0 q1 q2:Value):Owns base E n C (((((W.setCell ⟨B+1,0,none⟩ u1).setCell ⟨B+2,0,none⟩ u2).setCell ⟨B+3,0,none⟩ q0).setCell ⟨B+3,1,none⟩ q1).setCell ⟨B+3,2,none⟩ q2) v l :=
 ((((h.keptR (setCell_grown _ _ _ _) (by omega)).keptR (setCell_grown _ _ _ _) (by omega)).keptR (setCell_grown _ _ _ _) (by omega)).keptR (setCell_grown _ _ _ _) (by omega)).keptR (setCell_grown _ _ _ _) (by omega)
set_option maxRecDepth 100000 in
set_option maxHeartbeats 8000000 in
theorem all_small (s:S) (m:Int) (w:World) (hs:s.size≤65536) (hm:w.cell? ⟨0,0,none⟩=some (.int .i64 m)) :
    Calls Tryz.prog 26 #[.string s] w (AllOut s w (allR s.data.toList)):=by
 have hsi : ¬ (65536:Int)<(s.size:Int):=by omega
 have hw0:0<w.heap.size:=World.block_lt_of_cell? w _ hm;have HM:=Lib.hid hm;clear hm;have hmf : ∀ (fn:Fn) (first cap:Array Value) (w:World),(Instr.makeFunc fn first cap).run Tryz.prog w = .ok (.func fn first cap) w:=fun _ _ _ _=>rfl;go_enter_defers Tryz.func26,Tryz.ntmps26
 go_wp2
 refine wp_world ?_
 intro W hW;have hV:Vars W w.heap.size s (.slice none 0 0) (.int .i64 0) (.int .i64 0) (.int .i64 0) (.int .i64 0):=by rw [hW]; exact (Vars.made w s).below ((Below.refl _ _).alloc (Nat.le_refl _) _)
 have hB:Below w.heap.size w W:=by rw [hW]; exact (((((Below.refl _ _).alloc (Nat.le_refl _) _).alloc (by simp) _).alloc (by simp; omega) _).alloc (by simp; omega) _).alloc (by simp; omega) _
 have hx:Box W (w.heap.size+4) [.string s,.int .i64 0,.slice none 0 0]:=by rw [hW]; exact Box.new _ _ _ _ (by simp)
 have hA:=Lib.hid (Alls.start hx hV hB);clear hW hV hB hx hmf;go_loopw [] (fun wr=>∃ l ov L acc f,Alls w wr s l ov L acc f) (fun wr=>s.size - (placeOf wr (w.heap.size+4)).toNat)
 case atStart=>exact ⟨_,_,_,_,_,hA.out⟩
 case round =>
  clear hA;obtain ⟨l,ov,L,acc,f,hA⟩:=hrel;have HA:=Lib.hid hA;have hm:wr.cell? ⟨0,0,none⟩=some (.int .i64 m):=(hA.below.cell (by simpa using hw0)).trans HM.out;have hnum:=hA.num;have hlt4:=hA.toks.rd.box.lt;clear hA;by_cases hl:l=[]
  · subst hl
    have HN:Hid (Calls Tryz.prog 52 #[.pointer (some ⟨w.heap.size+4,0,none⟩)] wr (Qt (.bool true) wr)):=ends_any (w.heap.size+4) s [] ov wr HA.out.toks.rd;obtain ⟨ao,cap,rfl⟩:=HA.out.toks.own.shape;have c2:=HA.out.toks.rd.c2;go_wp2_with fail
    refine HN.out.mono ?_
    rintro e w1 ⟨rfl,n,rfl⟩;obtain ⟨hoff,hmono⟩:=HA.out.rises;have HOF:=Lib.hid hoff;have HMO:=Lib.hid hmono;have hP:Places w (wr.drewN n) s ao cap L 0:=⟨(HA.out.drewN n).toks.rd,(HA.out.drewN n).vars,(HA.out.drewN n).below,by simpa using (HA.out.drewN n).toks.own,by simpa using (HA.out.drewN n).toks.att⟩;have HP:=Lib.hid hP;have hLm:L.length≤65536:=by omega
    clear hoff hmono hP;go_wp2
    clear c2;go_loopw [6,7,8,9,32] (fun li ah _ _ i wr=>∃ k a:Nat,k≤L.length∧i = .int .i64 k∧a≤s.size∧ah = .int .i64 a∧li = .int .i64 (lineCol (s.data.toList.take a)).1∧Hid (∀ j (hj:j<L.length),k≤j→(a:Int)≤L[j].off)∧Places w wr s ao cap L k) (fun _ _ _ _ i _=>L.length - (intOf i).toNat)
    case atStart=>exact ⟨0,0,Nat.zero_le _,rfl,Nat.zero_le _,rfl,by simp [lineCol],fun j hj _=>by obtain ⟨o,h1,-⟩:=HOF.out j hj; omega,HP.out⟩
    case round =>
     clear HP;obtain ⟨k,a,hk,rfl,ha,rfl,rfl,HR,hP⟩:=hrel;have HP:=Lib.hid hP;have hltP:=hP.rd.box.lt;have c2:=hP.rd.c2;have cT:=hP.vars.x0.cell 0 _ rfl;clear hP;by_cases hkl:k<L.length
     · have hlenM:((L.take k).map (fillT s) ++ L.drop k).length=L.length:=by simp; omega
       have hown:Owns (w.heap.size+5) 68 7 tkC wr (.slice ao ((L.take k).map (fillT s) ++ L.drop k).length cap) ((L.take k).map (fillT s) ++ L.drop k):=by rw [hlenM]; exact HP.out.own
       obtain ⟨g,rfl,hg1,hg2,-,hf5,hcells,-⟩:=own_store (j:=5) tkC_len hown (fill_get hkl) (by decide);obtain ⟨g2,e2,-,-,-,hf6,-,-⟩:=own_store (j:=6) tkC_len hown (fill_get hkl) (by decide);cases e2
       have d4:=hcells 4 _ rfl;have d5:wr.cell? ⟨g,k*7+4+1,none⟩=some (.int .i64 L[k].line):=hcells 5 _ rfl;have d6:wr.cell? ⟨g,k*7+4+2,none⟩=some (.int .i64 L[k].col):=hcells 6 _ rfl;have hf5':wr.frozen? ⟨g,k*7+4+1,none⟩=false:=hf5;have hf6':wr.frozen? ⟨g,k*7+4+2,none⟩=false:=hf6;obtain ⟨o,ho,hos⟩:=HOF.out k hkl;have hao:=HR.out k hkl (Nat.le_refl _);have hao2:a≤o:=by omega
       rw [ho] at d4;have HOo:=Lib.hid ho
       have hHN:Hid (∀ j (hj:j<L.length),k+1≤j→(o:Int)≤L[j].off):=fun j hj hkj=>by
        rw [← HOo.out]; exact HMO.out k j (by omega) hj
       have hG:=Lib.hid hg1;clear hown hcells hlenM ho hao hg1 hf5 hf6;generalize hl5:L[k].line=l5 at *;generalize hl6:L[k].col=l6 at *;clear hl5 hl6;go_wp2
       go_loop [6,7] (fun li ah=>∃ a':Nat,a'≤o∧ah = .int .i64 a'∧li = .int .i64 (lineCol (s.data.toList.take a')).1) (fun _ ah=>o - (intOf ah).toNat)
       case atStart=>exact ⟨a,hao2,rfl,rfl⟩
       case round =>
        clear hao2 ha;obtain ⟨a',ha',rfl,rfl⟩:=hrel;have hb1:=(lineCol_pos (s.data.toList.take a')).2.2.1;rw [List.length_take] at hb1;have hb2:(lineCol (s.data.toList.take a')).1≤65537:=by omega
        clear hb1;by_cases hlt:a'<o
        · have has:a'<s.size:=by omega
          have hsn:s.data.toList.take (a'+1)=s.data.toList.take a' ++ [s[a']]:=by
           rw [List.take_succ_eq_append_getElem (by rw [size_data]; exact has)]; rfl
          by_cases h10:s[a']=10
          · have e1:(((s[a'].toNat:Nat):Int) == 10)=true:=by rw [h10]; decide
            have HL:Hid ((lineCol (s.data.toList.take (a'+1))).1=(lineCol (s.data.toList.take a')).1+1):=by show _=_; rw [hsn,lineCol_snoc,if_pos h10]
            clear hsn h10;generalize (lineCol (s.data.toList.take a')).1=li at *;go_wp2
            go_round
            case rel=>exact ⟨a'+1,hlt,by go_num,by rw [HL.out]; go_num⟩
            case measure=>simp [intOf]; omega
          · have e1:(((s[a'].toNat:Nat):Int) == 10)=false:=by
             rw [beq_eq_false_iff_ne]; intro e; exact h10 (UInt8.toNat_inj.1 (by simpa using (by omega:s[a'].toNat=10)))
            have HL:Hid ((lineCol (s.data.toList.take (a'+1))).1=(lineCol (s.data.toList.take a')).1):=by show _=_; rw [hsn,lineCol_snoc,if_neg h10]
            clear hsn h10;generalize (lineCol (s.data.toList.take a')).1=li at *;go_wp2
            go_round
            case rel=>exact ⟨a'+1,hlt,by go_num,by rw [HL.out]⟩
            case measure=>simp [intOf]; omega
        · obtain rfl:a'=o:=by omega
          have hex:(s.extract 0 a').data.toList=s.data.toList.take a':=by rw [Lib.extract_data]; simp
          have hez:(s.extract 0 a').size=a':=by rw [← size_data,hex,List.length_take,size_data]; omega
          have HLI:=Lib.hid (fun w=>lastIndexByte_any (s.extract 0 a') w (by rw [hez]; omega));rw [hex,hez] at HLI;have hb3:=(lineCol_pos (s.data.toList.take a')).2.2.2;rw [List.length_take] at hb3;have hb4:(lineCol (s.data.toList.take a')).2≤65537:=by omega
          have HST:=Lib.hid (HP.out.step hkl hG.out);have hfl:(fillT s L[k]).line=((lineCol (s.data.toList.take a')).1:Int):=by unfold fillT; rw [HOo.out,Int.toNat_natCast]
          have hfc:(fillT s L[k]).col=((lineCol (s.data.toList.take a')).2:Int):=by unfold fillT; rw [HOo.out,Int.toNat_natCast]
          rw [hfl,hfc] at HST;clear hex hez hb3 hfl hfc;have hi1:a'≤s.size:=by omega
          generalize hli:(lineCol (s.data.toList.take a')).1=li at *;generalize hco:(lineCol (s.data.toList.take a')).2=co at *;have HLL:=Lib.hid hli;clear hli hco;go_wp2_with fail
          refine (HLI.out _).mono ?_
          rintro e w' ⟨rfl,rfl⟩;go_wp2
          go_roundw
          case rel=>exact ⟨k+1,a',hkl,by go_num,hi1,rfl,by rw [HLL.out],hHN,by first | exact HST.out | (rw [show (a':Int) - ((a':Int) - (co:Int))=(co:Int) by omega]; exact HST.out)⟩
          case measure=>simp [intOf]; omega
     · obtain rfl:k=L.length:=by omega
       have a1:=HP.out.vars.x1.cell 0 _ rfl;have a2:=HP.out.vars.x2.cell 0 _ rfl;have a3:=HP.out.vars.x3.cell 0 _ rfl;have a4:=HP.out.vars.x3.cell 1 _ rfl;have a5:=HP.out.vars.x3.cell 2 _ rfl;have f1:=HP.out.vars.x1.free 0;have f2:=HP.out.vars.x2.free 0;have f3:=HP.out.vars.x3.free 0;have f4:=HP.out.vars.x3.free 1;have f5:=HP.out.vars.x3.free 2;have l3:=HP.out.vars.x3.lt;go_wp2
       have hV3:=HP.out.vars.store (.slice ao L.length cap) (.int .i64 0) (.int .i64 0) (.int .i64 0) (.int .i64 0);have hB3:=below_store HP.out.below (.slice ao L.length cap) (.int .i64 0) (.int .i64 0) (.int .i64 0) (.int .i64 0);have hO3:=own_stored (B:=w.heap.size) HP.out.own (by omega) (.slice ao L.length cap) (.int .i64 0) (.int .i64 0) (.int .i64 0) (.int .i64 0);have hA3:=fun x hx=>own_stored (B:=w.heap.size) (HP.out.att x hx) (by omega) (.slice ao L.length cap) (.int .i64 0) (.int .i64 0) (.int .i64 0) (.int .i64 0);rw [List.take_length,List.drop_length,List.append_nil] at hO3 hA3;clear a1 a2 a3 a4 a5 f1 f2 f3 f4 f5 l3 c2 cT;generalize (((((wr.setCell ⟨w.heap.size+1,0,none⟩ (.slice ao L.length cap)).setCell ⟨w.heap.size+2,0,none⟩ (.int .i64 0)).setCell ⟨w.heap.size+3,0,none⟩ (.int .i64 0)).setCell ⟨w.heap.size+3,1,none⟩ (.int .i64 0)).setCell ⟨w.heap.size+3,2,none⟩ (.int .i64 0))=W3 at *;rw [HA.out.done];refine leaves_cons (f:=51) (args:=#[.pointer (some ⟨w.heap.size,0,none⟩),.pointer (some ⟨w.heap.size+1,0,none⟩),.pointer (some ⟨w.heap.size+2,0,none⟩),.pointer (some ⟨w.heap.size+3,0,none⟩)]) (by simp) (by simp [go_sem]) ?_
       refine (catch_idle _ _ _ _ W3).mono ?_
       rintro e u' w4 ⟨rfl,rfl,rfl⟩;have a1:=hV3.x1.cell 0 _ rfl;have a2:=hV3.x2.cell 0 _ rfl;have a3:=hV3.x3.cell 0 _ rfl;have a4:=hV3.x3.cell 1 _ rfl;have a5:=hV3.x3.cell 2 _ rfl;refine ⟨.tuple #[.slice ao L.length cap,.int .i64 0,zeroPlace],?_,_,L.map (fillT s),rfl,⟨hO3.base_mono (by omega),fun x hx=>(hA3 x hx).base_mono (by omega),HA.out.places⟩,hB3⟩
       clear hV3 hB3 hO3 hA3;simp [results,Tryz.results26,go_sem,a1,a2,a3,a4,a5,zeroPlace]
  · have HN:Hid (Calls Tryz.prog 52 #[.pointer (some ⟨w.heap.size+4,0,none⟩)] wr (Qt (.bool false) wr)):=by
     have:=ends_any (w.heap.size+4) s l ov wr HA.out.toks.rd
     rw [show l.isEmpty=false by cases l with | nil=>exact absurd rfl hl | cons c r=>rfl] at this; exact this
    have hcall:=fun n=>token_any (w.heap.size+4) s l ov L m (wr.drewN n) (HA.out.drewN n).toks hs hm (by omega);have HL:=Lib.hid hl;clear hl;cases ht:tokenR (decide (pos s l=0)) l with
    | bad x r =>
     rw [ht] at hcall;have HCL:=Lib.hid hcall;have HT:=Lib.hid ht;clear hcall ht;go_wp2_with fail
     refine HN.out.mono ?_
     rintro e w1 ⟨rfl,n,rfl⟩;go_wp2_with fail
     refine (HCL.out n).mono ?_
     intro e w2 hO;obtain ⟨rfl,hb⟩:e = .panicked [{ v:=faultV x (pos s r),recovered:=false }]∧Below (w.heap.size+4) _ w2:=hO;go_wp2
     rw [HA.out.bad HL.out HT.out];have hV2:=(HA.out.drewN n).vars.belowB hb (by omega);have hB2:=(HA.out.drewN n).below.trans (hb.mono (by omega));have hpr:pos s r≤s.size:=by unfold pos; omega
     clear hb HCL HN;refine leaves_cons (f:=51) (args:=#[.pointer (some ⟨w.heap.size,0,none⟩),.pointer (some ⟨w.heap.size+1,0,none⟩),.pointer (some ⟨w.heap.size+2,0,none⟩),.pointer (some ⟨w.heap.size+3,0,none⟩)]) (by simp) (by simp [go_sem]) ?_
     refine (catch_panicking w.heap.size s x (pos s r) [] _ _ _ _ _ w2 hpr (by omega) hV2.x0 hV2.x1 hV2.x2 hV2.x3).mono ?_
     rintro e u' w3 ⟨rfl,rfl,hx1,hx2,⟨q0,q1,q2,hq,hx3⟩,hb3⟩;have a1:=hx1.cell 0 _ rfl;have a2:=hx2.cell 0 _ rfl;have a3:=hx3.cell 0 _ rfl;have a4:=hx3.cell 1 _ rfl;have a5:=hx3.cell 2 _ rfl;have hB3:=hB2.trans hb3;clear hx1 hx2 hx3 hb3 hB2 hV2;refine ⟨.tuple #[.slice none 0 0,.int .i64 x,placeV s.data.toList (pos s r)],?_,rfl,hB3⟩
     rw [hq];simp [results,Tryz.results26,go_sem,a1,a2,a3,a4,a5]
    | ok t r =>
     rw [ht] at hcall;have HCL:=Lib.hid hcall;have HT:=Lib.hid ht;clear hcall ht;go_wp2_with fail
     refine HN.out.mono ?_
     rintro e w1 ⟨rfl,n,rfl⟩;go_wp2_with fail
     refine (HCL.out n).mono ?_
     intro e w2 hO;obtain ⟨rfl,ov2,av,hT2,hb⟩:e = .returned (.tuple #[]) ∧ ∃ ov2 av,Toks w2 (w.heap.size+4) s r ov2 (L ++ [(⟨t,av,((pos s l:Nat):Int),0,0⟩:TkM)])∧Below (w.heap.size+4) (wr.drewN n) w2:=hO;have hnew:=(HA.out.drewN n).next HL.out HT.out hT2 hb;clear hT2 hb HCL HN;go_wp2
     go_roundw
     case rel=>exact ⟨_,_,_,_,_,hnew⟩
     case measure =>
      rw [HA.out.toks.rd.place,hnew.toks.rd.place];have:=pos_add HA.out.toks.rd.suf
      have:=pos_add hnew.toks.rd.suf
      have:=tokenR_less HT.out HL.out
      omega
theorem TokSl.len {base:Nat} {w:World} {s:S} {ov:Value} {L:List TkM} {acc:List (Tk × Bs)} (h:TokSl base w s ov L acc):L.length=acc.length:=by
 have:=congrArg List.length h.is; simpa using this
theorem TokSl.at {base:Nat} {w:World} {s:S} {ov:Value} {L:List TkM} {acc:List (Tk × Bs)} (h:TokSl base w s ov L acc) {i:Nat} {t:Tk} {r:Bs} (hi:acc[i]? = some (t,r)) :
    ∃ g o cap av,ov = .slice (some ⟨g,o,none⟩) acc.length cap∧g<w.heap.size∧w.cell? ⟨g,o+i*7,none⟩=some (.int .i64 t.kind)∧w.cell? ⟨g,o+i*7+1,none⟩=some (.string (bs t.name))∧w.cell? ⟨g,o+i*7+2,none⟩=some av∧w.cell? ⟨g,o+i*7+3,none⟩=some (.string (bs t.text)) ∧
     w.cell? ⟨g,o+i*7+4,none⟩=some (.int .i64 (pos s r:Nat))∧w.cell? ⟨g,o+i*7+5,none⟩=some (.int .i64 (lineCol (s.data.toList.take (pos s r))).1)∧w.cell? ⟨g,o+i*7+6,none⟩=some (.int .i64 (lineCol (s.data.toList.take (pos s r))).2)∧Owns base 139 2 atC w av t.attrs:=by
 have hl:=h.len;have hlt:i<L.length:=by rw [hl]; exact (List.getElem?_eq_some_iff.1 hi).1
 have his:=congrArg (·[i]?) h.is;simp only [List.getElem?_map,List.getElem?_eq_getElem hlt,hi,Option.map_some,Option.some.injEq,Prod.mk.injEq] at his;obtain ⟨h1,h2,h3,h4⟩:=his;obtain ⟨ao,cap,rfl⟩:=h.own.shape;obtain ⟨g,o,rfl,hg,hc⟩:=(h.own.slice tkC_len).at hlt;have ha:=h.att L[i] (List.getElem_mem hlt);rw [h1] at ha;refine ⟨g,o,cap,L[i].av,by rw [hl],hg,?_,?_,hc 2 _ rfl,?_,?_,?_,?_,ha⟩
 · rw [← h1]; simpa using hc 0 _ rfl
 · rw [← h1]; exact hc 1 _ rfl
 · rw [← h1]; exact hc 3 _ rfl
 · rw [← h2]; exact hc 4 _ rfl
 · rw [← h3]; exact hc 5 _ rfl
 · rw [← h4]; exact hc 6 _ rfl
theorem all_ok (s:S) (m:Int) (w:World) {acc:List (Tk × Bs)} {r:Bs} (hs:s.size≤65536) (hm:w.cell? ⟨0,0,none⟩=some (.int .i64 m)) (h:allR s.data.toList = .ok acc r) :
    Calls Tryz.prog 26 #[.string s] w (AllOut s w (.ok acc r)):=by rw [← h]; exact all_small s m w hs hm
theorem all_bad (s:S) (m:Int) (w:World) {x:Int} {r:Bs} (hs:s.size≤65536) (hm:w.cell? ⟨0,0,none⟩=some (.int .i64 m)) (h:allR s.data.toList = .bad x r) :
    Calls Tryz.prog 26 #[.string s] w (AllOut s w (.bad x r)):=by rw [← h]; exact all_small s m w hs hm
end Go.Proofs.YtecffghcpknmjaaGreatDoor
namespace Go.Proofs.YtecffghcpknmjaaGreatDoor
open Go Go.RowKit
variable {lo:Nat}
theorem stepB_bad {st:BSt} {t:Tk} {x:Int} (h:stepB st t = .bad x):x≠0:=by
 have hb : ∀ {y:Int},beginB st t = .bad y→y≠0:=fun hy=>by rcases beginB_bad hy with rfl | rfl <;> decide
 unfold stepB at h;split at h
 · unfold lettersB at h
   split at h
   · split at h
     · cases h
     · cases h; decide
   · split at h
     · cases h
     · split at h
       · cases h
       · split at h
         · cases h; decide
         · cases h
 · split at h
   · exact hb h
   · split at h
     · cases hB:beginB st t with
       | bad y=>rw [hB] at h; cases h; exact hb hB
       | ok st' =>
        rw [hB,beginB_ok hB] at h;cases h
     · split at h
       · unfold endB at h
         split at h
         · cases h; decide
         · split at h
           · cases h
           · cases h; decide
       · cases h
theorem tokenR_kinds {first:Bool} {l:Bs} {t:Tk} {r:Bs} (h:tokenR first l = .ok t r):t.kind=1∨t.kind=2∨t.kind=3∨t.kind=4∨t.kind=5∨t.kind=6:=by
 have hm : ∀ {α:Type} {x:Res α} {f:α→Tk} {k:Int} {t:Tk} {r:Bs},(∀ a,(f a).kind=k)→x.map f = .ok t r→t.kind=k:=by
  intro α x f k t r hf hx;cases x with
  | ok a r'=>simp only [Res.map,Res.ok.injEq] at hx; rw [← hx.1]; exact hf a
  | bad e r'=>simp [Res.map] at hx
 unfold tokenR at h;split at h
 · exact .inr (.inr (.inr (.inr (.inl (hm (fun _=>rfl) h)))))
 · split at h
   · exact .inr (.inr (.inr (.inl (hm (fun _=>rfl) h))))
   · split at h
     · exact .inr (.inr (.inr (.inr (.inr (hm (fun _=>rfl) h)))))
     · split at h
       · exact .inr (.inr (.inl (closeR_kind h)))
       · rcases openR_kind h with e | e
         · exact .inl e
         · exact .inr (.inl e)
       · exact .inr (.inr (.inr (.inl (hm (fun _=>rfl) h))))
theorem tksW_len2 (l:List Tk):20*l.length≤tksW l:=by
 induction l with
 | nil=>simp [tksW]
 | cons t l ih =>
  simp only [tksW,List.map_cons,List.sum_cons,List.length_cons] at ih ⊢;unfold tkW at *;omega
theorem toks_small {T:Bs} {acc:List (Tk × Bs)} {r:Bs} (h:allR T = .ok acc r) (hT:T.length≤65536):acc.length≤100000∧(∀ k (hk:k<acc.length),acc[k].1.text.length≤2000000) ∧ ∀ k (hk:k<acc.length),acc[k].1.kind=1∨acc[k].1.kind=2∨acc[k].1.kind=3∨acc[k].1.kind=4∨acc[k].1.kind=5∨acc[k].1.kind=6:=by
 have h1:=(allR_eat h).2;have h2:=tksW_len2 (acc.map (·.1));rw [List.length_map] at h2;refine ⟨by omega,fun k hk=>?_,fun k hk=>?_⟩
 · have h3:=tksW_get (l:=acc.map (·.1)) (k:=k) (by simpa using hk)
   rw [List.getElem_map] at h3;unfold tkW at h3;omega
 · obtain ⟨-,first,r',h4⟩:=(allR_facts h).2.2.1 acc[k] (List.getElem_mem hk)
   exact tokenR_kinds h4
def nodeV (t:Tr) (av kv:Value):Value:=.agg #[.string (bs t.name),av,kv,.string (bs t.text)]
def noNode:Value:=.agg #[.string ⟨#[]⟩,.slice none 0 0,.slice none 0 0,.string ⟨#[]⟩]
def BuildOut (s:S) (w:World):Res Tr→Ending→World→Prop
 | .ok t _=>fun e w'=>∃ av kv,e = .returned (.tuple #[nodeV t av kv,.int .i64 0,zeroPlace])∧NodeOf w' t av kv∧Below w.heap.size w w'
 | .bad x r=>fun e w'=>e = .returned (.tuple #[noNode,.int .i64 x,placeV s.data.toList (pos s r)])∧Below w.heap.size w w'
def TokAt (lo B:Nat) (w:World) (s:S) (ov:Value) (acc:List (Tk × Bs)):Prop :=
 (∃ ao cap,ov = .slice ao acc.length cap) ∧ ∀ i t r,acc[i]? = some (t,r) → ∃ g o cap av,ov = .slice (some ⟨g,o,none⟩) acc.length cap∧g<B∧w.cell? ⟨g,o+i*7,none⟩=some (.int .i64 t.kind)∧w.cell? ⟨g,o+i*7+1,none⟩=some (.string (bs t.name))∧w.cell? ⟨g,o+i*7+2,none⟩=some av∧w.cell? ⟨g,o+i*7+3,none⟩=some (.string (bs t.text)) ∧
  w.cell? ⟨g,o+i*7+4,none⟩=some (.int .i64 (pos s r:Nat))∧w.cell? ⟨g,o+i*7+5,none⟩=some (.int .i64 (lineCol (s.data.toList.take (pos s r))).1)∧w.cell? ⟨g,o+i*7+6,none⟩=some (.int .i64 (lineCol (s.data.toList.take (pos s r))).2)∧AttB lo B w av t.attrs
theorem TokAt.of {base B:Nat} {w:World} {s:S} {ov:Value} {L:List TkM} {acc:List (Tk × Bs)} (h:TokSl base w s ov L acc) (hl:lo≤base) (hB:w.heap.size≤B):TokAt lo B w s ov acc:=by
 refine ⟨?_,fun i t r hi=>?_⟩
 · obtain ⟨ao,cap,e⟩:=h.own.shape
   exact ⟨ao,cap,by rw [e,h.len]⟩
 · obtain ⟨g,o,cap,av,e,hg,c0,c1,c2,c3,c4,c5,c6,ha⟩:=h.at hi
   exact ⟨g,o,cap,av,e,by omega,c0,c1,c2,c3,c4,c5,c6,ha.toX atC_len (fun k hk hx=>by have:=ha.lt k hk; omega)⟩
theorem TokAt.mono {B B':Nat} {w:World} {s:S} {ov:Value} {acc:List (Tk × Bs)} (h:TokAt lo B w s ov acc) (hB:B≤B'):TokAt lo B' w s ov acc:=by
 refine ⟨h.1,fun i t r hi=>?_⟩
 obtain ⟨g,o,cap,av,e,hg,c0,c1,c2,c3,c4,c5,c6,ha⟩:=h.2 i t r hi;exact ⟨g,o,cap,av,e,by omega,c0,c1,c2,c3,c4,c5,c6,SliceX.keep ha (KeptX.refl _ _) (fun k _ hk=>hk.imp (fun hk=>Nat.le_trans hB hk) id)⟩
theorem TokAt.below {B:Nat} {w w':World} {s:S} {ov:Value} {acc:List (Tk × Bs)} (h:TokAt lo B w s ov acc) (hb:Below B w w'):TokAt lo B w' s ov acc:=by
 refine ⟨h.1,fun i t r hi=>?_⟩
 obtain ⟨g,o,cap,av,e,hg,c0,c1,c2,c3,c4,c5,c6,ha⟩:=h.2 i t r hi;have hc : ∀ j,w'.cell? ⟨g,j,none⟩=w.cell? ⟨g,j,none⟩:=fun j=>hb.cell (p:=⟨g,j,none⟩) (by exact hg);exact ⟨g,o,cap,av,e,hg,(hc _).trans c0,(hc _).trans c1,(hc _).trans c2,(hc _).trans c3,(hc _).trans c4,(hc _).trans c5,(hc _).trans c6,ha.below hb⟩
end Go.Proofs.YtecffghcpknmjaaGreatDoor
namespace Go.Proofs.YtecffghcpknmjaaGreatDoor
open Go Go.RowKit
def Says (p:Prop) (w:World) (e:Ending) (w':World):Prop:=∃ z:Bool,e = .returned (.bool z)∧(z=true↔p)∧Below w.heap.size w w'
theorem kid_less {t:Tr} {k:Nat} (h:k<t.kids.length):SizeOf.sizeOf t.kids[k]<SizeOf.sizeOf t:=by
 obtain ⟨n,l,ks,x⟩:=t;have:=List.sizeOf_lt_of_mem (List.getElem_mem (l:=ks) h)
 simp only [Tr.mk.sizeOf_spec,Tr.kids] at this ⊢;omega
theorem NodeX.kid {X:Nat→Prop} {w:World} {t:Tr} {av kv:Value} (h:NodeX X w t av kv) : ∃ ao cap,kv = .slice ao t.kids.length cap∧t.kids.length≤maxLen ∧ ∀ k (hk:k<t.kids.length),∃ g o a b,ao=some ⟨g,o,none⟩∧g<w.heap.size∧w.cell? ⟨g,o+k*4,none⟩=some (.string (bs t.kids[k].name))∧w.cell? ⟨g,o+k*4+1,none⟩=some a∧w.cell? ⟨g,o+k*4+2,none⟩=some b∧w.cell? ⟨g,o+k*4+3,none⟩=some (.string (bs t.kids[k].text))∧NodeX X w t.kids[k] a b:=by
 obtain ⟨L,his,-,ho,hn⟩:=h.parts;obtain ⟨ao,cap,h1,h2,h3,h4,h5⟩:=ho;have hl:L.length=t.kids.length:=by rw [← his]; simp
 refine ⟨ao,cap,by rw [h1,hl],by omega,fun k hk=>?_⟩
 have hkL:k<L.length:=by omega
 obtain ⟨g,o,e1,e2,-,e3⟩:=h5 k L[k] (List.getElem?_eq_getElem hkL)
 have hkid:t.kids[k]=L[k].1:=by
  have:(L.map (·.1))[k]'(by simpa using hkL)=L[k].1:=by simp
  rw [← this];congr 1
  exact his.symm
 refine ⟨g,o,L[k].2.1,L[k].2.2,e1,e2,?_,e3 1 _ rfl,e3 2 _ rfl,?_,?_⟩
 · rw [hkid]; simpa using e3 0 _ rfl
 · rw [hkid]; exact e3 3 _ rfl
 · rw [hkid]; exact hn _ (List.getElem_mem hkL)
theorem NodeX.att {X:Nat→Prop} {w:World} {t:Tr} {av kv:Value} (h:NodeX X w t av kv):SliceOf 2 atC w av t.attrs:=by
 obtain ⟨_,-,h1,-⟩:=h.parts;exact h1.slice
end Go.Proofs.YtecffghcpknmjaaGreatDoor
namespace Go.Proofs.YtecffghcpknmjaaGreatDoor
open Go Go.RowKit
mutual
def Tr.cnt:Tr→Nat
 | .mk _ _ ks _=>1+Tr.cntL ks
def Tr.cntL:List Tr→Nat
 | []=>0
 | t::l=>t.cnt+Tr.cntL l
end
theorem Tr.cnt_eq (t:Tr):t.cnt=1+Tr.cntL t.kids:=by cases t; rw [Tr.cnt]; rfl
theorem cntL_append : ∀ (l m:List Tr),Tr.cntL (l ++ m)=Tr.cntL l+Tr.cntL m
 | [],m=>by simp [Tr.cntL]
 | t::l,m=>by rw [List.cons_append,Tr.cntL,Tr.cntL,cntL_append l m]; omega
theorem cntL_take (l:List Tr) (k:Nat) (h:k<l.length):Tr.cntL (l.take (k+1))=Tr.cntL (l.take k)+l[k].cnt:=by
 rw [List.take_succ_eq_append_getElem h,cntL_append]; simp [Tr.cntL]
inductive LightT:Tr→Prop where
 | mk {n:Bs} {ats:List At2} {ks:List Tr} {x:Bs} (hn:n.length≤1000) (hx:x.length≤1000) (hal:ats.length≤20) (ha : ∀ a ∈ ats,a.1.length≤1000∧a.2.length≤1000) (hkl:ks.length≤300) (hk : ∀ k ∈ ks,LightT k):LightT (.mk n ats ks x)
theorem LightT.of {t:Tr} (hn:t.name.length≤1000) (hx:t.text.length≤1000) (hal:t.attrs.length≤20) (ha : ∀ a ∈ t.attrs,a.1.length≤1000∧a.2.length≤1000) (hkl:t.kids.length≤300) (hk : ∀ k ∈ t.kids,LightT k):LightT t:=by
 cases t; exact .mk hn hx hal ha hkl hk
theorem LightT.name {t:Tr} (h:LightT t):t.name.length≤1000:=by cases h; assumption
theorem LightT.text {t:Tr} (h:LightT t):t.text.length≤1000:=by cases h; assumption
theorem LightT.attrs {t:Tr} (h:LightT t) : ∀ a ∈ t.attrs,a.1.length≤1000∧a.2.length≤1000:=by cases h; assumption
theorem LightT.kids {t:Tr} (h:LightT t) : ∀ k ∈ t.kids,LightT k:=by cases h; assumption
theorem NodeX.attX {X:Nat→Prop} {w:World} {t:Tr} {av kv:Value} (h:NodeX X w t av kv):SliceX 2 atC X w av t.attrs:=by
 obtain ⟨_,-,h1,-⟩:=h.parts;exact h1
theorem NodeX.kid2 {X:Nat→Prop} {w:World} {t:Tr} {av kv:Value} (h:NodeX X w t av kv) : ∃ ao cap,kv = .slice ao t.kids.length cap∧t.kids.length≤maxLen ∧ ∀ k (hk:k<t.kids.length),∃ g o a b,ao=some ⟨g,o,none⟩∧g<w.heap.size ∧ ¬ X g∧w.cell? ⟨g,o+k*4,none⟩=some (.string (bs t.kids[k].name))∧w.cell? ⟨g,o+k*4+1,none⟩=some a∧w.cell? ⟨g,o+k*4+2,none⟩=some b∧w.cell? ⟨g,o+k*4+3,none⟩=some (.string (bs t.kids[k].text))∧NodeX X w t.kids[k] a b ∧ ∃ a1 a2 a3 a4,a = .slice a1 t.kids[k].attrs.length a2∧b = .slice a3 t.kids[k].kids.length a4:=by
 obtain ⟨L,his,-,ho,hn⟩:=h.parts;obtain ⟨ao,cap,h1,h2,h3,h4,h5⟩:=ho;have hl:L.length=t.kids.length:=by rw [← his]; simp
 refine ⟨ao,cap,by rw [h1,hl],by omega,fun k hk=>?_⟩
 have hkL:k<L.length:=by omega
 obtain ⟨g,o,e1,e2,e2',e3⟩:=h5 k L[k] (List.getElem?_eq_getElem hkL)
 have hkid:t.kids[k]=L[k].1:=by
  have:(L.map (·.1))[k]'(by simpa using hkL)=L[k].1:=by simp
  rw [← this];congr 1
  exact his.symm
 have hnk:=hn _ (List.getElem_mem hkL);refine ⟨g,o,L[k].2.1,L[k].2.2,e1,e2,e2',?_,e3 1 _ rfl,e3 2 _ rfl,?_,?_,?_⟩
 · rw [hkid]; simpa using e3 0 _ rfl
 · rw [hkid]; exact e3 3 _ rfl
 · rw [hkid]; exact hnk
 · rw [hkid]
   obtain ⟨a1,a2,e1⟩:=hnk.att.shape;obtain ⟨a3,a4,e2,-⟩:=hnk.kid;exact ⟨a1,a2,a3,a4,e1,e2⟩
end Go.Proofs.YtecffghcpknmjaaGreatDoor
