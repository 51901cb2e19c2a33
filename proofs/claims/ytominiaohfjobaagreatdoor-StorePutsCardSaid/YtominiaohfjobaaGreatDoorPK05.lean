/- The walk of the program's reader's token where it reads letters; the conditions stand in the theorem. -/
import Derived.Test.YtominiaohfjobaaGreatDoorPK03
import Derived.Defers
import Derived.Recover
import Derived.Laws.Pointers
import Derived.Test.YtominiaohfjobaaGreatDoorPK04
set_option maxRecDepth 100000
set_option maxHeartbeats 64000000
namespace Go.Proofs.YtominiaohfjobaaGreatDoor
open Go Go.RowKit
theorem xJ (b:Nat) (s:S) (l:Bs) (ao:Option Addr) (cap:Nat) (L:List kp) (m:Int) (w:World) (h:jJ w b s l (.slice ao L.length cap) L) (hs:s.size≤65536) (hm:w.cell? ⟨0,0,none⟩=some (.int .i64 m)) (hL:L.length≤1000000)
    (d5:iT.isPrefixOf l=false) (co:ld.isPrefixOf l=false) (hh:aB s l=0→da l=false) (hlt:([60]:Bs).isPrefixOf l=false) :
    Calls Tryz.prog 121 #[.pointer (some ⟨b,0,none⟩)] w (uE b s (aB s l) L w ((bA 60 l).map fun t=>⟨4,[],[],t⟩)):=by
 have c8:=h.rd.box.lt;have c1:=h.rd.c1;have H0:=zH h;have d4:s.size≤1000000:=by omega
 have HM:=zH hm;have hp:=aT h.rd.suf;have gv:(aB s l:Int)≤65536:=by omega
 have HA:Hid (∀ w,Rd w b s l (.slice ao L.length cap)→Calls Tryz.prog 149 #[.pointer (some ⟨b,0,none⟩),.string ⟨#[60,33,45,45]⟩] w (Qt (.bool false) w)):=fun w h=>by
  have:=bQ b s l (.slice ao L.length cap) ⟨#[60,33,45,45]⟩ w h
  rw [show (⟨#[60,33,45,45]⟩:S).data.toList.isPrefixOf l=false from d5] at this; exact this
 have HB:Hid (∀ w,Rd w b s l (.slice ao L.length cap)→Calls Tryz.prog 149 #[.pointer (some ⟨b,0,none⟩),.string ⟨#[60,33,91,67,68,65,84,65,91]⟩] w (Qt (.bool false) w)):=fun w h=>by
  have:=bQ b s l (.slice ao L.length cap) ⟨#[60,33,91,67,68,65,84,65,91]⟩ w h
  rw [show (⟨#[60,33,91,67,68,65,84,65,91]⟩:S).data.toList.isPrefixOf l=false from co] at this; exact this
 have HD:Hid (∀ w,Rd w b s l (.slice ao L.length cap)→Calls Tryz.prog 149 #[.pointer (some ⟨b,0,none⟩),.string ⟨#[60]⟩] w (Qt (.bool false) w)):=fun w h=>by
  have:=bQ b s l (.slice ao L.length cap) ⟨#[60]⟩ w h
  rw [show (⟨#[60]⟩:S).data.toList.isPrefixOf l=false from hlt] at this; exact this
 have cT:([60,47]:Bs).isPrefixOf l=false:=by
  cases l with
  | nil=>rfl
  | cons c r=>simp only [List.isPrefixOf,Bool.and_true] at hlt ⊢; rw [hlt]; rfl
 have HC:Hid (∀ w,Rd w b s l (.slice ao L.length cap)→Calls Tryz.prog 149 #[.pointer (some ⟨b,0,none⟩),.string ⟨#[60,47]⟩] w (Qt (.bool false) w)):=fun w h=>by
  have:=bQ b s l (.slice ao L.length cap) ⟨#[60,47]⟩ w h
  rw [show (⟨#[60,47]⟩:S).data.toList.isPrefixOf l=false from cT] at this; exact this
 have HU:Hid (∀ w,Rd w b s l (.slice ao L.length cap)→Calls Tryz.prog 156 #[.pointer (some ⟨b,0,none⟩),.int .u8 60] w (zL (fun t=>.string (bs t)) b s (.slice ao L.length cap) w (bA 60 l))):=fun w h=>mB b s 60 l (.slice ao L.length cap) w h d4;clear d5 co hlt cT h hm;by_cases b7:aB s l=0
 · have e0:(((aB s l:Nat):Int) == 0)=true:=by rw [b7]; rfl
   have en:Hid (∀ w,Rd w b s l (.slice ao L.length cap)→Calls Tryz.prog 151 #[.pointer (some ⟨b,0,none⟩)] w (Qt (.bool false) w)):=fun w h=>by
    have:=iD b s l (.slice ao L.length cap) w h d4
    rw [show da l=false from hh b7] at this; exact this
   clear b7 hh;have Z:Rd (w.alloc (.cells #[.int .i64 0,.string ⟨#[]⟩,.slice none 0 0,.string ⟨#[]⟩,.int .i64 (aB s l),.int .i64 0,.int .i64 0] 162)) b s l (.slice ao L.length cap):=H0.out.rd.below ((Below.refl _ _).alloc (Nat.le_refl _) _);go_enter Tryz.func121,Tryz.ntmps121
   go_wp2_with fail
   refine Calls.world ?_
   intro W hW;have hx:ak W w.heap.size [.int .i64 0,.string ⟨#[]⟩,.slice none 0 0,.string ⟨#[]⟩,.int .i64 (aB s l),.int .i64 0,.int .i64 0]:=by rw [hW]; exact ak.new w _ _ _ rfl
   have hG:w.grownBy W (some b):=by rw [hW]; exact World.grownBy_alloc _ _ _
   rw [← hW] at Z;have hm:W.cell? ⟨0,0,none⟩=some (.int .i64 m):=by rw [hW,World.cell?_alloc_lt _ _ _ (by simp; omega)]; exact HM.out
   clear hW;clear c1;have c1:=Z.c1;refine (HA.out W Z).mono ?_
   rintro e w1 ⟨rfl,n0,rfl⟩;go_wp2_with fail
   refine (HB.out _ (Z.drewN _)).mono ?_
   rintro e w1 ⟨rfl,n1,rfl⟩;go_wp2_with fail
   refine (en.out _ (Z.drewN _)).mono ?_
   rintro e w1 ⟨rfl,n2,rfl⟩;go_wp2_with fail
   refine (HC.out _ (Z.drewN _)).mono ?_
   rintro e w1 ⟨rfl,n3,rfl⟩;go_wp2_with fail
   refine (HD.out _ (Z.drewN _)).mono ?_
   rintro e w1 ⟨rfl,n4,rfl⟩;have A:=HU.out (W.drewN (n0+n1+n2+n3+n4)) (Z.drewN _);cases O:bA 60 l with
   | bad x r =>
    rw [O] at A;have HP:=zH O;clear O;have ad:=zH A;clear A Z hx;go_wp2_with fail
    refine ad.out.mono ?_
    intro e w2 hO;obtain ⟨rfl,hg⟩:mU x s r b _ e w2:=hO;go_wp2
    rw [HP.out];exact ⟨rfl,rfl,bi ((hG.trans (aX _ _ _)).trans hg) (by omega)⟩
   | ok t r =>
    rw [O] at A;have HP:=zH O;clear O;have ad:=zH A;clear A;go_wp2_with fail
    refine ad.out.mono ?_
    intro e w2 hO;obtain ⟨rfl,ba,hg⟩:ft (.string (bs t)) b s r (.slice ao L.length cap) _ e w2:=hO;have I:=(hx.drewN (n0+n1+n2+n3+n4)).grownB hg (by omega);have bb:=(hG.trans (aX _ (n0+n1+n2+n3+n4) _)).trans hg;have q0:=I.cell 0 _ rfl;have q3:=I.cell 3 _ rfl;have cf:=I.free 0;have b9:=I.free 3;have b8:=I.lt;have bc:=zH I;have bl:=zH bb;have bg:=zH ba;clear hx I hg hG bb Z ba hm ad;go_wp2
    refine ai fun D ac=>?_
    have ag:ak D w.heap.size [.int .i64 4,.string ⟨#[]⟩,.slice none 0 0,.string (bs t),.int .i64 (aB s l),.int .i64 0,.int .i64 0]:=by rw [ac]; exact (bc.out.set 0 _).set 3 _
    have U:Rd D b s r (.slice ao L.length cap):=by rw [ac]; exact (bg.out.setOther (by omega) _ _).setOther (by omega) _ _
    have a4:w.grownBy D (some b):=by rw [ac]; exact bz (bz bl.out (Nat.le_refl _) _ _) (Nat.le_refl _) _ _
    have d2:Hid (aj (b+1) 166 2 gJ D (.slice none 0 0) ([]:List eE)):=aj.nil;clear ac bc bl bg q0 q3 cf b9 b8;have c2:=U.c2;have f2:=U.box.free 2;have d9:=U.box.lt;obtain ⟨t0,t1,t2,t3,t4,t5,t6⟩:=xE ag;have ef:=ag.lt;have a5:=zH (H0.out.kept a4 U);have dl:=zH U;have dr:=zH a4;clear ag U a4;have b0:Hid (some b≠(Value.slice ao L.length cap).ownBlock):=fun e=>by have:=(a5.out.own.lt b e.symm).1; omega
    have b2:Hid (ak ((D.alloc (.cells (cz ⟨⟨4,[],[],t⟩,.slice none 0 0,aB s l,0,0⟩).toArray 162)).drew) b [.string s,.int .i64 (aB s r:Nat),.slice ao L.length cap]):=(dl.out.box.alloc _).drew;have a8 : ∀ j u,(cz ⟨⟨4,[],[],t⟩,.slice none 0 0,aB s l,0,0⟩)[j]? = some u→((D.alloc (.cells (cz ⟨⟨4,[],[],t⟩,.slice none 0 0,aB s l,0,0⟩).toArray 162)).drew).cell? ⟨D.heap.size,j,none⟩=some u:=fun j u hu=>(ak.new D (cz ⟨⟨4,[],[],t⟩,.slice none 0 0,aB s l,0,0⟩) 162 _ rfl).cell j u hu;have a9 : ∀ u ∈ cz ⟨⟨4,[],[],t⟩,.slice none 0 0,aB s l,0,0⟩,u.oneCell'=true:=by intro u hu; simp [cz] at hu; rcases hu with rfl | rfl | rfl | rfl | rfl | rfl | rfl <;> rfl
    have dn:=zH a8;have d0:=zH a9;have a7:=zH ((a5.out.own.alloc (.cells (cz ⟨⟨4,[],[],t⟩,.slice none 0 0,aB s l,0,0⟩).toArray 162)).drew);have dk:Hid ((L.length+1)*88≤140737488355328):=by show _≤_; omega
    have dg:Hid (b+1≤((D.alloc (.cells (cz ⟨⟨4,[],[],t⟩,.slice none 0 0,aB s l,0,0⟩).toArray 162)).drew).heap.size):=by show _≤_; simp; omega
    have bv:Hid (((D.alloc (.cells (cz ⟨⟨4,[],[],t⟩,.slice none 0 0,aB s l,0,0⟩).toArray 162)).drew).heap.size=D.heap.size+1):=by show _=_; simp
    clear a8 a9;go_region_law (first | (refine aW rfl (.tmp 110) (.tmp 112) 154 rfl (b+1) 162 Tryz.underlying154 cQ rfl (by decide) df (.slice ao L.length cap) L (by simp [Act.eval]) a7.out D.heap.size ⟨⟨4,[],[],t⟩,.slice none 0 0,aB s l,0,0⟩ (by simp [Act.eval]) dn.out d0.out dk.out (by decide) dg.out (D.heap.size+1) bv.out ?_; intro g8 ed w8 aa J b3 d8; have al:=zH (b2.out.grown J b0.out); have e2:=al.out.cell 2 _ rfl; have ei:=al.out.free 2; have eg:=al.out.lt; have cm:=zH aa; have c9:=zH J; clear aa J b3))
    all_goals
     go_end0
     rw [HP.out];obtain ⟨h1,h2⟩:=a5.out.push dr.out c8 (x:=⟨⟨4,[],[],t⟩,.slice none 0 0,aB s l,0,0⟩) d2.out c9.out cm.out;exact ⟨rfl,_,_,h1,h2⟩
 · have e0:(((aB s l:Nat):Int) == 0)=false:=beq_eq_false_iff_ne.2 (by omega)
   clear b7 hh;have Z:Rd (w.alloc (.cells #[.int .i64 0,.string ⟨#[]⟩,.slice none 0 0,.string ⟨#[]⟩,.int .i64 (aB s l),.int .i64 0,.int .i64 0] 162)) b s l (.slice ao L.length cap):=H0.out.rd.below ((Below.refl _ _).alloc (Nat.le_refl _) _);go_enter Tryz.func121,Tryz.ntmps121
   go_wp2_with fail
   refine Calls.world ?_
   intro W hW;have hx:ak W w.heap.size [.int .i64 0,.string ⟨#[]⟩,.slice none 0 0,.string ⟨#[]⟩,.int .i64 (aB s l),.int .i64 0,.int .i64 0]:=by rw [hW]; exact ak.new w _ _ _ rfl
   have hG:w.grownBy W (some b):=by rw [hW]; exact World.grownBy_alloc _ _ _
   rw [← hW] at Z;have hm:W.cell? ⟨0,0,none⟩=some (.int .i64 m):=by rw [hW,World.cell?_alloc_lt _ _ _ (by simp; omega)]; exact HM.out
   clear hW;clear c1;have c1:=Z.c1;refine (HA.out W Z).mono ?_
   rintro e w1 ⟨rfl,n0,rfl⟩;go_wp2_with fail
   refine (HB.out _ (Z.drewN _)).mono ?_
   rintro e w1 ⟨rfl,n1,rfl⟩;go_wp2_with fail
   refine (HC.out _ (Z.drewN _)).mono ?_
   rintro e w1 ⟨rfl,n2,rfl⟩;go_wp2_with fail
   refine (HD.out _ (Z.drewN _)).mono ?_
   rintro e w1 ⟨rfl,n3,rfl⟩;have A:=HU.out (W.drewN (n0+n1+n2+n3)) (Z.drewN _);cases O:bA 60 l with
   | bad x r =>
    rw [O] at A;have HP:=zH O;clear O;have ad:=zH A;clear A Z hx;go_wp2_with fail
    refine ad.out.mono ?_
    intro e w2 hO;obtain ⟨rfl,hg⟩:mU x s r b _ e w2:=hO;go_wp2
    rw [HP.out];exact ⟨rfl,rfl,bi ((hG.trans (aX _ _ _)).trans hg) (by omega)⟩
   | ok t r =>
    rw [O] at A;have HP:=zH O;clear O;have ad:=zH A;clear A;go_wp2_with fail
    refine ad.out.mono ?_
    intro e w2 hO;obtain ⟨rfl,ba,hg⟩:ft (.string (bs t)) b s r (.slice ao L.length cap) _ e w2:=hO;have I:=(hx.drewN (n0+n1+n2+n3)).grownB hg (by omega);have bb:=(hG.trans (aX _ (n0+n1+n2+n3) _)).trans hg;have q0:=I.cell 0 _ rfl;have q3:=I.cell 3 _ rfl;have cf:=I.free 0;have b9:=I.free 3;have b8:=I.lt;have bc:=zH I;have bl:=zH bb;have bg:=zH ba;clear hx I hg hG bb Z ba hm ad;go_wp2
    refine ai fun D ac=>?_
    have ag:ak D w.heap.size [.int .i64 4,.string ⟨#[]⟩,.slice none 0 0,.string (bs t),.int .i64 (aB s l),.int .i64 0,.int .i64 0]:=by rw [ac]; exact (bc.out.set 0 _).set 3 _
    have U:Rd D b s r (.slice ao L.length cap):=by rw [ac]; exact (bg.out.setOther (by omega) _ _).setOther (by omega) _ _
    have a4:w.grownBy D (some b):=by rw [ac]; exact bz (bz bl.out (Nat.le_refl _) _ _) (Nat.le_refl _) _ _
    have d2:Hid (aj (b+1) 166 2 gJ D (.slice none 0 0) ([]:List eE)):=aj.nil;clear ac bc bl bg q0 q3 cf b9 b8;have c2:=U.c2;have f2:=U.box.free 2;have d9:=U.box.lt;obtain ⟨t0,t1,t2,t3,t4,t5,t6⟩:=xE ag;have ef:=ag.lt;have a5:=zH (H0.out.kept a4 U);have dl:=zH U;have dr:=zH a4;clear ag U a4;have b0:Hid (some b≠(Value.slice ao L.length cap).ownBlock):=fun e=>by have:=(a5.out.own.lt b e.symm).1; omega
    have b2:Hid (ak ((D.alloc (.cells (cz ⟨⟨4,[],[],t⟩,.slice none 0 0,aB s l,0,0⟩).toArray 162)).drew) b [.string s,.int .i64 (aB s r:Nat),.slice ao L.length cap]):=(dl.out.box.alloc _).drew;have a8 : ∀ j u,(cz ⟨⟨4,[],[],t⟩,.slice none 0 0,aB s l,0,0⟩)[j]? = some u→((D.alloc (.cells (cz ⟨⟨4,[],[],t⟩,.slice none 0 0,aB s l,0,0⟩).toArray 162)).drew).cell? ⟨D.heap.size,j,none⟩=some u:=fun j u hu=>(ak.new D (cz ⟨⟨4,[],[],t⟩,.slice none 0 0,aB s l,0,0⟩) 162 _ rfl).cell j u hu;have a9 : ∀ u ∈ cz ⟨⟨4,[],[],t⟩,.slice none 0 0,aB s l,0,0⟩,u.oneCell'=true:=by intro u hu; simp [cz] at hu; rcases hu with rfl | rfl | rfl | rfl | rfl | rfl | rfl <;> rfl
    have dn:=zH a8;have d0:=zH a9;have a7:=zH ((a5.out.own.alloc (.cells (cz ⟨⟨4,[],[],t⟩,.slice none 0 0,aB s l,0,0⟩).toArray 162)).drew);have dk:Hid ((L.length+1)*88≤140737488355328):=by show _≤_; omega
    have dg:Hid (b+1≤((D.alloc (.cells (cz ⟨⟨4,[],[],t⟩,.slice none 0 0,aB s l,0,0⟩).toArray 162)).drew).heap.size):=by show _≤_; simp; omega
    have bv:Hid (((D.alloc (.cells (cz ⟨⟨4,[],[],t⟩,.slice none 0 0,aB s l,0,0⟩).toArray 162)).drew).heap.size=D.heap.size+1):=by show _=_; simp
    clear a8 a9;go_region_law (first | (refine aW rfl (.tmp 110) (.tmp 112) 154 rfl (b+1) 162 Tryz.underlying154 cQ rfl (by decide) df (.slice ao L.length cap) L (by simp [Act.eval]) a7.out D.heap.size ⟨⟨4,[],[],t⟩,.slice none 0 0,aB s l,0,0⟩ (by simp [Act.eval]) dn.out d0.out dk.out (by decide) dg.out (D.heap.size+1) bv.out ?_; intro g8 ed w8 aa J b3 d8; have al:=zH (b2.out.grown J b0.out); have e2:=al.out.cell 2 _ rfl; have ei:=al.out.free 2; have eg:=al.out.lt; have cm:=zH aa; have c9:=zH J; clear aa J b3))
    all_goals
     go_end0
     rw [HP.out];obtain ⟨h1,h2⟩:=a5.out.push dr.out c8 (x:=⟨⟨4,[],[],t⟩,.slice none 0 0,aB s l,0,0⟩) d2.out c9.out cm.out;exact ⟨rfl,_,_,h1,h2⟩
theorem vH (b:Nat) (s:S) (l:Bs) (ao:Option Addr) (cap:Nat) (L:List kp) (m:Int) (w:World) (h:jJ w b s l (.slice ao L.length cap) L) (hs:s.size≤65536) (hm:w.cell? ⟨0,0,none⟩=some (.int .i64 m)) (hL:L.length≤1000000)
    (l':Bs) (hl:l=60::47::l') (e4:iT.isPrefixOf l=false) (d6:ld.isPrefixOf l=false) (hh:aB s l=0→da l=false) :
    Calls Tryz.prog 121 #[.pointer (some ⟨b,0,none⟩)] w (uE b s (aB s l) L w (dw l')):=by
 have d7:=h.rd.box.lt;have c1:=h.rd.c1;have H0:=zH h;have a8:s.size≤1000000:=by omega
 have HM:=zH hm;have hp:=aT h.rd.suf;have hr:(aB s l:Int)≤65536:=by omega
 have HA:Hid (∀ w,Rd w b s l (.slice ao L.length cap)→Calls Tryz.prog 149 #[.pointer (some ⟨b,0,none⟩),.string ⟨#[60,33,45,45]⟩] w (Qt (.bool false) w)):=fun w h=>by
  have:=bQ b s l (.slice ao L.length cap) ⟨#[60,33,45,45]⟩ w h
  rw [show (⟨#[60,33,45,45]⟩:S).data.toList.isPrefixOf l=false from e4] at this; exact this
 have HB:Hid (∀ w,Rd w b s l (.slice ao L.length cap)→Calls Tryz.prog 149 #[.pointer (some ⟨b,0,none⟩),.string ⟨#[60,33,91,67,68,65,84,65,91]⟩] w (Qt (.bool false) w)):=fun w h=>by
  have:=bQ b s l (.slice ao L.length cap) ⟨#[60,33,91,67,68,65,84,65,91]⟩ w h
  rw [show (⟨#[60,33,91,67,68,65,84,65,91]⟩:S).data.toList.isPrefixOf l=false from d6] at this; exact this
 have HC:Hid (∀ w,Rd w b s l (.slice ao L.length cap)→Calls Tryz.prog 149 #[.pointer (some ⟨b,0,none⟩),.string ⟨#[60,47]⟩] w (Qt (.bool true) w)):=fun w h=>by
  have:=bQ b s l (.slice ao L.length cap) ⟨#[60,47]⟩ w h
  rw [show (⟨#[60,47]⟩:S).data.toList.isPrefixOf l=true from (by rw [hl]; rfl)] at this; exact this
 have dr:Hid (l' <:+ s.data.toList):=by have:=h.rd.suf; rw [hl] at this; exact dP (dP this)
 have ei:Hid (aB s l'=aB s l+2):=by have h1:=aT dr.out; rw [hl] at hp ⊢; simp only [List.length_cons] at hp; show _=_; omega
 clear e4 d6 hl h hm;by_cases d0:aB s l=0
 · have e0:(((aB s l:Nat):Int) == 0)=true:=by rw [d0]; rfl
   have gv:Hid (∀ w,Rd w b s l (.slice ao L.length cap)→Calls Tryz.prog 151 #[.pointer (some ⟨b,0,none⟩)] w (Qt (.bool false) w)):=fun w h=>by
    have:=iD b s l (.slice ao L.length cap) w h a8
    rw [show da l=false from hh d0] at this; exact this
   clear d0 hh;have hR:Rd (w.alloc (.cells #[.int .i64 0,.string ⟨#[]⟩,.slice none 0 0,.string ⟨#[]⟩,.int .i64 (aB s l),.int .i64 0,.int .i64 0] 162)) b s l (.slice ao L.length cap):=H0.out.rd.below ((Below.refl _ _).alloc (Nat.le_refl _) _);go_enter Tryz.func121,Tryz.ntmps121
   go_wp2_with fail
   refine Calls.world ?_
   intro W hW;have hx:ak W w.heap.size [.int .i64 0,.string ⟨#[]⟩,.slice none 0 0,.string ⟨#[]⟩,.int .i64 (aB s l),.int .i64 0,.int .i64 0]:=by rw [hW]; exact ak.new w _ _ _ rfl
   have hG:w.grownBy W (some b):=by rw [hW]; exact World.grownBy_alloc _ _ _
   rw [← hW] at hR;have hm:W.cell? ⟨0,0,none⟩=some (.int .i64 m):=by rw [hW,World.cell?_alloc_lt _ _ _ (by simp; omega)]; exact HM.out
   clear hW;clear c1;have c1:=hR.c1;have f1:=hR.f1;have dk:=hR.box.lt;refine (HA.out W hR).mono ?_
   rintro e w1 ⟨rfl,n0,rfl⟩;go_wp2_with fail
   refine (HB.out _ (hR.drewN _)).mono ?_
   rintro e w1 ⟨rfl,n1,rfl⟩;go_wp2_with fail
   refine (gv.out _ (hR.drewN _)).mono ?_
   rintro e w1 ⟨rfl,n2,rfl⟩;go_wp2_with fail
   refine (HC.out _ (hR.drewN _)).mono ?_
   rintro e w1 ⟨rfl,n3,rfl⟩;go_wp2_with fail
   refine Calls.world ?_
   intro W2 a0;have bc:Rd W2 b s l' (.slice ao L.length cap):=by rw [a0]; exact (hR.drewN _).move dr.out (v:=.int .i64 ((aB s l:Int)+2)) (by rw [ei.out]; rfl)
   have a5:ak W2 w.heap.size [.int .i64 0,.string ⟨#[]⟩,.slice none 0 0,.string ⟨#[]⟩,.int .i64 (aB s l),.int .i64 0,.int .i64 0]:=by rw [a0]; exact (hx.drewN _).grownB (ab _ b 1 _) (by omega)
   have bl:w.grownBy W2 (some b):=by rw [a0]; exact (hG.trans (aX _ _ _)).trans (ab _ b 1 _)
   clear a0 hx hG hR hm c1 f1 dk;have A:=hD b s 11 l' (.slice ao L.length cap) W2 bc a8;cases D:dB 11 l' with
   | bad x r =>
    rw [D] at A;have HP:=zH D;clear D;have I:=zH A;clear A bc a5;go_wp2_with fail
    refine I.out.mono ?_
    intro e w2 hO;obtain ⟨rfl,Z⟩:mU x s r b _ e w2:=hO;go_wp2
    rw [show dw l' = .bad x r by unfold dw; rw [HP.out]; rfl];exact ⟨rfl,rfl,bi (bl.trans Z) (by omega)⟩
   | ok J r1 =>
    rw [D] at A;have HP:=zH D;clear D;have I:=zH A;clear A;go_wp2_with fail
    refine I.out.mono ?_
    intro e w2 hO;obtain ⟨rfl,co,Z⟩:ft (.string (bs J)) b s r1 (.slice ao L.length cap) _ e w2:=hO;have O:=a5.grownB Z (by omega);have c8:=bl.trans Z;have q0:=O.cell 0 _ rfl;have q1:=O.cell 1 _ rfl;have d4:=O.free 0;have d3:=O.free 1;have d2:=O.lt;clear a5 bl Z bc I;go_wp2_with fail
    refine Calls.world ?_
    intro W4 al;have b8:ak W4 w.heap.size [.int .i64 3,.string (bs J),.slice none 0 0,.string ⟨#[]⟩,.int .i64 (aB s l),.int .i64 0,.int .i64 0]:=by rw [al]; exact (O.set 0 _).set 1 _
    have cm:Rd W4 b s r1 (.slice ao L.length cap):=by rw [al]; exact (co.setOther (by omega) _ _).setOther (by omega) _ _
    have cT:w.grownBy W4 (some b):=by rw [al]; exact bz (bz c8 (Nat.le_refl _) _ _) (Nat.le_refl _) _ _
    clear al O c8 co q0 q1 d4 d3 d2;refine (gj b s r1 (.slice ao L.length cap) W4 cm a8).mono ?_
    intro e w5 hO;obtain ⟨rfl,bg,a9⟩:=hO;have a6:=b8.grownB a9 (by omega);have bo:=cT.trans a9;clear b8 cT cm a9;have A:=fP b s 62 (aC r1) (.slice ao L.length cap) w5 bg a8;cases D:dd 62 (aC r1) with
    | bad x r =>
     rw [D] at A;have b2:=zH D;clear D;have I:=zH A;clear A bg a6;go_wp2_with fail
     refine I.out.mono ?_
     intro e w2 hO;obtain ⟨rfl,Z⟩:mU x s r b _ e w2:=hO;go_wp2
     rw [show dw l' = .bad x r by unfold dw; rw [HP.out]; simp only [cO.bind]; rw [b2.out]; rfl];exact ⟨rfl,rfl,bi (bo.trans Z) (by omega)⟩
    | ok u r =>
     rw [D] at A;have b2:=zH D;clear D;have I:=zH A;clear A;go_wp2_with fail
     refine I.out.mono ?_
     intro e W3 hO;obtain ⟨rfl,ac,Z⟩:ft (.tuple #[]) b s r (.slice ao L.length cap) _ e W3:=hO;have a7:=a6.grownB Z (by omega);have bv:=bo.trans Z;have ex:Hid (aj (b+1) 166 2 gJ W3 (.slice none 0 0) ([]:List eE)):=aj.nil;clear a6 bo Z bg I;go_wp2
     have c2:=ac.c2;have f2:=ac.box.free 2;have e8:=ac.box.lt;obtain ⟨t0,t1,t2,t3,t4,t5,t6⟩:=xE a7;have fv:=a7.lt;have b0:=zH (H0.out.kept bv ac);have eg:=zH ac;have em:=zH bv;clear a7 ac bv;have dg:Hid (some b≠(Value.slice ao L.length cap).ownBlock):=fun e=>by have:=(b0.out.own.lt b e.symm).1; omega
     have dl:Hid (ak ((W3.alloc (.cells (cz ⟨⟨3,J,[],[]⟩,.slice none 0 0,aB s l,0,0⟩).toArray 162)).drew) b [.string s,.int .i64 (aB s r:Nat),.slice ao L.length cap]):=(eg.out.box.alloc _).drew;have b9 : ∀ j u,(cz ⟨⟨3,J,[],[]⟩,.slice none 0 0,aB s l,0,0⟩)[j]? = some u→((W3.alloc (.cells (cz ⟨⟨3,J,[],[]⟩,.slice none 0 0,aB s l,0,0⟩).toArray 162)).drew).cell? ⟨W3.heap.size,j,none⟩=some u:=fun j u hu=>(ak.new W3 (cz ⟨⟨3,J,[],[]⟩,.slice none 0 0,aB s l,0,0⟩) 162 _ rfl).cell j u hu;have cf : ∀ u ∈ cz ⟨⟨3,J,[],[]⟩,.slice none 0 0,aB s l,0,0⟩,u.oneCell'=true:=by intro u hu; simp [cz] at hu; rcases hu with rfl | rfl | rfl | rfl | rfl | rfl | rfl <;> rfl
     have el:=zH b9;have en:=zH cf;have b4:=zH ((b0.out.own.alloc (.cells (cz ⟨⟨3,J,[],[]⟩,.slice none 0 0,aB s l,0,0⟩).toArray 162)).drew);have ed:Hid ((L.length+1)*88≤140737488355328):=by show _≤_; omega
     have d9:Hid (b+1≤((W3.alloc (.cells (cz ⟨⟨3,J,[],[]⟩,.slice none 0 0,aB s l,0,0⟩).toArray 162)).drew).heap.size):=by show _≤_; simp; omega
     have c9:Hid (((W3.alloc (.cells (cz ⟨⟨3,J,[],[]⟩,.slice none 0 0,aB s l,0,0⟩).toArray 162)).drew).heap.size=W3.heap.size+1):=by show _=_; simp
     clear b9 cf;go_region_law (first | (refine aW rfl (.tmp 110) (.tmp 112) 154 rfl (b+1) 162 Tryz.underlying154 cQ rfl (by decide) df (.slice ao L.length cap) L (by simp [Act.eval]) b4.out W3.heap.size ⟨⟨3,J,[],[]⟩,.slice none 0 0,aB s l,0,0⟩ (by simp [Act.eval]) el.out en.out ed.out (by decide) d9.out (W3.heap.size+1) c9.out ?_; intro g8 e9 w8 ah U dn e7; have ba:=zH (dl.out.grown U dg.out); have e2:=ba.out.cell 2 _ rfl; have ga:=ba.out.free 2; have fz:=ba.out.lt; have d5:=zH ah; have d8:=zH U; clear ah U dn))
     all_goals
      go_end0
      rw [show dw l' = .ok ⟨3,J,[],[]⟩ r by unfold dw; rw [HP.out]; simp only [cO.bind]; rw [b2.out]; rfl];obtain ⟨h1,h2⟩:=b0.out.push em.out d7 (x:=⟨⟨3,J,[],[]⟩,.slice none 0 0,aB s l,0,0⟩) ex.out d8.out d5.out;exact ⟨rfl,_,_,h1,h2⟩
 · have e0:(((aB s l:Nat):Int) == 0)=false:=beq_eq_false_iff_ne.2 (by omega)
   clear d0 hh;have hR:Rd (w.alloc (.cells #[.int .i64 0,.string ⟨#[]⟩,.slice none 0 0,.string ⟨#[]⟩,.int .i64 (aB s l),.int .i64 0,.int .i64 0] 162)) b s l (.slice ao L.length cap):=H0.out.rd.below ((Below.refl _ _).alloc (Nat.le_refl _) _);go_enter Tryz.func121,Tryz.ntmps121
   go_wp2_with fail
   refine Calls.world ?_
   intro W hW;have hx:ak W w.heap.size [.int .i64 0,.string ⟨#[]⟩,.slice none 0 0,.string ⟨#[]⟩,.int .i64 (aB s l),.int .i64 0,.int .i64 0]:=by rw [hW]; exact ak.new w _ _ _ rfl
   have hG:w.grownBy W (some b):=by rw [hW]; exact World.grownBy_alloc _ _ _
   rw [← hW] at hR;have hm:W.cell? ⟨0,0,none⟩=some (.int .i64 m):=by rw [hW,World.cell?_alloc_lt _ _ _ (by simp; omega)]; exact HM.out
   clear hW;clear c1;have c1:=hR.c1;have f1:=hR.f1;have dk:=hR.box.lt;refine (HA.out W hR).mono ?_
   rintro e w1 ⟨rfl,n0,rfl⟩;go_wp2_with fail
   refine (HB.out _ (hR.drewN _)).mono ?_
   rintro e w1 ⟨rfl,n1,rfl⟩;go_wp2_with fail
   refine (HC.out _ (hR.drewN _)).mono ?_
   rintro e w1 ⟨rfl,n2,rfl⟩;go_wp2_with fail
   refine Calls.world ?_
   intro W2 a0;have bc:Rd W2 b s l' (.slice ao L.length cap):=by rw [a0]; exact (hR.drewN _).move dr.out (v:=.int .i64 ((aB s l:Int)+2)) (by rw [ei.out]; rfl)
   have a5:ak W2 w.heap.size [.int .i64 0,.string ⟨#[]⟩,.slice none 0 0,.string ⟨#[]⟩,.int .i64 (aB s l),.int .i64 0,.int .i64 0]:=by rw [a0]; exact (hx.drewN _).grownB (ab _ b 1 _) (by omega)
   have bl:w.grownBy W2 (some b):=by rw [a0]; exact (hG.trans (aX _ _ _)).trans (ab _ b 1 _)
   clear a0 hx hG hR hm c1 f1 dk;have A:=hD b s 11 l' (.slice ao L.length cap) W2 bc a8;cases D:dB 11 l' with
   | bad x r =>
    rw [D] at A;have HP:=zH D;clear D;have I:=zH A;clear A bc a5;go_wp2_with fail
    refine I.out.mono ?_
    intro e w2 hO;obtain ⟨rfl,Z⟩:mU x s r b _ e w2:=hO;go_wp2
    rw [show dw l' = .bad x r by unfold dw; rw [HP.out]; rfl];exact ⟨rfl,rfl,bi (bl.trans Z) (by omega)⟩
   | ok J r1 =>
    rw [D] at A;have HP:=zH D;clear D;have I:=zH A;clear A;go_wp2_with fail
    refine I.out.mono ?_
    intro e w2 hO;obtain ⟨rfl,co,Z⟩:ft (.string (bs J)) b s r1 (.slice ao L.length cap) _ e w2:=hO;have O:=a5.grownB Z (by omega);have c8:=bl.trans Z;have q0:=O.cell 0 _ rfl;have q1:=O.cell 1 _ rfl;have d4:=O.free 0;have d3:=O.free 1;have d2:=O.lt;clear a5 bl Z bc I;go_wp2_with fail
    refine Calls.world ?_
    intro W4 al;have b8:ak W4 w.heap.size [.int .i64 3,.string (bs J),.slice none 0 0,.string ⟨#[]⟩,.int .i64 (aB s l),.int .i64 0,.int .i64 0]:=by rw [al]; exact (O.set 0 _).set 1 _
    have cm:Rd W4 b s r1 (.slice ao L.length cap):=by rw [al]; exact (co.setOther (by omega) _ _).setOther (by omega) _ _
    have cT:w.grownBy W4 (some b):=by rw [al]; exact bz (bz c8 (Nat.le_refl _) _ _) (Nat.le_refl _) _ _
    clear al O c8 co q0 q1 d4 d3 d2;refine (gj b s r1 (.slice ao L.length cap) W4 cm a8).mono ?_
    intro e w5 hO;obtain ⟨rfl,bg,a9⟩:=hO;have a6:=b8.grownB a9 (by omega);have bo:=cT.trans a9;clear b8 cT cm a9;have A:=fP b s 62 (aC r1) (.slice ao L.length cap) w5 bg a8;cases D:dd 62 (aC r1) with
    | bad x r =>
     rw [D] at A;have b2:=zH D;clear D;have I:=zH A;clear A bg a6;go_wp2_with fail
     refine I.out.mono ?_
     intro e w2 hO;obtain ⟨rfl,Z⟩:mU x s r b _ e w2:=hO;go_wp2
     rw [show dw l' = .bad x r by unfold dw; rw [HP.out]; simp only [cO.bind]; rw [b2.out]; rfl];exact ⟨rfl,rfl,bi (bo.trans Z) (by omega)⟩
    | ok u r =>
     rw [D] at A;have b2:=zH D;clear D;have I:=zH A;clear A;go_wp2_with fail
     refine I.out.mono ?_
     intro e W3 hO;obtain ⟨rfl,ac,Z⟩:ft (.tuple #[]) b s r (.slice ao L.length cap) _ e W3:=hO;have a7:=a6.grownB Z (by omega);have bv:=bo.trans Z;have ex:Hid (aj (b+1) 166 2 gJ W3 (.slice none 0 0) ([]:List eE)):=aj.nil;clear a6 bo Z bg I;go_wp2
     have c2:=ac.c2;have f2:=ac.box.free 2;have e8:=ac.box.lt;obtain ⟨t0,t1,t2,t3,t4,t5,t6⟩:=xE a7;have fv:=a7.lt;have b0:=zH (H0.out.kept bv ac);have eg:=zH ac;have em:=zH bv;clear a7 ac bv;have dg:Hid (some b≠(Value.slice ao L.length cap).ownBlock):=fun e=>by have:=(b0.out.own.lt b e.symm).1; omega
     have dl:Hid (ak ((W3.alloc (.cells (cz ⟨⟨3,J,[],[]⟩,.slice none 0 0,aB s l,0,0⟩).toArray 162)).drew) b [.string s,.int .i64 (aB s r:Nat),.slice ao L.length cap]):=(eg.out.box.alloc _).drew;have b9 : ∀ j u,(cz ⟨⟨3,J,[],[]⟩,.slice none 0 0,aB s l,0,0⟩)[j]? = some u→((W3.alloc (.cells (cz ⟨⟨3,J,[],[]⟩,.slice none 0 0,aB s l,0,0⟩).toArray 162)).drew).cell? ⟨W3.heap.size,j,none⟩=some u:=fun j u hu=>(ak.new W3 (cz ⟨⟨3,J,[],[]⟩,.slice none 0 0,aB s l,0,0⟩) 162 _ rfl).cell j u hu;have cf : ∀ u ∈ cz ⟨⟨3,J,[],[]⟩,.slice none 0 0,aB s l,0,0⟩,u.oneCell'=true:=by intro u hu; simp [cz] at hu; rcases hu with rfl | rfl | rfl | rfl | rfl | rfl | rfl <;> rfl
     have el:=zH b9;have en:=zH cf;have b4:=zH ((b0.out.own.alloc (.cells (cz ⟨⟨3,J,[],[]⟩,.slice none 0 0,aB s l,0,0⟩).toArray 162)).drew);have ed:Hid ((L.length+1)*88≤140737488355328):=by show _≤_; omega
     have d9:Hid (b+1≤((W3.alloc (.cells (cz ⟨⟨3,J,[],[]⟩,.slice none 0 0,aB s l,0,0⟩).toArray 162)).drew).heap.size):=by show _≤_; simp; omega
     have c9:Hid (((W3.alloc (.cells (cz ⟨⟨3,J,[],[]⟩,.slice none 0 0,aB s l,0,0⟩).toArray 162)).drew).heap.size=W3.heap.size+1):=by show _=_; simp
     clear b9 cf;go_region_law (first | (refine aW rfl (.tmp 110) (.tmp 112) 154 rfl (b+1) 162 Tryz.underlying154 cQ rfl (by decide) df (.slice ao L.length cap) L (by simp [Act.eval]) b4.out W3.heap.size ⟨⟨3,J,[],[]⟩,.slice none 0 0,aB s l,0,0⟩ (by simp [Act.eval]) el.out en.out ed.out (by decide) d9.out (W3.heap.size+1) c9.out ?_; intro g8 e9 w8 ah U dn e7; have ba:=zH (dl.out.grown U dg.out); have e2:=ba.out.cell 2 _ rfl; have ga:=ba.out.free 2; have fz:=ba.out.lt; have d5:=zH ah; have d8:=zH U; clear ah U dn))
     all_goals
      go_end0
      rw [show dw l' = .ok ⟨3,J,[],[]⟩ r by unfold dw; rw [HP.out]; simp only [cO.bind]; rw [b2.out]; rfl];obtain ⟨h1,h2⟩:=b0.out.push em.out d7 (x:=⟨⟨3,J,[],[]⟩,.slice none 0 0,aB s l,0,0⟩) ex.out d8.out d5.out;exact ⟨rfl,_,_,h1,h2⟩
theorem xK (b:Nat) (s:S) (l:Bs) (ao:Option Addr) (cap:Nat) (L:List kp) (m:Int) (w:World) (h:jJ w b s l (.slice ao L.length cap) L) (hs:s.size≤65536) (hm:w.cell? ⟨0,0,none⟩=some (.int .i64 m)) (hL:L.length≤1000000)
    (l':Bs) (hl:l=60::l') (bo:([47]:Bs).isPrefixOf l'=false) (hX:iT.isPrefixOf l=false) (hJ:ld.isPrefixOf l=false) (hh:aB s l=0→da l=false) :
    Calls Tryz.prog 121 #[.pointer (some ⟨b,0,none⟩)] w (uE b s (aB s l) L w (cL l')):=by
 have gv:=h.rd.box.lt;have c1:=h.rd.c1;have H0:=zH h;have d0:s.size≤1000000:=by omega
 have HM:=zH hm;have hp:=aT h.rd.suf;have k1:(aB s l:Int)≤65536:=by omega
 have HA:Hid (∀ w,Rd w b s l (.slice ao L.length cap)→Calls Tryz.prog 149 #[.pointer (some ⟨b,0,none⟩),.string ⟨#[60,33,45,45]⟩] w (Qt (.bool false) w)):=fun w h=>by
  have:=bQ b s l (.slice ao L.length cap) ⟨#[60,33,45,45]⟩ w h
  rw [show (⟨#[60,33,45,45]⟩:S).data.toList.isPrefixOf l=false from hX] at this; exact this
 have HB:Hid (∀ w,Rd w b s l (.slice ao L.length cap)→Calls Tryz.prog 149 #[.pointer (some ⟨b,0,none⟩),.string ⟨#[60,33,91,67,68,65,84,65,91]⟩] w (Qt (.bool false) w)):=fun w h=>by
  have:=bQ b s l (.slice ao L.length cap) ⟨#[60,33,91,67,68,65,84,65,91]⟩ w h
  rw [show (⟨#[60,33,91,67,68,65,84,65,91]⟩:S).data.toList.isPrefixOf l=false from hJ] at this; exact this
 have hK:([60,47]:Bs).isPrefixOf l=false:=by rw [hl]; simp only [List.isPrefixOf,beq_self_eq_true,Bool.true_and]; exact bo
 have HC:Hid (∀ w,Rd w b s l (.slice ao L.length cap)→Calls Tryz.prog 149 #[.pointer (some ⟨b,0,none⟩),.string ⟨#[60,47]⟩] w (Qt (.bool false) w)):=fun w h=>by
  have:=bQ b s l (.slice ao L.length cap) ⟨#[60,47]⟩ w h
  rw [show (⟨#[60,47]⟩:S).data.toList.isPrefixOf l=false from hK] at this; exact this
 have HD:Hid (∀ w,Rd w b s l (.slice ao L.length cap)→Calls Tryz.prog 149 #[.pointer (some ⟨b,0,none⟩),.string ⟨#[60]⟩] w (Qt (.bool true) w)):=fun w h=>by
  have:=bQ b s l (.slice ao L.length cap) ⟨#[60]⟩ w h
  rw [show (⟨#[60]⟩:S).data.toList.isPrefixOf l=true from (by rw [hl]; rfl)] at this; exact this
 have hv:Hid (l' <:+ s.data.toList):=by have:=h.rd.suf; rw [hl] at this; exact dP this
 have hV:Hid (aB s l'=aB s l+1):=by have h1:=aT hv.out; rw [hl] at hp ⊢; simp only [List.length_cons] at hp; show _=_; omega
 clear hX hJ hl hK bo h hm;by_cases hw:aB s l=0
 · have e0:(((aB s l:Nat):Int) == 0)=true:=by rw [hw]; rfl
   have km:Hid (∀ w,Rd w b s l (.slice ao L.length cap)→Calls Tryz.prog 151 #[.pointer (some ⟨b,0,none⟩)] w (Qt (.bool false) w)):=fun w h=>by
    have:=iD b s l (.slice ao L.length cap) w h d0
    rw [show da l=false from hh hw] at this; exact this
   clear hw hh;have hR:Rd (w.alloc (.cells #[.int .i64 0,.string ⟨#[]⟩,.slice none 0 0,.string ⟨#[]⟩,.int .i64 (aB s l),.int .i64 0,.int .i64 0] 162)) b s l (.slice ao L.length cap):=H0.out.rd.below ((Below.refl _ _).alloc (Nat.le_refl _) _);go_enter Tryz.func121,Tryz.ntmps121
   go_wp2_with fail
   refine Calls.world ?_
   intro W hW;have hx:ak W w.heap.size [.int .i64 0,.string ⟨#[]⟩,.slice none 0 0,.string ⟨#[]⟩,.int .i64 (aB s l),.int .i64 0,.int .i64 0]:=by rw [hW]; exact ak.new w _ _ _ rfl
   have hG:w.grownBy W (some b):=by rw [hW]; exact World.grownBy_alloc _ _ _
   rw [← hW] at hR;have hm:W.cell? ⟨0,0,none⟩=some (.int .i64 m):=by rw [hW,World.cell?_alloc_lt _ _ _ (by simp; omega)]; exact HM.out
   clear hW;clear c1;have c1:=hR.c1;have f1:=hR.f1;have hi:=hR.box.lt;refine (HA.out W hR).mono ?_
   rintro e w1 ⟨rfl,n0,rfl⟩;go_wp2_with fail
   refine (HB.out _ (hR.drewN _)).mono ?_
   rintro e w1 ⟨rfl,n1,rfl⟩;go_wp2_with fail
   refine (km.out _ (hR.drewN _)).mono ?_
   rintro e w1 ⟨rfl,n2,rfl⟩;go_wp2_with fail
   refine (HC.out _ (hR.drewN _)).mono ?_
   rintro e w1 ⟨rfl,n3,rfl⟩;go_wp2_with fail
   refine (HD.out _ (hR.drewN _)).mono ?_
   rintro e w1 ⟨rfl,n4,rfl⟩;go_wp2_with fail
   refine Calls.world ?_
   intro W2 d3;have ex:Rd W2 b s l' (.slice ao L.length cap):=by rw [d3]; exact (hR.drewN _).move hv.out (v:=.int .i64 ((aB s l:Int)+1)) (by rw [hV.out]; rfl)
   have d9:ak W2 w.heap.size [.int .i64 0,.string ⟨#[]⟩,.slice none 0 0,.string ⟨#[]⟩,.int .i64 (aB s l),.int .i64 0,.int .i64 0]:=by rw [d3]; exact (hx.drewN _).grownB (ab _ b 1 _) (by omega)
   have eV:w.grownBy W2 (some b):=by rw [d3]; exact (hG.trans (aX _ _ _)).trans (ab _ b 1 _)
   clear d3 hx hG hR hm c1 f1 hi;have A:=hD b s 11 l' (.slice ao L.length cap) W2 ex d0;cases I:dB 11 l' with
   | bad x r =>
    rw [I] at A;have HP:=zH I;clear I;have ah:=zH A;clear A ex d9;go_wp2_with fail
    refine ah.out.mono ?_
    intro e w2 hO;obtain ⟨rfl,hg⟩:mU x s r b _ e w2:=hO;go_wp2
    rw [show cL l' = .bad x r by unfold cL; rw [HP.out]; rfl];exact ⟨rfl,rfl,bi (eV.trans hg) (by omega)⟩
   | ok O r1 =>
    rw [I] at A;have HP:=zH I;clear I;have ah:=zH A;clear A;go_wp2_with fail
    refine ah.out.mono ?_
    intro e w2 hO;obtain ⟨rfl,g4,hg⟩:ft (.string (bs O)) b s r1 (.slice ao L.length cap) _ e w2:=hO;have ed:=d9.grownB hg (by omega);have g6:=eV.trans hg;obtain ⟨q1,hH,b7⟩:=zB ed 1 rfl;clear d9 eV hg ex ah;go_wp2_with fail
    refine Calls.world ?_
    intro W4 d2;have dr:ak W4 w.heap.size [.int .i64 0,.string (bs O),.slice none 0 0,.string ⟨#[]⟩,.int .i64 (aB s l),.int .i64 0,.int .i64 0]:=by rw [d2]; exact ed.set 1 _
    have eU:Rd W4 b s r1 (.slice ao L.length cap):=by rw [d2]; exact g4.setOther (by omega) _ _
    have e4:w.grownBy W4 (some b):=by rw [d2]; exact bz g6 (Nat.le_refl _) _ _
    clear d2 ed g6 g4 q1 hH b7;have ag:Hid (w.heap.size<W4.heap.size):=dr.lt;have A:=qv b s r1 (.slice ao L.length cap) W4 eU d0;cases I:iM r1 with
    | bad x r =>
     rw [I] at A;have c8:=zH I;clear I;have ah:=zH A;clear A eU dr;go_wp2_with fail
     refine ah.out.mono ?_
     intro e w2 hO;obtain ⟨rfl,hg⟩:mU x s r b _ e w2:=hO;go_wp2
     rw [show cL l' = .bad x r by unfold cL; rw [HP.out]; simp only [cO.bind]; rw [c8.out]];exact ⟨rfl,rfl,bi (e4.trans hg) (by omega)⟩
    | ok ats r2 =>
     rw [I] at A;have c8:=zH I;clear I;refine A.mono ?_
     clear A;intro e w5 hO;obtain ⟨av,⟨rfl,g1,ei⟩,e5⟩ : ∃ v,ft v b s r2 (.slice ao L.length cap) W4 e w5∧aj W4.heap.size 166 2 gJ w5 v ats:=hO;have a6:=dr.grownB ei (by omega);have g5:=e4.trans ei;obtain ⟨J,D,rfl⟩:=e5.shape;have q0:=a6.cell 0 _ rfl;have q2:=a6.cell 2 _ rfl;have d8:=a6.free 0;have hF:=a6.free 2;have b7:=a6.lt;clear dr e4 eU ei;go_wp2_with fail
     refine Calls.world ?_
     intro W6 cm;have b0:ak W6 w.heap.size [.int .i64 1,.string (bs O),.slice J ats.length D,.string ⟨#[]⟩,.int .i64 (aB s l),.int .i64 0,.int .i64 0]:=by rw [cm]; exact (a6.set 2 _).set 0 _
     have ad:Rd W6 b s r2 (.slice ao L.length cap):=by rw [cm]; exact (g1.setOther (by omega) _ _).setOther (by omega) _ _
     have d4:w.grownBy W6 (some b):=by rw [cm]; exact bz (bz g5 (Nat.le_refl _) _ _) (Nat.le_refl _) _ _
     have d5:aj W4.heap.size 166 2 gJ W6 (.slice J ats.length D) ats:=by rw [cm]; exact (e5.keptR (ab _ _ _ _) ag.out).keptR (ab _ _ _ _) ag.out
     clear cm a6 g5 g1 e5 q0 q2 d8 hF b7;have al:=bQ b s r2 (.slice ao L.length cap) ⟨#[47]⟩ W6 ad;rw [iK] at al;by_cases bo:([47]:Bs).isPrefixOf r2=true
     · obtain ⟨r3,rfl⟩ : ∃ r3,r2=47::r3:=by
        obtain ⟨r3,h3⟩:=List.isPrefixOf_iff_prefix.1 bo; exact ⟨r3,h3.symm⟩
       rw [bo] at al;have e9:=zH al;clear al bo;have hN:=zH (dP ad.suf);have hS:=zH (fU ad.suf);have ih:=ky ad.suf;have g7:=zH b0;have hb:=zH d4;have hc:=zH d5;have g9:=zH ad;have c1:=ad.c1;have f1:=ad.f1;have hq:=ad.box.lt;obtain ⟨q0,d8,b7⟩:=zB b0 0 rfl;clear b0 d4 d5 ad;generalize aB s (47::r3)=p7 at *;have ka:(p7:Int)+1≤1000000:=by omega
       refine e9.out.mono ?_
       rintro e w' ⟨rfl,n7,rfl⟩;go_wp2_with fail
       refine Calls.world ?_
       intro W8 cf;have a5:ak W8 w.heap.size [.int .i64 2,.string (bs O),.slice J ats.length D,.string ⟨#[]⟩,.int .i64 (aB s l),.int .i64 0,.int .i64 0]:=by rw [cf]; exact ((g7.out.drewN n7).set 0 _).grownB (ab _ _ _ _) (by omega)
       have a9:Rd W8 b s r3 (.slice ao L.length cap):=by rw [cf]; exact ((g9.out.drewN n7).setOther (by omega) _ _).move hN.out (v:=.int .i64 ((p7:Int)+1)) (by rw [hS.out]; rfl)
       have ba:w.grownBy W8 (some b):=by rw [cf]; exact (bz (hb.out.trans (aX _ n7 _)) (Nat.le_refl _) _ _).trans (ab _ b _ _)
       have co:aj W4.heap.size 166 2 gJ W8 (.slice J ats.length D) ats:=by
        rw [cf]; exact ((hc.out.keptR (aX _ n7 (some b)) (by have:=ag.out; omega)).keptR (ab _ _ _ _) ag.out).keptR (ab _ b _ _) (by have:=ag.out; omega)
       clear cf c1 f1 q0 d8 b7 g7 hb hc g9 hq;have A:=fP b s 62 r3 (.slice ao L.length cap) W8 a9 d0;cases I:dd 62 r3 with
       | bad x r =>
        rw [I] at A;have bg:=zH I;clear I;have ah:=zH A;clear A a9 a5;go_wp2_with fail
        refine ah.out.mono ?_
        intro e w2 hO;obtain ⟨rfl,hg⟩:mU x s r b _ e w2:=hO;go_wp2
        rw [show cL l' = .bad x r by unfold cL; rw [HP.out]; simp only [cO.bind]; rw [c8.out]; simp only; rw [bg.out]; rfl];exact ⟨rfl,rfl,bi (ba.trans hg) (by omega)⟩
       | ok u r =>
        rw [I] at A;have bg:=zH I;clear I;refine A.mono ?_
        clear A;intro e Z hO;obtain ⟨rfl,ac,hg⟩:ft (.tuple #[]) b s r (.slice ao L.length cap) _ e Z:=hO;have a7:=a5.grownB hg (by omega);have bb:=ba.trans hg;have ga:Hid (aj (b+1) 166 2 gJ Z (.slice J ats.length D) ats):=(co.keptR hg (by have:=ag.out; omega)).base_mono (by have:=ag.out; omega);clear a5 ba hg a9 co;go_wp2
        have c2:=ac.c2;have f2:=ac.box.free 2;have hr:=ac.box.lt;obtain ⟨t0,t1,t2,t3,t4,t5,t6⟩:=xE a7;have hE:=a7.lt;have bc:=zH (H0.out.kept bb ac);have e7:=zH ac;have fv:=zH bb;clear a7 ac bb;have dk:Hid (some b≠(Value.slice ao L.length cap).ownBlock):=fun e=>by have:=(bc.out.own.lt b e.symm).1; omega
        have dl:Hid (ak ((Z.alloc (.cells (cz ⟨⟨2,O,ats,[]⟩,.slice J ats.length D,aB s l,0,0⟩).toArray 162)).drew) b [.string s,.int .i64 (aB s r:Nat),.slice ao L.length cap]):=(e7.out.box.alloc _).drew;have b8 : ∀ j u,(cz ⟨⟨2,O,ats,[]⟩,.slice J ats.length D,aB s l,0,0⟩)[j]? = some u→((Z.alloc (.cells (cz ⟨⟨2,O,ats,[]⟩,.slice J ats.length D,aB s l,0,0⟩).toArray 162)).drew).cell? ⟨Z.heap.size,j,none⟩=some u:=fun j u hu=>(ak.new Z (cz ⟨⟨2,O,ats,[]⟩,.slice J ats.length D,aB s l,0,0⟩) 162 _ rfl).cell j u hu;have b9 : ∀ u ∈ cz ⟨⟨2,O,ats,[]⟩,.slice J ats.length D,aB s l,0,0⟩,u.oneCell'=true:=by intro u hu; simp [cz] at hu; rcases hu with rfl | rfl | rfl | rfl | rfl | rfl | rfl <;> rfl
        have e8:=zH b8;have fz:=zH b9;have b4:=zH ((bc.out.own.alloc (.cells (cz ⟨⟨2,O,ats,[]⟩,.slice J ats.length D,aB s l,0,0⟩).toArray 162)).drew);have em:Hid ((L.length+1)*88≤140737488355328):=by show _≤_; omega
        have el:Hid (b+1≤((Z.alloc (.cells (cz ⟨⟨2,O,ats,[]⟩,.slice J ats.length D,aB s l,0,0⟩).toArray 162)).drew).heap.size):=by show _≤_; simp; omega
        have c9:Hid (((Z.alloc (.cells (cz ⟨⟨2,O,ats,[]⟩,.slice J ats.length D,aB s l,0,0⟩).toArray 162)).drew).heap.size=Z.heap.size+1):=by show _=_; simp
        clear b8 b9;go_region_law (first | (refine aW rfl (.tmp 110) (.tmp 112) 154 rfl (b+1) 162 Tryz.underlying154 cQ rfl (by decide) df (.slice ao L.length cap) L (by simp [Act.eval]) b4.out Z.heap.size ⟨⟨2,O,ats,[]⟩,.slice J ats.length D,aB s l,0,0⟩ (by simp [Act.eval]) e8.out fz.out em.out (by decide) el.out (Z.heap.size+1) c9.out ?_; intro g8 ht w8 a4 U dn hj; have a8:=zH (dl.out.grown U dk.out); have e2:=a8.out.cell 2 _ rfl; have hU:=a8.out.free 2; have hT:=a8.out.lt; have ef:=zH a4; have eg:=zH U; clear a4 U dn))
        all_goals
         go_end0
         rw [show cL l' = .ok ⟨2,O,ats,[]⟩ r by unfold cL; rw [HP.out]; simp only [cO.bind]; rw [c8.out]; simp only; rw [bg.out]; rfl];obtain ⟨h1,h2⟩:=bc.out.push fv.out gv (x:=⟨⟨2,O,ats,[]⟩,.slice J ats.length D,aB s l,0,0⟩) ga.out eg.out ef.out;exact ⟨rfl,_,_,h1,h2⟩
     · have dg:([47]:Bs).isPrefixOf r2=false:=Bool.eq_false_iff.2 bo
       rw [dg] at al;have e9:=zH al
       have d6:Hid (cL l'=(dd 62 r2).map fun _=>⟨1,O,ats,[]⟩):=by
        show _=_
        unfold cL; rw [HP.out]; simp only [cO.bind]; rw [c8.out]; simp only;split
        · simp at dg
        · rfl
       clear al bo dg;refine e9.out.mono ?_
       rintro e w' ⟨rfl,n7,rfl⟩;go_wp2_with fail
       have a9:=ad.drewN n7;have a5:=b0.drewN n7;have ba:=d4.trans (aX W6 n7 _);have co:=d5.keptR (aX W6 n7 (some b)) (by have:=ag.out; omega);have A:=fP b s 62 r2 (.slice ao L.length cap) (W6.drewN n7) a9 d0;cases I:dd 62 r2 with
       | bad x r =>
        rw [I] at A;have bg:=zH I;clear I;have ah:=zH A;clear A a9 a5 ad b0;refine ah.out.mono ?_
        intro e w2 hO;obtain ⟨rfl,hg⟩:mU x s r b _ e w2:=hO;go_wp2
        rw [show cL l' = .bad x r by rw [d6.out,bg.out]; rfl];exact ⟨rfl,rfl,bi (ba.trans hg) (by omega)⟩
       | ok u r =>
        rw [I] at A;have bg:=zH I;clear I;refine A.mono ?_
        clear A;intro e Z hO;obtain ⟨rfl,ac,hg⟩:ft (.tuple #[]) b s r (.slice ao L.length cap) _ e Z:=hO;have a7:=a5.grownB hg (by omega);have bb:=ba.trans hg;have ga:Hid (aj (b+1) 166 2 gJ Z (.slice J ats.length D) ats):=(co.keptR hg (by have:=ag.out; omega)).base_mono (by have:=ag.out; omega);clear a5 ba hg a9 co b0 d4 ad d5;go_wp2
        have c2:=ac.c2;have f2:=ac.box.free 2;have hr:=ac.box.lt;obtain ⟨t0,t1,t2,t3,t4,t5,t6⟩:=xE a7;have hE:=a7.lt;have bc:=zH (H0.out.kept bb ac);have e7:=zH ac;have fv:=zH bb;clear a7 ac bb;have dk:Hid (some b≠(Value.slice ao L.length cap).ownBlock):=fun e=>by have:=(bc.out.own.lt b e.symm).1; omega
        have dl:Hid (ak ((Z.alloc (.cells (cz ⟨⟨1,O,ats,[]⟩,.slice J ats.length D,aB s l,0,0⟩).toArray 162)).drew) b [.string s,.int .i64 (aB s r:Nat),.slice ao L.length cap]):=(e7.out.box.alloc _).drew;have b8 : ∀ j u,(cz ⟨⟨1,O,ats,[]⟩,.slice J ats.length D,aB s l,0,0⟩)[j]? = some u→((Z.alloc (.cells (cz ⟨⟨1,O,ats,[]⟩,.slice J ats.length D,aB s l,0,0⟩).toArray 162)).drew).cell? ⟨Z.heap.size,j,none⟩=some u:=fun j u hu=>(ak.new Z (cz ⟨⟨1,O,ats,[]⟩,.slice J ats.length D,aB s l,0,0⟩) 162 _ rfl).cell j u hu;have b9 : ∀ u ∈ cz ⟨⟨1,O,ats,[]⟩,.slice J ats.length D,aB s l,0,0⟩,u.oneCell'=true:=by intro u hu; simp [cz] at hu; rcases hu with rfl | rfl | rfl | rfl | rfl | rfl | rfl <;> rfl
        have e8:=zH b8;have fz:=zH b9;have b4:=zH ((bc.out.own.alloc (.cells (cz ⟨⟨1,O,ats,[]⟩,.slice J ats.length D,aB s l,0,0⟩).toArray 162)).drew);have em:Hid ((L.length+1)*88≤140737488355328):=by show _≤_; omega
        have el:Hid (b+1≤((Z.alloc (.cells (cz ⟨⟨1,O,ats,[]⟩,.slice J ats.length D,aB s l,0,0⟩).toArray 162)).drew).heap.size):=by show _≤_; simp; omega
        have c9:Hid (((Z.alloc (.cells (cz ⟨⟨1,O,ats,[]⟩,.slice J ats.length D,aB s l,0,0⟩).toArray 162)).drew).heap.size=Z.heap.size+1):=by show _=_; simp
        clear b8 b9;go_region_law (first | (refine aW rfl (.tmp 110) (.tmp 112) 154 rfl (b+1) 162 Tryz.underlying154 cQ rfl (by decide) df (.slice ao L.length cap) L (by simp [Act.eval]) b4.out Z.heap.size ⟨⟨1,O,ats,[]⟩,.slice J ats.length D,aB s l,0,0⟩ (by simp [Act.eval]) e8.out fz.out em.out (by decide) el.out (Z.heap.size+1) c9.out ?_; intro g8 ht w8 a4 U dn hj; have a8:=zH (dl.out.grown U dk.out); have e2:=a8.out.cell 2 _ rfl; have hU:=a8.out.free 2; have hT:=a8.out.lt; have ef:=zH a4; have eg:=zH U; clear a4 U dn))
        all_goals
         go_end0
         rw [show cL l' = .ok ⟨1,O,ats,[]⟩ r by rw [d6.out,bg.out]; rfl];obtain ⟨h1,h2⟩:=bc.out.push fv.out gv (x:=⟨⟨1,O,ats,[]⟩,.slice J ats.length D,aB s l,0,0⟩) ga.out eg.out ef.out;exact ⟨rfl,_,_,h1,h2⟩
 · have e0:(((aB s l:Nat):Int) == 0)=false:=beq_eq_false_iff_ne.2 (by omega)
   clear hw hh;have hR:Rd (w.alloc (.cells #[.int .i64 0,.string ⟨#[]⟩,.slice none 0 0,.string ⟨#[]⟩,.int .i64 (aB s l),.int .i64 0,.int .i64 0] 162)) b s l (.slice ao L.length cap):=H0.out.rd.below ((Below.refl _ _).alloc (Nat.le_refl _) _);go_enter Tryz.func121,Tryz.ntmps121
   go_wp2_with fail
   refine Calls.world ?_
   intro W hW;have hx:ak W w.heap.size [.int .i64 0,.string ⟨#[]⟩,.slice none 0 0,.string ⟨#[]⟩,.int .i64 (aB s l),.int .i64 0,.int .i64 0]:=by rw [hW]; exact ak.new w _ _ _ rfl
   have hG:w.grownBy W (some b):=by rw [hW]; exact World.grownBy_alloc _ _ _
   rw [← hW] at hR;have hm:W.cell? ⟨0,0,none⟩=some (.int .i64 m):=by rw [hW,World.cell?_alloc_lt _ _ _ (by simp; omega)]; exact HM.out
   clear hW;clear c1;have c1:=hR.c1;have f1:=hR.f1;have hi:=hR.box.lt;refine (HA.out W hR).mono ?_
   rintro e w1 ⟨rfl,n0,rfl⟩;go_wp2_with fail
   refine (HB.out _ (hR.drewN _)).mono ?_
   rintro e w1 ⟨rfl,n1,rfl⟩;go_wp2_with fail
   refine (HC.out _ (hR.drewN _)).mono ?_
   rintro e w1 ⟨rfl,n2,rfl⟩;go_wp2_with fail
   refine (HD.out _ (hR.drewN _)).mono ?_
   rintro e w1 ⟨rfl,n3,rfl⟩;go_wp2_with fail
   refine Calls.world ?_
   intro W2 d3;have ex:Rd W2 b s l' (.slice ao L.length cap):=by rw [d3]; exact (hR.drewN _).move hv.out (v:=.int .i64 ((aB s l:Int)+1)) (by rw [hV.out]; rfl)
   have d9:ak W2 w.heap.size [.int .i64 0,.string ⟨#[]⟩,.slice none 0 0,.string ⟨#[]⟩,.int .i64 (aB s l),.int .i64 0,.int .i64 0]:=by rw [d3]; exact (hx.drewN _).grownB (ab _ b 1 _) (by omega)
   have eV:w.grownBy W2 (some b):=by rw [d3]; exact (hG.trans (aX _ _ _)).trans (ab _ b 1 _)
   clear d3 hx hG hR hm c1 f1 hi;have A:=hD b s 11 l' (.slice ao L.length cap) W2 ex d0;cases I:dB 11 l' with
   | bad x r =>
    rw [I] at A;have HP:=zH I;clear I;have ah:=zH A;clear A ex d9;go_wp2_with fail
    refine ah.out.mono ?_
    intro e w2 hO;obtain ⟨rfl,hg⟩:mU x s r b _ e w2:=hO;go_wp2
    rw [show cL l' = .bad x r by unfold cL; rw [HP.out]; rfl];exact ⟨rfl,rfl,bi (eV.trans hg) (by omega)⟩
   | ok O r1 =>
    rw [I] at A;have HP:=zH I;clear I;have ah:=zH A;clear A;go_wp2_with fail
    refine ah.out.mono ?_
    intro e w2 hO;obtain ⟨rfl,g4,hg⟩:ft (.string (bs O)) b s r1 (.slice ao L.length cap) _ e w2:=hO;have ed:=d9.grownB hg (by omega);have g6:=eV.trans hg;obtain ⟨q1,hH,b7⟩:=zB ed 1 rfl;clear d9 eV hg ex ah;go_wp2_with fail
    refine Calls.world ?_
    intro W4 d2;have dr:ak W4 w.heap.size [.int .i64 0,.string (bs O),.slice none 0 0,.string ⟨#[]⟩,.int .i64 (aB s l),.int .i64 0,.int .i64 0]:=by rw [d2]; exact ed.set 1 _
    have eU:Rd W4 b s r1 (.slice ao L.length cap):=by rw [d2]; exact g4.setOther (by omega) _ _
    have e4:w.grownBy W4 (some b):=by rw [d2]; exact bz g6 (Nat.le_refl _) _ _
    clear d2 ed g6 g4 q1 hH b7;have ag:Hid (w.heap.size<W4.heap.size):=dr.lt;have A:=qv b s r1 (.slice ao L.length cap) W4 eU d0;cases I:iM r1 with
    | bad x r =>
     rw [I] at A;have c8:=zH I;clear I;have ah:=zH A;clear A eU dr;go_wp2_with fail
     refine ah.out.mono ?_
     intro e w2 hO;obtain ⟨rfl,hg⟩:mU x s r b _ e w2:=hO;go_wp2
     rw [show cL l' = .bad x r by unfold cL; rw [HP.out]; simp only [cO.bind]; rw [c8.out]];exact ⟨rfl,rfl,bi (e4.trans hg) (by omega)⟩
    | ok ats r2 =>
     rw [I] at A;have c8:=zH I;clear I;refine A.mono ?_
     clear A;intro e w5 hO;obtain ⟨av,⟨rfl,g1,ei⟩,e5⟩ : ∃ v,ft v b s r2 (.slice ao L.length cap) W4 e w5∧aj W4.heap.size 166 2 gJ w5 v ats:=hO;have a6:=dr.grownB ei (by omega);have g5:=e4.trans ei;obtain ⟨J,D,rfl⟩:=e5.shape;have q0:=a6.cell 0 _ rfl;have q2:=a6.cell 2 _ rfl;have d8:=a6.free 0;have hF:=a6.free 2;have b7:=a6.lt;clear dr e4 eU ei;go_wp2_with fail
     refine Calls.world ?_
     intro W6 cm;have b0:ak W6 w.heap.size [.int .i64 1,.string (bs O),.slice J ats.length D,.string ⟨#[]⟩,.int .i64 (aB s l),.int .i64 0,.int .i64 0]:=by rw [cm]; exact (a6.set 2 _).set 0 _
     have ad:Rd W6 b s r2 (.slice ao L.length cap):=by rw [cm]; exact (g1.setOther (by omega) _ _).setOther (by omega) _ _
     have d4:w.grownBy W6 (some b):=by rw [cm]; exact bz (bz g5 (Nat.le_refl _) _ _) (Nat.le_refl _) _ _
     have d5:aj W4.heap.size 166 2 gJ W6 (.slice J ats.length D) ats:=by rw [cm]; exact (e5.keptR (ab _ _ _ _) ag.out).keptR (ab _ _ _ _) ag.out
     clear cm a6 g5 g1 e5 q0 q2 d8 hF b7;have al:=bQ b s r2 (.slice ao L.length cap) ⟨#[47]⟩ W6 ad;rw [iK] at al;by_cases bo:([47]:Bs).isPrefixOf r2=true
     · obtain ⟨r3,rfl⟩ : ∃ r3,r2=47::r3:=by
        obtain ⟨r3,h3⟩:=List.isPrefixOf_iff_prefix.1 bo; exact ⟨r3,h3.symm⟩
       rw [bo] at al;have e9:=zH al;clear al bo;have hN:=zH (dP ad.suf);have hS:=zH (fU ad.suf);have ih:=ky ad.suf;have g7:=zH b0;have hb:=zH d4;have hc:=zH d5;have g9:=zH ad;have c1:=ad.c1;have f1:=ad.f1;have hq:=ad.box.lt;obtain ⟨q0,d8,b7⟩:=zB b0 0 rfl;clear b0 d4 d5 ad;generalize aB s (47::r3)=p7 at *;have ka:(p7:Int)+1≤1000000:=by omega
       refine e9.out.mono ?_
       rintro e w' ⟨rfl,n7,rfl⟩;go_wp2_with fail
       refine Calls.world ?_
       intro W8 cf;have a5:ak W8 w.heap.size [.int .i64 2,.string (bs O),.slice J ats.length D,.string ⟨#[]⟩,.int .i64 (aB s l),.int .i64 0,.int .i64 0]:=by rw [cf]; exact ((g7.out.drewN n7).set 0 _).grownB (ab _ _ _ _) (by omega)
       have a9:Rd W8 b s r3 (.slice ao L.length cap):=by rw [cf]; exact ((g9.out.drewN n7).setOther (by omega) _ _).move hN.out (v:=.int .i64 ((p7:Int)+1)) (by rw [hS.out]; rfl)
       have ba:w.grownBy W8 (some b):=by rw [cf]; exact (bz (hb.out.trans (aX _ n7 _)) (Nat.le_refl _) _ _).trans (ab _ b _ _)
       have co:aj W4.heap.size 166 2 gJ W8 (.slice J ats.length D) ats:=by
        rw [cf]; exact ((hc.out.keptR (aX _ n7 (some b)) (by have:=ag.out; omega)).keptR (ab _ _ _ _) ag.out).keptR (ab _ b _ _) (by have:=ag.out; omega)
       clear cf c1 f1 q0 d8 b7 g7 hb hc g9 hq;have A:=fP b s 62 r3 (.slice ao L.length cap) W8 a9 d0;cases I:dd 62 r3 with
       | bad x r =>
        rw [I] at A;have bg:=zH I;clear I;have ah:=zH A;clear A a9 a5;go_wp2_with fail
        refine ah.out.mono ?_
        intro e w2 hO;obtain ⟨rfl,hg⟩:mU x s r b _ e w2:=hO;go_wp2
        rw [show cL l' = .bad x r by unfold cL; rw [HP.out]; simp only [cO.bind]; rw [c8.out]; simp only; rw [bg.out]; rfl];exact ⟨rfl,rfl,bi (ba.trans hg) (by omega)⟩
       | ok u r =>
        rw [I] at A;have bg:=zH I;clear I;refine A.mono ?_
        clear A;intro e Z hO;obtain ⟨rfl,ac,hg⟩:ft (.tuple #[]) b s r (.slice ao L.length cap) _ e Z:=hO;have a7:=a5.grownB hg (by omega);have bb:=ba.trans hg;have ga:Hid (aj (b+1) 166 2 gJ Z (.slice J ats.length D) ats):=(co.keptR hg (by have:=ag.out; omega)).base_mono (by have:=ag.out; omega);clear a5 ba hg a9 co;go_wp2
        have c2:=ac.c2;have f2:=ac.box.free 2;have hr:=ac.box.lt;obtain ⟨t0,t1,t2,t3,t4,t5,t6⟩:=xE a7;have hE:=a7.lt;have bc:=zH (H0.out.kept bb ac);have e7:=zH ac;have fv:=zH bb;clear a7 ac bb;have dk:Hid (some b≠(Value.slice ao L.length cap).ownBlock):=fun e=>by have:=(bc.out.own.lt b e.symm).1; omega
        have dl:Hid (ak ((Z.alloc (.cells (cz ⟨⟨2,O,ats,[]⟩,.slice J ats.length D,aB s l,0,0⟩).toArray 162)).drew) b [.string s,.int .i64 (aB s r:Nat),.slice ao L.length cap]):=(e7.out.box.alloc _).drew;have b8 : ∀ j u,(cz ⟨⟨2,O,ats,[]⟩,.slice J ats.length D,aB s l,0,0⟩)[j]? = some u→((Z.alloc (.cells (cz ⟨⟨2,O,ats,[]⟩,.slice J ats.length D,aB s l,0,0⟩).toArray 162)).drew).cell? ⟨Z.heap.size,j,none⟩=some u:=fun j u hu=>(ak.new Z (cz ⟨⟨2,O,ats,[]⟩,.slice J ats.length D,aB s l,0,0⟩) 162 _ rfl).cell j u hu;have b9 : ∀ u ∈ cz ⟨⟨2,O,ats,[]⟩,.slice J ats.length D,aB s l,0,0⟩,u.oneCell'=true:=by intro u hu; simp [cz] at hu; rcases hu with rfl | rfl | rfl | rfl | rfl | rfl | rfl <;> rfl
        have e8:=zH b8;have fz:=zH b9;have b4:=zH ((bc.out.own.alloc (.cells (cz ⟨⟨2,O,ats,[]⟩,.slice J ats.length D,aB s l,0,0⟩).toArray 162)).drew);have em:Hid ((L.length+1)*88≤140737488355328):=by show _≤_; omega
        have el:Hid (b+1≤((Z.alloc (.cells (cz ⟨⟨2,O,ats,[]⟩,.slice J ats.length D,aB s l,0,0⟩).toArray 162)).drew).heap.size):=by show _≤_; simp; omega
        have c9:Hid (((Z.alloc (.cells (cz ⟨⟨2,O,ats,[]⟩,.slice J ats.length D,aB s l,0,0⟩).toArray 162)).drew).heap.size=Z.heap.size+1):=by show _=_; simp
        clear b8 b9;go_region_law (first | (refine aW rfl (.tmp 110) (.tmp 112) 154 rfl (b+1) 162 Tryz.underlying154 cQ rfl (by decide) df (.slice ao L.length cap) L (by simp [Act.eval]) b4.out Z.heap.size ⟨⟨2,O,ats,[]⟩,.slice J ats.length D,aB s l,0,0⟩ (by simp [Act.eval]) e8.out fz.out em.out (by decide) el.out (Z.heap.size+1) c9.out ?_; intro g8 ht w8 a4 U dn hj; have a8:=zH (dl.out.grown U dk.out); have e2:=a8.out.cell 2 _ rfl; have hU:=a8.out.free 2; have hT:=a8.out.lt; have ef:=zH a4; have eg:=zH U; clear a4 U dn))
        all_goals
         go_end0
         rw [show cL l' = .ok ⟨2,O,ats,[]⟩ r by unfold cL; rw [HP.out]; simp only [cO.bind]; rw [c8.out]; simp only; rw [bg.out]; rfl];obtain ⟨h1,h2⟩:=bc.out.push fv.out gv (x:=⟨⟨2,O,ats,[]⟩,.slice J ats.length D,aB s l,0,0⟩) ga.out eg.out ef.out;exact ⟨rfl,_,_,h1,h2⟩
     · have dg:([47]:Bs).isPrefixOf r2=false:=Bool.eq_false_iff.2 bo
       rw [dg] at al;have e9:=zH al
       have d6:Hid (cL l'=(dd 62 r2).map fun _=>⟨1,O,ats,[]⟩):=by
        show _=_
        unfold cL; rw [HP.out]; simp only [cO.bind]; rw [c8.out]; simp only;split
        · simp at dg
        · rfl
       clear al bo dg;refine e9.out.mono ?_
       rintro e w' ⟨rfl,n7,rfl⟩;go_wp2_with fail
       have a9:=ad.drewN n7;have a5:=b0.drewN n7;have ba:=d4.trans (aX W6 n7 _);have co:=d5.keptR (aX W6 n7 (some b)) (by have:=ag.out; omega);have A:=fP b s 62 r2 (.slice ao L.length cap) (W6.drewN n7) a9 d0;cases I:dd 62 r2 with
       | bad x r =>
        rw [I] at A;have bg:=zH I;clear I;have ah:=zH A;clear A a9 a5 ad b0;refine ah.out.mono ?_
        intro e w2 hO;obtain ⟨rfl,hg⟩:mU x s r b _ e w2:=hO;go_wp2
        rw [show cL l' = .bad x r by rw [d6.out,bg.out]; rfl];exact ⟨rfl,rfl,bi (ba.trans hg) (by omega)⟩
       | ok u r =>
        rw [I] at A;have bg:=zH I;clear I;refine A.mono ?_
        clear A;intro e Z hO;obtain ⟨rfl,ac,hg⟩:ft (.tuple #[]) b s r (.slice ao L.length cap) _ e Z:=hO;have a7:=a5.grownB hg (by omega);have bb:=ba.trans hg;have ga:Hid (aj (b+1) 166 2 gJ Z (.slice J ats.length D) ats):=(co.keptR hg (by have:=ag.out; omega)).base_mono (by have:=ag.out; omega);clear a5 ba hg a9 co b0 d4 ad d5;go_wp2
        have c2:=ac.c2;have f2:=ac.box.free 2;have hr:=ac.box.lt;obtain ⟨t0,t1,t2,t3,t4,t5,t6⟩:=xE a7;have hE:=a7.lt;have bc:=zH (H0.out.kept bb ac);have e7:=zH ac;have fv:=zH bb;clear a7 ac bb;have dk:Hid (some b≠(Value.slice ao L.length cap).ownBlock):=fun e=>by have:=(bc.out.own.lt b e.symm).1; omega
        have dl:Hid (ak ((Z.alloc (.cells (cz ⟨⟨1,O,ats,[]⟩,.slice J ats.length D,aB s l,0,0⟩).toArray 162)).drew) b [.string s,.int .i64 (aB s r:Nat),.slice ao L.length cap]):=(e7.out.box.alloc _).drew;have b8 : ∀ j u,(cz ⟨⟨1,O,ats,[]⟩,.slice J ats.length D,aB s l,0,0⟩)[j]? = some u→((Z.alloc (.cells (cz ⟨⟨1,O,ats,[]⟩,.slice J ats.length D,aB s l,0,0⟩).toArray 162)).drew).cell? ⟨Z.heap.size,j,none⟩=some u:=fun j u hu=>(ak.new Z (cz ⟨⟨1,O,ats,[]⟩,.slice J ats.length D,aB s l,0,0⟩) 162 _ rfl).cell j u hu;have b9 : ∀ u ∈ cz ⟨⟨1,O,ats,[]⟩,.slice J ats.length D,aB s l,0,0⟩,u.oneCell'=true:=by intro u hu; simp [cz] at hu; rcases hu with rfl | rfl | rfl | rfl | rfl | rfl | rfl <;> rfl
        have e8:=zH b8;have fz:=zH b9;have b4:=zH ((bc.out.own.alloc (.cells (cz ⟨⟨1,O,ats,[]⟩,.slice J ats.length D,aB s l,0,0⟩).toArray 162)).drew);have em:Hid ((L.length+1)*88≤140737488355328):=by show _≤_; omega
        have el:Hid (b+1≤((Z.alloc (.cells (cz ⟨⟨1,O,ats,[]⟩,.slice J ats.length D,aB s l,0,0⟩).toArray 162)).drew).heap.size):=by show _≤_; simp; omega
        have c9:Hid (((Z.alloc (.cells (cz ⟨⟨1,O,ats,[]⟩,.slice J ats.length D,aB s l,0,0⟩).toArray 162)).drew).heap.size=Z.heap.size+1):=by show _=_; simp
        clear b8 b9;go_region_law (first | (refine aW rfl (.tmp 110) (.tmp 112) 154 rfl (b+1) 162 Tryz.underlying154 cQ rfl (by decide) df (.slice ao L.length cap) L (by simp [Act.eval]) b4.out Z.heap.size ⟨⟨1,O,ats,[]⟩,.slice J ats.length D,aB s l,0,0⟩ (by simp [Act.eval]) e8.out fz.out em.out (by decide) el.out (Z.heap.size+1) c9.out ?_; intro g8 ht w8 a4 U dn hj; have a8:=zH (dl.out.grown U dk.out); have e2:=a8.out.cell 2 _ rfl; have hU:=a8.out.free 2; have hT:=a8.out.lt; have ef:=zH a4; have eg:=zH U; clear a4 U dn))
        all_goals
         go_end0
         rw [show cL l' = .ok ⟨1,O,ats,[]⟩ r by rw [d6.out,bg.out]; rfl];obtain ⟨h1,h2⟩:=bc.out.push fv.out gv (x:=⟨⟨1,O,ats,[]⟩,.slice J ats.length D,aB s l,0,0⟩) ga.out eg.out ef.out;exact ⟨rfl,_,_,h1,h2⟩
theorem vF (b:Nat) (s:S) (l:Bs) (ov:Value) (L:List kp) (m:Int) (w:World) (h:jJ w b s l ov L) (I:s.size≤65536) (hm:w.cell? ⟨0,0,none⟩=some (.int .i64 m)) (J:L.length≤1000000) :
    Calls Tryz.prog 121 #[.pointer (some ⟨b,0,none⟩)] w (uE b s (aB s l) L w (cF (decide (aB s l=0)) l)):=by
 obtain ⟨ao,cap,rfl⟩:=h.own.shape;by_cases h1:iT.isPrefixOf l=true
 · have:=xL b s l ao cap L m w h I hm J h1
   unfold cF; rw [if_pos h1]; exact this
 · have A:=Bool.eq_false_iff.2 h1
   by_cases h2:ld.isPrefixOf l=true
   · have:=xN b s l ao cap L m w h I hm J A h2
     unfold cF; rw [if_neg h1,if_pos h2]; exact this
   · have D:=Bool.eq_false_iff.2 h2
     by_cases h3:(decide (aB s l=0) && da l)=true
     · have O:=h3
       rw [Bool.and_eq_true,decide_eq_true_eq] at O;have:=xM b s l ao cap L m w h I hm J A D O.1 O.2
       unfold cF; rw [if_neg h1,if_neg h2,if_pos h3]; exact this
     · have hh:aB s l=0→da l=false:=fun e=>by
        cases U:da l
        · rfl
        · exact absurd (by simp [e,U]) h3
       unfold cF; rw [if_neg h1,if_neg h2,if_neg h3];split
       · rename_i l' 
         exact vH b s _ ao cap L m w h I hm J l' rfl A D hh
       · rename_i l' hx
         refine xK b s _ ao cap L m w h I hm J l' rfl ?_ A D hh
         cases l' with
         | nil=>rfl
         | cons c r =>
          simp only [List.isPrefixOf,Bool.and_true];have:c≠47:=fun e=>hx r (by rw [e])
          simpa using Ne.symm this
       · rename_i hx hy
         refine xJ b s _ ao cap L m w h I hm J A D hh ?_
         cases l with
         | nil=>rfl
         | cons c r =>
          simp only [List.isPrefixOf,Bool.and_true];have:c≠60:=fun e=>hy r (by rw [e])
          simpa using Ne.symm this
def eM (s:Bs) (o:Nat):Value:=.agg #[.int .i64 o,.int .i64 (az (s.take o)).1,.int .i64 (az (s.take o)).2]
theorem zn (s:S) (o:Nat) (w:World) (h:o≤s.size) (hs:s.size≤1000000) :
    Calls Tryz.prog 84 #[.string s,.int .i64 o] w fun e w'=>e = .returned (eM s.data.toList o)∧Below w.heap.size w w':=by
 have D:Hid ((s.extract 0 o).data.toList=s.data.toList.take o):=by show _=_; rw [Lib.extract_data]; simp
 have hz:Hid ((s.extract 0 o).size=o):=by show _=_; rw [← au,D.out,List.length_take,au]; omega
 have Z:=zH (fun w=>xh (s.extract 0 o) w);have J:=zH (fun w=>o9 (s.extract 0 o) w (by rw [hz.out]; omega));rw [D.out] at Z J;rw [hz.out] at J;obtain ⟨b1,b2,U,O⟩:=jv (s.data.toList.take o);rw [List.length_take] at U O;have b5:(az (s.data.toList.take o)).1≤1000001:=by omega
 have b6:(az (s.data.toList.take o)).2≤1000001:=by omega
 unfold eM;generalize (az (s.data.toList.take o)).1=A at *;generalize (az (s.data.toList.take o)).2=I at *;clear U O D;have m1:min (o:Int) (s.size:Int)=(o:Int):=by omega
 have m2:max (0:Int) (o:Int)=(o:Int):=by omega
 go_enter Tryz.func84,Tryz.ntmps84
 go_wp2_with fail
 refine (Z.out _).mono ?_
 rintro e w' ⟨rfl,rfl⟩;go_wp2_with fail
 refine (J.out _).mono ?_
 rintro e w' ⟨rfl,rfl⟩;go_wp2
 refine bodyPost_ret (v:=.agg #[.int .i64 o,.int .i64 (1+((A:Int) - 1)),.int .i64 ((o:Int) - ((o:Int) - I))]) (by simp [results,Tryz.results84,go_sem]) rfl ⟨?_,(Below.refl _ _).alloc (Nat.le_refl _) _⟩
 rw [show 1+((A:Int) - 1)=(A:Int) by omega,show (o:Int) - ((o:Int) - I)=(I:Int) by omega]
theorem rt (x o:Int) (w:World):(Instr.typeAssert (.iface 203 (.agg #[.int .i64 x,.int .i64 o])) 20 203 true).run Tryz.prog w = .ok (.tuple #[.agg #[.int .i64 x,.int .i64 o],.bool true]) w:=by kernel_rfl
theorem mS (B:Nat) (s:S) (x:Int) (o:Nat) (O:List PanicEntry) (v1 v2 p0 p1 p2:Value) (w:World) (ho:o≤s.size) (hs:s.size≤1000000)
    (h0:ak w B [.string s]) (h1:ak w (B+1) [v1]) (h2:ak w (B+2) [v2]) (h3:ak w (B+3) [p0,p1,p2]) :
    CallsD Tryz.prog 119 #[.pointer (some ⟨B,0,none⟩),.pointer (some ⟨B+1,0,none⟩),.pointer (some ⟨B+2,0,none⟩),.pointer (some ⟨B+3,0,none⟩)] (.panicking ({ v:=kF x o,recovered:=false }::O)) w fun e u' w' =>
     e = .returned (.tuple #[])∧u' = .panicking ({ v:=kF x o,recovered:=true }::O)∧ak w' (B+1) [.slice none 0 0]∧ak w' (B+2) [.int .i64 x]∧(∃ q0 q1 q2,eM s.data.toList o = .agg #[q0,q1,q2]∧ak w' (B+3) [q0,q1,q2])∧Below B w w':=by
 refine callsD_of_wpS Tryz.func119 rfl fun c₀ cs hu=>?_
 apply wpS_seq
 apply wpS_region
 simp [wpOpsS,go_sem,recoverD,hu,Tryz.ntmps119,Exit.thenS]
 refine wpS_of_wp ?_
 have ht : ∀ a b c d v:Value,(#[a,b,c,d] ++ (Array.replicate 15 undef).setIfInBounds 3 v:Array Value)=#[a,b,c,d,undef,undef,undef,v,undef,undef,undef,undef,undef,undef,undef,undef,undef,undef,undef]:=fun _ _ _ _ _=>rfl;rw [ht];clear ht;simp only [kF];have bv:Hid (∀ w,Calls Tryz.prog 84 #[.string s,.int .i64 o] w fun e w'=>e = .returned (.agg #[.int .i64 o,.int .i64 (az (s.data.toList.take o)).1,.int .i64 (az (s.data.toList.take o)).2])∧Below w.heap.size w w'):=fun w=>zn s o w ho hs;have bb:=rt x o;have J:=zH (And.intro h0 (And.intro h1 (And.intro h2 h3)));have l3:=h3.lt;clear h0 h1 h2 h3;generalize al:(az (s.data.toList.take o)).1=U at *;generalize a8:(az (s.data.toList.take o)).2=Z at *;have bl:=zH al;have bo:=zH a8;clear al a8;go_wp2
 refine ai fun W hW=>?_
 have hF:ak W w.heap.size [.int .i64 x,.int .i64 o]:=by rw [hW]; exact ak.new w _ _ _ rfl
 have I:Below w.heap.size w W:=by rw [hW]; exact (Below.refl _ _).alloc (Nat.le_refl _) _
 clear hW bb;have h0:=J.out.1.below I J.out.1.lt;have h1:=J.out.2.1.below I J.out.2.1.lt;have h2:=J.out.2.2.1.below I J.out.2.2.1.lt;have h3:=J.out.2.2.2.below I J.out.2.2.2.lt;have a0:=h0.cell 0 _ rfl;have a1:=hF.cell 0 _ rfl;have a2:=hF.cell 1 _ rfl;have a3:=h1.cell 0 _ rfl;have a4:=h2.cell 0 _ rfl;obtain ⟨a5,a6,a7⟩:=ej h3;have f3:=h1.free 0;have f4:=h2.free 0;have f5:=h3.free 0;have f6:=h3.free 1;have f7:=h3.free 2;have lF:=hF.lt;have KF:=zH hF;have K1:=zH h1;have K2:=zH h2;have D:=zH h3;clear h0 h1 h2 h3 hF;go_region_with ((go_at_call 84; refine (bv.out _).mono ?_; rintro e w9 ⟨rfl,ag⟩; have A:Hid (Below W.heap.size W w9):=(Below.drew (Below.refl W.heap.size W)).trans ag; clear ag; have b1:=(KF.out.below A.out KF.out.lt).cell 0 _ rfl; have b3:=(K1.out.below A.out K1.out.lt).cell 0 _ rfl; have b4:=(K2.out.below A.out K2.out.lt).cell 0 _ rfl; have b5:=(D.out.below A.out D.out.lt).cell 0 _ rfl; have b6:=(D.out.below A.out D.out.lt).cell 1 _ rfl; have b7:=(D.out.below A.out D.out.lt).cell 2 _ rfl; have g3:=(K1.out.below A.out K1.out.lt).free 0; have g4:=(K2.out.below A.out K2.out.lt).free 0; have g5:=(D.out.below A.out D.out.lt).free 0; have g6:=(D.out.below A.out D.out.lt).free 1; have g7:=(D.out.below A.out D.out.lt).free 2; have l9:=(D.out.below A.out D.out.lt).lt))
 all_goals
  have z1:ak (((((w9.setCell ⟨B+1,0,none⟩ (.slice none 0 0)).setCell ⟨B+2,0,none⟩ (.int .i64 x)).setCell ⟨B+3,0,none⟩ (.int .i64 o)).setCell ⟨B+3,1,none⟩ (.int .i64 U)).setCell ⟨B+3,2,none⟩ (.int .i64 Z)) (B+1) [.slice none 0 0] :=
   (((((K1.out.below A.out K1.out.lt).set 0 _).grownB (ab _ (B+2) 0 _) (by omega)).grownB (ab _ (B+3) 0 _) (by omega)).grownB (ab _ (B+3) 1 _) (by omega)).grownB (ab _ (B+3) 2 _) (by omega)
  have z2:ak (((((w9.setCell ⟨B+1,0,none⟩ (.slice none 0 0)).setCell ⟨B+2,0,none⟩ (.int .i64 x)).setCell ⟨B+3,0,none⟩ (.int .i64 o)).setCell ⟨B+3,1,none⟩ (.int .i64 U)).setCell ⟨B+3,2,none⟩ (.int .i64 Z)) (B+2) [.int .i64 x] :=
   (((((K2.out.below A.out K2.out.lt).grownB (ab _ (B+1) 0 _) (by omega)).set 0 _).grownB (ab _ (B+3) 0 _) (by omega)).grownB (ab _ (B+3) 1 _) (by omega)).grownB (ab _ (B+3) 2 _) (by omega)
  have z3:ak (((((w9.setCell ⟨B+1,0,none⟩ (.slice none 0 0)).setCell ⟨B+2,0,none⟩ (.int .i64 x)).setCell ⟨B+3,0,none⟩ (.int .i64 o)).setCell ⟨B+3,1,none⟩ (.int .i64 U)).setCell ⟨B+3,2,none⟩ (.int .i64 Z)) (B+3) [.int .i64 o,.int .i64 U,.int .i64 Z] :=
   (((((D.out.below A.out D.out.lt).grownB (ab _ (B+1) 0 _) (by omega)).grownB (ab _ (B+2) 0 _) (by omega)).set 0 _).set 1 _).set 2 _
  have z4:Below B w (((((w9.setCell ⟨B+1,0,none⟩ (.slice none 0 0)).setCell ⟨B+2,0,none⟩ (.int .i64 x)).setCell ⟨B+3,0,none⟩ (.int .i64 o)).setCell ⟨B+3,1,none⟩ (.int .i64 U)).setCell ⟨B+3,2,none⟩ (.int .i64 Z)) :=
   ((((((I.mono (by omega)).trans (A.out.mono (by omega))).setCell (p:=⟨B+1,0,none⟩) (by simp) _).setCell (p:=⟨B+2,0,none⟩) (by simp) _).setCell (p:=⟨B+3,0,none⟩) (by simp) _).setCell (p:=⟨B+3,1,none⟩) (by simp) _).setCell (p:=⟨B+3,2,none⟩) (by simp) _
  exact ⟨rfl,_,rfl,.tuple #[],by simp [results,Tryz.results119,go_sem],rfl,rfl,z1,z2,⟨.int .i64 o,.int .i64 U,.int .i64 Z,by unfold eM; rw [bl.out,bo.out],z3⟩,z4⟩
theorem ut (a b c d:Addr) (w:World) :
    CallsD Tryz.prog 119 #[.pointer (some a),.pointer (some b),.pointer (some c),.pointer (some d)] .returning w fun e D w'=>e = .returned (.tuple #[])∧D = .returning∧w'=w:=by
 refine callsD_of_wpS Tryz.func119 rfl fun J cs I=>?_
 apply wpS_seq
 apply wpS_region
 simp [wpOpsS,go_sem,recoverD,I,Tryz.ntmps119,Exit.thenS]
 refine wpS_of_wp ?_
 have A : ∀ a b c d v:Value,(#[a,b,c,d] ++ (Array.replicate 15 undef).setIfInBounds 3 v:Array Value)=#[a,b,c,d,undef,undef,undef,v,undef,undef,undef,undef,undef,undef,undef,undef,undef,undef,undef]:=fun _ _ _ _ _=>rfl;rw [A];clear A;go_wp2
 refine ⟨rfl,.returning,?_,.tuple #[],by simp [results,Tryz.results119,go_sem],rfl,rfl,rfl⟩
 cases J
 simp_all
structure qA (base:Nat) (w:World) (s:S) (ov:Value) (L:List kp) (acc:List (Tk × Bs)):Prop where
 own:aj base 162 7 cz w ov L
 att : ∀ x ∈ L,aj base 166 2 gJ w x.av x.t.attrs
 is:L.map (fun x=>(x.t,x.off,x.line,x.col))=acc.map (fun p=>(p.1,(aB s p.2:Int),((az (s.data.toList.take (aB s p.2))).1:Int),((az (s.data.toList.take (aB s p.2))).2:Int)))
def eT:Value:=.agg #[.int .i64 0,.int .i64 0,.int .i64 0]
def kM (s:S) (w:World):cO (List (Tk × Bs))→Ending→World→Prop
 | .ok acc _=>fun e w'=>∃ ov L,e = .returned (.tuple #[ov,.int .i64 0,eT])∧qA w.heap.size w' s ov L acc∧Below w.heap.size w w'
 | .bad x r=>fun e w'=>e = .returned (.tuple #[.slice none 0 0,.int .i64 x,eM s.data.toList (aB s r)])∧Below w.heap.size w w'
structure iP (W:World) (B:Nat) (s:S) (v1 v2 p0 p1 p2:Value):Prop where
 x0:ak W B [.string s]
 x1:ak W (B+1) [v1]
 x2:ak W (B+2) [v2]
 x3:ak W (B+3) [p0,p1,p2]
theorem iP.made (w:World) (s:S):iP ((((w.alloc (.cells #[.string s] 9)).alloc (.cells #[.slice none 0 0] 154)).alloc (.cells #[.int .i64 0] 56)).alloc (.cells #[.int .i64 0,.int .i64 0,.int .i64 0] 58)) w.heap.size s (.slice none 0 0) (.int .i64 0) (.int .i64 0) (.int .i64 0) (.int .i64 0) :=
 ⟨(((ak.new w [.string s] _ _ rfl).alloc _).alloc _).alloc _,(((ak.new _ [.slice none 0 0] _ _ (by simp)).alloc _).alloc _),((ak.new _ [.int .i64 0] _ _ (by simp)).alloc _),ak.new _ [.int .i64 0,.int .i64 0,.int .i64 0] _ _ (by simp)⟩
theorem iP.below {W W':World} {B:Nat} {s:S} {v1 v2 p0 p1 p2:Value} (h:iP W B s v1 v2 p0 p1 p2) (A:Below W.heap.size W W'):iP W' B s v1 v2 p0 p1 p2 :=
 ⟨h.x0.below A h.x0.lt,h.x1.below A h.x1.lt,h.x2.below A h.x2.lt,h.x3.below A h.x3.lt⟩
theorem iP.belowB {W W':World} {B C:Nat} {s:S} {v1 v2 p0 p1 p2:Value} (h:iP W B s v1 v2 p0 p1 p2) (A:Below C W W') (D:B+3<C):iP W' B s v1 v2 p0 p1 p2 :=
 ⟨h.x0.below A (by omega),h.x1.below A (by omega),h.x2.below A (by omega),h.x3.below A (by omega)⟩
theorem iP.store {W:World} {B:Nat} {s:S} {v1 v2 p0 p1 p2:Value} (h:iP W B s v1 v2 p0 p1 p2) (u1 u2 A q1 q2:Value):iP (((((W.setCell ⟨B+1,0,none⟩ u1).setCell ⟨B+2,0,none⟩ u2).setCell ⟨B+3,0,none⟩ A).setCell ⟨B+3,1,none⟩ q1).setCell ⟨B+3,2,none⟩ q2) B s u1 u2 A q1 q2 :=
 ⟨((((h.x0.grownB (ab _ (B+1) 0 _) (by omega)).grownB (ab _ (B+2) 0 _) (by omega)).grownB (ab _ (B+3) 0 _) (by omega)).grownB (ab _ (B+3) 1 _) (by omega)).grownB (ab _ (B+3) 2 _) (by omega),
  ((((h.x1.set 0 _).grownB (ab _ (B+2) 0 _) (by omega)).grownB (ab _ (B+3) 0 _) (by omega)).grownB (ab _ (B+3) 1 _) (by omega)).grownB (ab _ (B+3) 2 _) (by omega),
  ((((h.x2.grownB (ab _ (B+1) 0 _) (by omega)).set 0 _).grownB (ab _ (B+3) 0 _) (by omega)).grownB (ab _ (B+3) 1 _) (by omega)).grownB (ab _ (B+3) 2 _) (by omega),
  ((((h.x3.grownB (ab _ (B+1) 0 _) (by omega)).grownB (ab _ (B+2) 0 _) (by omega)).set 0 _).set 1 _).set 2 _⟩
theorem sX {A W:World} {B:Nat} (h:Below B A W) (u1 u2 D q1 q2:Value):Below B A (((((W.setCell ⟨B+1,0,none⟩ u1).setCell ⟨B+2,0,none⟩ u2).setCell ⟨B+3,0,none⟩ D).setCell ⟨B+3,1,none⟩ q1).setCell ⟨B+3,2,none⟩ q2) :=
 ((((h.setCell (p:=⟨B+1,0,none⟩) (by simp) _).setCell (p:=⟨B+2,0,none⟩) (by simp) _).setCell (p:=⟨B+3,0,none⟩) (by simp) _).setCell (p:=⟨B+3,1,none⟩) (by simp) _).setCell (p:=⟨B+3,2,none⟩) (by simp) _
def cN (s:S) (x:kp):kp:={ x with line:=(az (s.data.toList.take x.off.toNat)).1,col:=(az (s.data.toList.take x.off.toNat)).2 }
theorem iP.setHigh {W:World} {B:Nat} {s:S} {v1 v2 p0 p1 p2:Value} (h:iP W B s v1 v2 p0 p1 p2) {g:Nat} (A:B+3<g) (j:Nat) (u:Value):iP (W.setCell ⟨g,j,none⟩ u) B s v1 v2 p0 p1 p2 :=
 ⟨h.x0.grownB (ab _ g j _) (by omega),h.x1.grownB (ab _ g j _) (by omega),h.x2.grownB (ab _ g j _) (by omega),h.x3.grownB (ab _ g j _) (by omega)⟩
structure oL (w wr:World) (s:S) (ao:Option Addr) (cap:Nat) (L:List kp) (k:Nat):Prop where
 rd:Rd wr (w.heap.size+4) s [] (.slice ao L.length cap)
 vars:iP wr w.heap.size s (.slice none 0 0) (.int .i64 0) (.int .i64 0) (.int .i64 0) (.int .i64 0)
 below:Below w.heap.size w wr
 own:aj (w.heap.size+5) 162 7 cz wr (.slice ao L.length cap) ((L.take k).map (cN s) ++ L.drop k)
 att : ∀ x ∈ (L.take k).map (cN s) ++ L.drop k,aj (w.heap.size+5) 166 2 gJ wr x.av x.t.attrs
theorem lE {s:S} {L:List kp} {k:Nat} (hk:k<L.length):((L.take k).map (cN s) ++ L.drop k)[k]? = some L[k]:=by
 rw [List.getElem?_append_right (by simp; omega)];simp [Nat.min_eq_left (Nat.le_of_lt hk)]
theorem sQ {s:S} {L:List kp} {k:Nat} (hk:k<L.length):((L.take k).map (cN s) ++ L.drop k).set k (cN s L[k])=(L.take (k+1)).map (cN s) ++ L.drop (k+1):=by
 have A:((L.take k).map (cN s)).length=k:=by simp; omega
 rw [List.set_append_right _ _ (by omega),A,Nat.sub_self,List.drop_eq_getElem_cons hk,List.set_cons_zero,List.take_succ_eq_append_getElem hk,List.map_append];simp
theorem oL.step {w wr:World} {s:S} {g cap:Nat} {L:List kp} {k:Nat} (h:oL w wr s (some ⟨g,0,none⟩) cap L k) (hk:k<L.length) (hg:w.heap.size+5≤g) :
    oL w ((wr.setCell ⟨g,k*7+5,none⟩ (.int .i64 (cN s L[k]).line)).setCell ⟨g,k*7+6,none⟩ (.int .i64 (cN s L[k]).col)) s (some ⟨g,0,none⟩) cap L (k+1):=by
 have A:((L.take k).map (cN s) ++ L.drop k).length=L.length:=by simp; omega
 have ac:aj (w.heap.size+5) 162 7 cz wr (.slice (some ⟨g,0,none⟩) ((L.take k).map (cN s) ++ L.drop k).length cap) ((L.take k).map (cN s) ++ L.drop k):=by rw [A]; exact h.own
 obtain ⟨g1,e1,-,-,-,-,-,U⟩:=bO (j:=5) df ac (lE hk) (by decide);cases e1
 have aa:=U (.int .i64 (cN s L[k]).line) { L[k] with line:=(cN s L[k]).line } rfl
 have I:(((L.take k).map (cN s) ++ L.drop k).set k { L[k] with line:=(cN s L[k]).line })[k]? = some { L[k] with line:=(cN s L[k]).line }:=by
  rw [List.getElem?_set,if_pos rfl,if_pos (by rw [A]; exact hk)]
 obtain ⟨g2,e2,-,-,-,-,-,O⟩:=bO (j:=6) df aa I (by decide);cases e2
 have D:=O (.int .i64 (cN s L[k]).col) (cN s L[k]) rfl;rw [List.set_set,sQ hk] at D;have ah:((L.take (k+1)).map (cN s) ++ L.drop (k+1)).length=L.length:=by simp; omega
 refine ⟨(h.rd.setOther (by omega) _ _).setOther (by omega) _ _,(h.vars.setHigh (by omega) _ _).setHigh (by omega) _ _,(h.below.setCell (p:=⟨g,_,none⟩) (by simp; omega) _).setCell (p:=⟨g,_,none⟩) (by simp; omega) _,?_,?_⟩
 · rw [A] at D; exact D
 · intro x hx
   have Z : ∃ y ∈ (L.take k).map (cN s) ++ L.drop k,y.av=x.av∧y.t=x.t:=by
    rw [← sQ hk] at hx;obtain ⟨i,hi,rfl⟩:=List.mem_iff_getElem.1 hx;rw [List.length_set] at hi;rw [List.getElem_set];split
    · exact ⟨L[k],List.mem_of_getElem? (lE hk),rfl,rfl⟩
    · exact ⟨_,List.getElem_mem hi,rfl,rfl⟩
   obtain ⟨y,hy,ha,ht⟩:=Z;have h1:=h.att y hy;rw [ha,ht] at h1;have J:=pI h1 h.own (by decide);have h2:=h1.kept (ab wr g (k*7+5) (.int .i64 (cN s L[k]).line)) J;exact h2.kept (ab _ g (k*7+6) (.int .i64 (cN s L[k]).col)) J
end Go.Proofs.YtominiaohfjobaaGreatDoor
