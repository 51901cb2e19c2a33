/- The walk of the program's reader's token at a beginning of an element; the conditions stand in the theorem. -/
import Derived.Test.YtphaeegbmfpcgaaGreatDoorFB06
import Derived.Test.YtphaeegbmfpcgaaGreatDoorFB09
import Derived.Defers
import Derived.Recover
import Derived.Laws.Pointers
import Derived.Test.YtphaeegbmfpcgaaGreatDoorFB08

namespace Go.Proofs.YtphaeegbmfpcgaaGreatDoor
open Go Go.RowKit

set_option maxRecDepth 100000 in
set_option maxHeartbeats 8000000 in
theorem tok_open (b : Nat) (s : S) (l : Bs) (ao : Option Addr) (cap : Nat) (L : List TkM) (m : Int) (w : World) (h : Toks w b s l (.slice ao L.length cap) L) (hs : s.size ≤ 65536) (hm : w.cell? ⟨0, 0, none⟩ = some (.int .i64 m)) (hL : L.length ≤ 1000000)
    (l' : Bs) (hl : l = 60 :: l') (hsl : ([47] : Bs).isPrefixOf l' = false) (hno : sNote.isPrefixOf l = false) (hno2 : sData.isPrefixOf l = false) (hh : pos s l = 0 → isHead l = false) :
    Calls Tryz.prog 121 #[.pointer (some ⟨b, 0, none⟩)] w (OutT b s (pos s l) L w (openR l')) := by
 have hlt0 := h.rd.box.lt
 have c1 := h.rd.c1
 have H0 := Lib.hid h
 have hs2 : s.size ≤ 1000000 := by omega
 have HM := Lib.hid hm
 have hp := pos_add h.rd.suf
 have hpb : (pos s l : Int) ≤ 65536 := by omega
 have HA : Hid (∀ w, Rd w b s l (.slice ao L.length cap) → Calls Tryz.prog 153 #[.pointer (some ⟨b, 0, none⟩), .string ⟨#[60, 33, 45, 45]⟩] w (Qt (.bool false) w)) := fun w h => by
  have := has_pre b s l (.slice ao L.length cap) ⟨#[60, 33, 45, 45]⟩ w h
  rw [show (⟨#[60, 33, 45, 45]⟩ : S).data.toList.isPrefixOf l = false from hno] at this; exact this
 have HB : Hid (∀ w, Rd w b s l (.slice ao L.length cap) → Calls Tryz.prog 153 #[.pointer (some ⟨b, 0, none⟩), .string ⟨#[60, 33, 91, 67, 68, 65, 84, 65, 91]⟩] w (Qt (.bool false) w)) := fun w h => by
  have := has_pre b s l (.slice ao L.length cap) ⟨#[60, 33, 91, 67, 68, 65, 84, 65, 91]⟩ w h
  rw [show (⟨#[60, 33, 91, 67, 68, 65, 84, 65, 91]⟩ : S).data.toList.isPrefixOf l = false from hno2] at this; exact this
 have hlt2 : ([60, 47] : Bs).isPrefixOf l = false := by rw [hl]; simp only [List.isPrefixOf, beq_self_eq_true, Bool.true_and]; exact hsl
 have HC : Hid (∀ w, Rd w b s l (.slice ao L.length cap) → Calls Tryz.prog 153 #[.pointer (some ⟨b, 0, none⟩), .string ⟨#[60, 47]⟩] w (Qt (.bool false) w)) := fun w h => by
  have := has_pre b s l (.slice ao L.length cap) ⟨#[60, 47]⟩ w h
  rw [show (⟨#[60, 47]⟩ : S).data.toList.isPrefixOf l = false from hlt2] at this; exact this
 have HD : Hid (∀ w, Rd w b s l (.slice ao L.length cap) → Calls Tryz.prog 153 #[.pointer (some ⟨b, 0, none⟩), .string ⟨#[60]⟩] w (Qt (.bool true) w)) := fun w h => by
  have := has_pre b s l (.slice ao L.length cap) ⟨#[60]⟩ w h
  rw [show (⟨#[60]⟩ : S).data.toList.isPrefixOf l = true from (by rw [hl]; rfl)] at this; exact this
 have HSUF : Hid (l' <:+ s.data.toList) := by have := h.rd.suf; rw [hl] at this; exact suf_tail this
 have HPOS : Hid (pos s l' = pos s l + 1) := by have h1 := pos_add HSUF.out; rw [hl] at hp ⊢; simp only [List.length_cons] at hp; show _ = _; omega
 clear hno hno2 hl hlt2 hsl h hm
 by_cases hp0 : pos s l = 0
 · have e0 : (((pos s l : Nat) : Int) == 0) = true := by rw [hp0]; rfl
   have HIH : Hid (∀ w, Rd w b s l (.slice ao L.length cap) → Calls Tryz.prog 155 #[.pointer (some ⟨b, 0, none⟩)] w (Qt (.bool false) w)) := fun w h => by
    have := isHead_any b s l (.slice ao L.length cap) w h hs2
    rw [show isHead l = false from hh hp0] at this; exact this
   clear hp0 hh
   have hR : Rd (w.alloc (.cells #[.int .i64 0, .string ⟨#[]⟩, .slice none 0 0, .string ⟨#[]⟩, .int .i64 (pos s l), .int .i64 0, .int .i64 0] 157)) b s l (.slice ao L.length cap) := H0.out.rd.below ((Below.refl _ _).alloc (Nat.le_refl _) _)
   go_enter Tryz.func121, Tryz.ntmps121
   go_wp2_with fail
   refine Calls.world ?_
   intro W hW
   have hx : Box W w.heap.size [.int .i64 0, .string ⟨#[]⟩, .slice none 0 0, .string ⟨#[]⟩, .int .i64 (pos s l), .int .i64 0, .int .i64 0] := by rw [hW]; exact Box.new w _ _ _ rfl
   have hG : w.grownBy W (some b) := by rw [hW]; exact World.grownBy_alloc _ _ _
   rw [← hW] at hR
   have hm : W.cell? ⟨0, 0, none⟩ = some (.int .i64 m) := by rw [hW, World.cell?_alloc_lt _ _ _ (by simp; omega)]; exact HM.out
   clear hW
   clear c1
   have c1 := hR.c1
   have f1 := hR.f1
   have hltW := hR.box.lt
   refine (HA.out W hR).mono ?_
   rintro e w1 ⟨rfl, n0, rfl⟩
   go_wp2_with fail
   refine (HB.out _ (hR.drewN _)).mono ?_
   rintro e w1 ⟨rfl, n1, rfl⟩
   go_wp2_with fail
   refine (HIH.out _ (hR.drewN _)).mono ?_
   rintro e w1 ⟨rfl, n2, rfl⟩
   go_wp2_with fail
   refine (HC.out _ (hR.drewN _)).mono ?_
   rintro e w1 ⟨rfl, n3, rfl⟩
   go_wp2_with fail
   refine (HD.out _ (hR.drewN _)).mono ?_
   rintro e w1 ⟨rfl, n4, rfl⟩
   go_wp2_with fail
   refine Calls.world ?_
   intro W2 hW2
   have hRa : Rd W2 b s l' (.slice ao L.length cap) := by rw [hW2]; exact (hR.drewN _).move HSUF.out (v := .int .i64 ((pos s l : Int) + 1)) (by rw [HPOS.out]; rfl)
   have hxa : Box W2 w.heap.size [.int .i64 0, .string ⟨#[]⟩, .slice none 0 0, .string ⟨#[]⟩, .int .i64 (pos s l), .int .i64 0, .int .i64 0] := by rw [hW2]; exact (hx.drewN _).grownB (setCell_grown _ b 1 _) (by omega)
   have hGa : w.grownBy W2 (some b) := by rw [hW2]; exact (hG.trans (grownN _ _ _)).trans (setCell_grown _ b 1 _)
   clear hW2 hx hG hR hm c1 f1 hltW
   have hcall := rname_any b s 11 l' (.slice ao L.length cap) W2 hRa hs2
   cases hcl : nameR 11 l' with
   | bad x r =>
    rw [hcl] at hcall
    have HP := Lib.hid hcl
    clear hcl
    have HCL := Lib.hid hcall
    clear hcall hRa hxa
    go_wp2_with fail
    refine HCL.out.mono ?_
    intro e w2 hO
    obtain ⟨rfl, hg⟩ : Bad x s r b _ e w2 := hO
    go_wp2
    rw [show openR l' = .bad x r by unfold openR; rw [HP.out]; rfl]
    exact ⟨rfl, rfl, below_grown (hGa.trans hg) (by omega)⟩
   | ok nm r1 =>
    rw [hcl] at hcall
    have HP := Lib.hid hcl
    clear hcl
    have HCL := Lib.hid hcall
    clear hcall
    go_wp2_with fail
    refine HCL.out.mono ?_
    intro e w2 hO
    obtain ⟨rfl, hR2, hg⟩ : Goes (.string (bs nm)) b s r1 (.slice ao L.length cap) _ e w2 := hO
    have hx2 := hxa.grownB hg (by omega)
    have hG2 := hGa.trans hg
    have q1 := hx2.cell 1 _ rfl
    have qf1 := hx2.free 1
    have qlt := hx2.lt
    clear hxa hGa hg hRa HCL
    go_wp2_with fail
    refine Calls.world ?_
    intro W4 hW4
    have hx4 : Box W4 w.heap.size [.int .i64 0, .string (bs nm), .slice none 0 0, .string ⟨#[]⟩, .int .i64 (pos s l), .int .i64 0, .int .i64 0] := by rw [hW4]; exact hx2.set 1 _
    have hR4 : Rd W4 b s r1 (.slice ao L.length cap) := by rw [hW4]; exact hR2.setOther (by omega) _ _
    have hG4 : w.grownBy W4 (some b) := by rw [hW4]; exact grown_set hG2 (Nat.le_refl _) _ _
    clear hW4 hx2 hG2 hR2 q1 qf1 qlt
    have hB4 : Hid (w.heap.size < W4.heap.size) := hx4.lt
    have hcall := attrs_any b s r1 (.slice ao L.length cap) W4 hR4 hs2
    cases hcl : attrsR r1 with
    | bad x r =>
     rw [hcl] at hcall
     have HP2 := Lib.hid hcl
     clear hcl
     have HCL := Lib.hid hcall
     clear hcall hR4 hx4
     go_wp2_with fail
     refine HCL.out.mono ?_
     intro e w2 hO
     obtain ⟨rfl, hg⟩ : Bad x s r b _ e w2 := hO
     go_wp2
     rw [show openR l' = .bad x r by unfold openR; rw [HP.out]; simp only [Res.bind]; rw [HP2.out]]
     exact ⟨rfl, rfl, below_grown (hG4.trans hg) (by omega)⟩
    | ok ats r2 =>
     rw [hcl] at hcall
     have HP2 := Lib.hid hcl
     clear hcl
     refine hcall.mono ?_
     clear hcall
     intro e w5 hO
     obtain ⟨av, ⟨rfl, hR5, hg5⟩, hA5⟩ : ∃ v, Goes v b s r2 (.slice ao L.length cap) W4 e w5 ∧ Owns W4.heap.size 176 2 atC w5 v ats := hO
     have hx5 := hx4.grownB hg5 (by omega)
     have hG5 := hG4.trans hg5
     obtain ⟨ao5, cap5, rfl⟩ := hA5.shape
     have q0 := hx5.cell 0 _ rfl
     have q2 := hx5.cell 2 _ rfl
     have qf0 := hx5.free 0
     have qf2 := hx5.free 2
     have qlt := hx5.lt
     clear hx4 hG4 hR4 hg5
     go_wp2_with fail
     refine Calls.world ?_
     intro W6 hW6
     have hx6 : Box W6 w.heap.size [.int .i64 1, .string (bs nm), .slice ao5 ats.length cap5, .string ⟨#[]⟩, .int .i64 (pos s l), .int .i64 0, .int .i64 0] := by rw [hW6]; exact (hx5.set 2 _).set 0 _
     have hR6 : Rd W6 b s r2 (.slice ao L.length cap) := by rw [hW6]; exact (hR5.setOther (by omega) _ _).setOther (by omega) _ _
     have hG6 : w.grownBy W6 (some b) := by rw [hW6]; exact grown_set (grown_set hG5 (Nat.le_refl _) _ _) (Nat.le_refl _) _ _
     have hA6 : Owns W4.heap.size 176 2 atC W6 (.slice ao5 ats.length cap5) ats := by rw [hW6]; exact (hA5.keptR (setCell_grown _ _ _ _) hB4.out).keptR (setCell_grown _ _ _ _) hB4.out
     clear hW6 hx5 hG5 hR5 hA5 q0 q2 qf0 qf2 qlt
     have hhas := has_pre b s r2 (.slice ao L.length cap) ⟨#[47]⟩ W6 hR6
     rw [bs_one] at hhas
     by_cases hsl : ([47] : Bs).isPrefixOf r2 = true
     · obtain ⟨r3, rfl⟩ : ∃ r3, r2 = 47 :: r3 := by
        obtain ⟨r3, h3⟩ := List.isPrefixOf_iff_prefix.1 hsl; exact ⟨r3, h3.symm⟩
       rw [hsl] at hhas
       have HHS := Lib.hid hhas
       clear hhas hsl
       have hS7 := Lib.hid (suf_tail hR6.suf)
       have hC7 := Lib.hid (pos_cons hR6.suf)
       have hpl7 := pos_lt hR6.suf
       have HX6 := Lib.hid hx6
       have HG6 := Lib.hid hG6
       have HA6 := Lib.hid hA6
       have HR6 := Lib.hid hR6
       have c1 := hR6.c1
       have f1 := hR6.f1
       have hlt6 := hR6.box.lt
       have q0 := hx6.cell 0 _ rfl
       have qf0 := hx6.free 0
       have qlt := hx6.lt
       clear hx6 hG6 hA6 hR6
       generalize pos s (47 :: r3) = p7 at *
       have hp7 : (p7 : Int) + 1 ≤ 1000000 := by omega
       refine HHS.out.mono ?_
       rintro e w' ⟨rfl, n7, rfl⟩
       go_wp2_with fail
       refine Calls.world ?_
       intro W8 hW8
       have hx8 : Box W8 w.heap.size [.int .i64 2, .string (bs nm), .slice ao5 ats.length cap5, .string ⟨#[]⟩, .int .i64 (pos s l), .int .i64 0, .int .i64 0] := by rw [hW8]; exact ((HX6.out.drewN n7).set 0 _).grownB (setCell_grown _ _ _ _) (by omega)
       have hR8 : Rd W8 b s r3 (.slice ao L.length cap) := by rw [hW8]; exact ((HR6.out.drewN n7).setOther (by omega) _ _).move hS7.out (v := .int .i64 ((p7 : Int) + 1)) (by rw [hC7.out]; rfl)
       have hG8 : w.grownBy W8 (some b) := by rw [hW8]; exact (grown_set (HG6.out.trans (grownN _ n7 _)) (Nat.le_refl _) _ _).trans (setCell_grown _ b _ _)
       have hA8 : Owns W4.heap.size 176 2 atC W8 (.slice ao5 ats.length cap5) ats := by
        rw [hW8]; exact ((HA6.out.keptR (grownN _ n7 (some b)) (by have := hB4.out; omega)).keptR (setCell_grown _ _ _ _) hB4.out).keptR (setCell_grown _ b _ _) (by have := hB4.out; omega)
       clear hW8 c1 f1 q0 qf0 qlt HX6 HG6 HA6 HR6 hlt6
       have hcall := want_any b s 62 r3 (.slice ao L.length cap) W8 hR8 hs2
       cases hcl : wantC 62 r3 with
       | bad x r =>
        rw [hcl] at hcall
        have HP3 := Lib.hid hcl
        clear hcl
        have HCL := Lib.hid hcall
        clear hcall hR8 hx8
        go_wp2_with fail
        refine HCL.out.mono ?_
        intro e w2 hO
        obtain ⟨rfl, hg⟩ : Bad x s r b _ e w2 := hO
        go_wp2
        rw [show openR l' = .bad x r by unfold openR; rw [HP.out]; simp only [Res.bind]; rw [HP2.out]; simp only; rw [HP3.out]; rfl]
        exact ⟨rfl, rfl, below_grown (hG8.trans hg) (by omega)⟩
       | ok u r =>
        rw [hcl] at hcall
        have HP3 := Lib.hid hcl
        clear hcl
        refine hcall.mono ?_
        clear hcall
        intro e W3 hO
        obtain ⟨rfl, hR3, hg⟩ : Goes (.tuple #[]) b s r (.slice ao L.length cap) _ e W3 := hO
        have hx3 := hx8.grownB hg (by omega)
        have hG3 := hG8.trans hg
        have HAV : Hid (Owns (b + 1) 176 2 atC W3 (.slice ao5 ats.length cap5) ats) := (hA8.keptR hg (by have := hB4.out; omega)).base_mono (by have := hB4.out; omega)
        clear hx8 hG8 hg hR8 hA8
        go_wp2
        have c2 := hR3.c2
        have f2 := hR3.box.free 2
        have hlt3 := hR3.box.lt
        obtain ⟨t0, t1, t2, t3, t4, t5, t6⟩ := bxc7 hx3
        have tlt := hx3.lt
        have HT3 := Lib.hid (H0.out.kept hG3 hR3)
        have HR3 := Lib.hid hR3
        have HG3 := Lib.hid hG3
        clear hx3 hR3 hG3
        have hne8 : Hid (some b ≠ (Value.slice ao L.length cap).ownBlock) := fun e => by have := (HT3.out.own.lt b e.symm).1; omega
        have hbx8 : Hid (Box ((W3.alloc (.cells (tkC ⟨⟨2, nm, ats, []⟩, .slice ao5 ats.length cap5, pos s l, 0, 0⟩).toArray 157)).drew) b [.string s, .int .i64 (pos s r : Nat), .slice ao L.length cap]) := (HR3.out.box.alloc _).drew
        have hnw : ∀ j u, (tkC ⟨⟨2, nm, ats, []⟩, .slice ao5 ats.length cap5, pos s l, 0, 0⟩)[j]? = some u → ((W3.alloc (.cells (tkC ⟨⟨2, nm, ats, []⟩, .slice ao5 ats.length cap5, pos s l, 0, 0⟩).toArray 157)).drew).cell? ⟨W3.heap.size, j, none⟩ = some u := fun j u hu => (Box.new W3 (tkC ⟨⟨2, nm, ats, []⟩, .slice ao5 ats.length cap5, pos s l, 0, 0⟩) 157 _ rfl).cell j u hu
        have hco : ∀ u ∈ tkC ⟨⟨2, nm, ats, []⟩, .slice ao5 ats.length cap5, pos s l, 0, 0⟩, u.oneCell' = true := by intro u hu; simp [tkC] at hu; rcases hu with rfl | rfl | rfl | rfl | rfl | rfl | rfl <;> rfl
        have HNW := Lib.hid hnw
        have HCO := Lib.hid hco
        have hown4 := Lib.hid ((HT3.out.own.alloc (.cells (tkC ⟨⟨2, nm, ats, []⟩, .slice ao5 ats.length cap5, pos s l, 0, 0⟩).toArray 157)).drew)
        have hbl : Hid ((L.length + 1) * 88 ≤ 140737488355328) := by show _ ≤ _; omega
        have hbs : Hid (b + 1 ≤ ((W3.alloc (.cells (tkC ⟨⟨2, nm, ats, []⟩, .slice ao5 ats.length cap5, pos s l, 0, 0⟩).toArray 157)).drew).heap.size) := by show _ ≤ _; simp; omega
        have hsz4 : Hid (((W3.alloc (.cells (tkC ⟨⟨2, nm, ats, []⟩, .slice ao5 ats.length cap5, pos s l, 0, 0⟩).toArray 157)).drew).heap.size = W3.heap.size + 1) := by show _ = _; simp
        clear hnw hco
        go_region_law (first | (refine step_append_one rfl (.tmp 110) (.tmp 112) 149 rfl (b + 1) 157 Tryz.underlying149 info_token rfl (by decide) tkC_len (.slice ao L.length cap) L (by simp [Act.eval]) hown4.out W3.heap.size ⟨⟨2, nm, ats, []⟩, .slice ao5 ats.length cap5, pos s l, 0, 0⟩ (by simp [Act.eval]) HNW.out HCO.out hbl.out (by decide) hbs.out (W3.heap.size + 1) hsz4.out ?_; intro g8 cap8 w8 hown8 hgrow8 hat8 hlt8; have hb9 := Lib.hid (hbx8.out.grown hgrow8 hne8.out); have e2 := hb9.out.cell 2 _ rfl; have ef2 := hb9.out.free 2; have el2 := hb9.out.lt; have ho9 := Lib.hid hown8; have hg9 := Lib.hid hgrow8; clear hown8 hgrow8 hat8))
        all_goals
         go_end0
         rw [show openR l' = .ok ⟨2, nm, ats, []⟩ r by unfold openR; rw [HP.out]; simp only [Res.bind]; rw [HP2.out]; simp only; rw [HP3.out]; rfl]
         obtain ⟨h1, h2⟩ := HT3.out.push HG3.out hlt0 (x := ⟨⟨2, nm, ats, []⟩, .slice ao5 ats.length cap5, pos s l, 0, 0⟩) HAV.out hg9.out ho9.out
         exact ⟨rfl, _, _, h1, h2⟩
     · have hslf : ([47] : Bs).isPrefixOf r2 = false := Bool.eq_false_iff.2 hsl
       rw [hslf] at hhas
       have HHS := Lib.hid hhas
       have HSPEC : Hid (openR l' = (wantC 62 r2).map fun _ => ⟨1, nm, ats, []⟩) := by
        show _ = _
        unfold openR; rw [HP.out]; simp only [Res.bind]; rw [HP2.out]; simp only
        split
        · simp at hslf
        · rfl
       clear hhas hsl hslf
       refine HHS.out.mono ?_
       rintro e w' ⟨rfl, n7, rfl⟩
       go_wp2_with fail
       have hR8 := hR6.drewN n7
       have hx8 := hx6.drewN n7
       have hG8 := hG6.trans (grownN W6 n7 _)
       have hA8 := hA6.keptR (grownN W6 n7 (some b)) (by have := hB4.out; omega)
       have hcall := want_any b s 62 r2 (.slice ao L.length cap) (W6.drewN n7) hR8 hs2
       cases hcl : wantC 62 r2 with
       | bad x r =>
        rw [hcl] at hcall
        have HP3 := Lib.hid hcl
        clear hcl
        have HCL := Lib.hid hcall
        clear hcall hR8 hx8 hR6 hx6
        refine HCL.out.mono ?_
        intro e w2 hO
        obtain ⟨rfl, hg⟩ : Bad x s r b _ e w2 := hO
        go_wp2
        rw [show openR l' = .bad x r by rw [HSPEC.out, HP3.out]; rfl]
        exact ⟨rfl, rfl, below_grown (hG8.trans hg) (by omega)⟩
       | ok u r =>
        rw [hcl] at hcall
        have HP3 := Lib.hid hcl
        clear hcl
        refine hcall.mono ?_
        clear hcall
        intro e W3 hO
        obtain ⟨rfl, hR3, hg⟩ : Goes (.tuple #[]) b s r (.slice ao L.length cap) _ e W3 := hO
        have hx3 := hx8.grownB hg (by omega)
        have hG3 := hG8.trans hg
        have HAV : Hid (Owns (b + 1) 176 2 atC W3 (.slice ao5 ats.length cap5) ats) := (hA8.keptR hg (by have := hB4.out; omega)).base_mono (by have := hB4.out; omega)
        clear hx8 hG8 hg hR8 hA8 hx6 hG6 hR6 hA6
        go_wp2
        have c2 := hR3.c2
        have f2 := hR3.box.free 2
        have hlt3 := hR3.box.lt
        obtain ⟨t0, t1, t2, t3, t4, t5, t6⟩ := bxc7 hx3
        have tlt := hx3.lt
        have HT3 := Lib.hid (H0.out.kept hG3 hR3)
        have HR3 := Lib.hid hR3
        have HG3 := Lib.hid hG3
        clear hx3 hR3 hG3
        have hne8 : Hid (some b ≠ (Value.slice ao L.length cap).ownBlock) := fun e => by have := (HT3.out.own.lt b e.symm).1; omega
        have hbx8 : Hid (Box ((W3.alloc (.cells (tkC ⟨⟨1, nm, ats, []⟩, .slice ao5 ats.length cap5, pos s l, 0, 0⟩).toArray 157)).drew) b [.string s, .int .i64 (pos s r : Nat), .slice ao L.length cap]) := (HR3.out.box.alloc _).drew
        have hnw : ∀ j u, (tkC ⟨⟨1, nm, ats, []⟩, .slice ao5 ats.length cap5, pos s l, 0, 0⟩)[j]? = some u → ((W3.alloc (.cells (tkC ⟨⟨1, nm, ats, []⟩, .slice ao5 ats.length cap5, pos s l, 0, 0⟩).toArray 157)).drew).cell? ⟨W3.heap.size, j, none⟩ = some u := fun j u hu => (Box.new W3 (tkC ⟨⟨1, nm, ats, []⟩, .slice ao5 ats.length cap5, pos s l, 0, 0⟩) 157 _ rfl).cell j u hu
        have hco : ∀ u ∈ tkC ⟨⟨1, nm, ats, []⟩, .slice ao5 ats.length cap5, pos s l, 0, 0⟩, u.oneCell' = true := by intro u hu; simp [tkC] at hu; rcases hu with rfl | rfl | rfl | rfl | rfl | rfl | rfl <;> rfl
        have HNW := Lib.hid hnw
        have HCO := Lib.hid hco
        have hown4 := Lib.hid ((HT3.out.own.alloc (.cells (tkC ⟨⟨1, nm, ats, []⟩, .slice ao5 ats.length cap5, pos s l, 0, 0⟩).toArray 157)).drew)
        have hbl : Hid ((L.length + 1) * 88 ≤ 140737488355328) := by show _ ≤ _; omega
        have hbs : Hid (b + 1 ≤ ((W3.alloc (.cells (tkC ⟨⟨1, nm, ats, []⟩, .slice ao5 ats.length cap5, pos s l, 0, 0⟩).toArray 157)).drew).heap.size) := by show _ ≤ _; simp; omega
        have hsz4 : Hid (((W3.alloc (.cells (tkC ⟨⟨1, nm, ats, []⟩, .slice ao5 ats.length cap5, pos s l, 0, 0⟩).toArray 157)).drew).heap.size = W3.heap.size + 1) := by show _ = _; simp
        clear hnw hco
        go_region_law (first | (refine step_append_one rfl (.tmp 110) (.tmp 112) 149 rfl (b + 1) 157 Tryz.underlying149 info_token rfl (by decide) tkC_len (.slice ao L.length cap) L (by simp [Act.eval]) hown4.out W3.heap.size ⟨⟨1, nm, ats, []⟩, .slice ao5 ats.length cap5, pos s l, 0, 0⟩ (by simp [Act.eval]) HNW.out HCO.out hbl.out (by decide) hbs.out (W3.heap.size + 1) hsz4.out ?_; intro g8 cap8 w8 hown8 hgrow8 hat8 hlt8; have hb9 := Lib.hid (hbx8.out.grown hgrow8 hne8.out); have e2 := hb9.out.cell 2 _ rfl; have ef2 := hb9.out.free 2; have el2 := hb9.out.lt; have ho9 := Lib.hid hown8; have hg9 := Lib.hid hgrow8; clear hown8 hgrow8 hat8))
        all_goals
         go_end0
         rw [show openR l' = .ok ⟨1, nm, ats, []⟩ r by rw [HSPEC.out, HP3.out]; rfl]
         obtain ⟨h1, h2⟩ := HT3.out.push HG3.out hlt0 (x := ⟨⟨1, nm, ats, []⟩, .slice ao5 ats.length cap5, pos s l, 0, 0⟩) HAV.out hg9.out ho9.out
         exact ⟨rfl, _, _, h1, h2⟩
 · have e0 : (((pos s l : Nat) : Int) == 0) = false := beq_eq_false_iff_ne.2 (by omega)
   clear hp0 hh
   have hR : Rd (w.alloc (.cells #[.int .i64 0, .string ⟨#[]⟩, .slice none 0 0, .string ⟨#[]⟩, .int .i64 (pos s l), .int .i64 0, .int .i64 0] 157)) b s l (.slice ao L.length cap) := H0.out.rd.below ((Below.refl _ _).alloc (Nat.le_refl _) _)
   go_enter Tryz.func121, Tryz.ntmps121
   go_wp2_with fail
   refine Calls.world ?_
   intro W hW
   have hx : Box W w.heap.size [.int .i64 0, .string ⟨#[]⟩, .slice none 0 0, .string ⟨#[]⟩, .int .i64 (pos s l), .int .i64 0, .int .i64 0] := by rw [hW]; exact Box.new w _ _ _ rfl
   have hG : w.grownBy W (some b) := by rw [hW]; exact World.grownBy_alloc _ _ _
   rw [← hW] at hR
   have hm : W.cell? ⟨0, 0, none⟩ = some (.int .i64 m) := by rw [hW, World.cell?_alloc_lt _ _ _ (by simp; omega)]; exact HM.out
   clear hW
   clear c1
   have c1 := hR.c1
   have f1 := hR.f1
   have hltW := hR.box.lt
   refine (HA.out W hR).mono ?_
   rintro e w1 ⟨rfl, n0, rfl⟩
   go_wp2_with fail
   refine (HB.out _ (hR.drewN _)).mono ?_
   rintro e w1 ⟨rfl, n1, rfl⟩
   go_wp2_with fail
   refine (HC.out _ (hR.drewN _)).mono ?_
   rintro e w1 ⟨rfl, n2, rfl⟩
   go_wp2_with fail
   refine (HD.out _ (hR.drewN _)).mono ?_
   rintro e w1 ⟨rfl, n3, rfl⟩
   go_wp2_with fail
   refine Calls.world ?_
   intro W2 hW2
   have hRa : Rd W2 b s l' (.slice ao L.length cap) := by rw [hW2]; exact (hR.drewN _).move HSUF.out (v := .int .i64 ((pos s l : Int) + 1)) (by rw [HPOS.out]; rfl)
   have hxa : Box W2 w.heap.size [.int .i64 0, .string ⟨#[]⟩, .slice none 0 0, .string ⟨#[]⟩, .int .i64 (pos s l), .int .i64 0, .int .i64 0] := by rw [hW2]; exact (hx.drewN _).grownB (setCell_grown _ b 1 _) (by omega)
   have hGa : w.grownBy W2 (some b) := by rw [hW2]; exact (hG.trans (grownN _ _ _)).trans (setCell_grown _ b 1 _)
   clear hW2 hx hG hR hm c1 f1 hltW
   have hcall := rname_any b s 11 l' (.slice ao L.length cap) W2 hRa hs2
   cases hcl : nameR 11 l' with
   | bad x r =>
    rw [hcl] at hcall
    have HP := Lib.hid hcl
    clear hcl
    have HCL := Lib.hid hcall
    clear hcall hRa hxa
    go_wp2_with fail
    refine HCL.out.mono ?_
    intro e w2 hO
    obtain ⟨rfl, hg⟩ : Bad x s r b _ e w2 := hO
    go_wp2
    rw [show openR l' = .bad x r by unfold openR; rw [HP.out]; rfl]
    exact ⟨rfl, rfl, below_grown (hGa.trans hg) (by omega)⟩
   | ok nm r1 =>
    rw [hcl] at hcall
    have HP := Lib.hid hcl
    clear hcl
    have HCL := Lib.hid hcall
    clear hcall
    go_wp2_with fail
    refine HCL.out.mono ?_
    intro e w2 hO
    obtain ⟨rfl, hR2, hg⟩ : Goes (.string (bs nm)) b s r1 (.slice ao L.length cap) _ e w2 := hO
    have hx2 := hxa.grownB hg (by omega)
    have hG2 := hGa.trans hg
    have q1 := hx2.cell 1 _ rfl
    have qf1 := hx2.free 1
    have qlt := hx2.lt
    clear hxa hGa hg hRa HCL
    go_wp2_with fail
    refine Calls.world ?_
    intro W4 hW4
    have hx4 : Box W4 w.heap.size [.int .i64 0, .string (bs nm), .slice none 0 0, .string ⟨#[]⟩, .int .i64 (pos s l), .int .i64 0, .int .i64 0] := by rw [hW4]; exact hx2.set 1 _
    have hR4 : Rd W4 b s r1 (.slice ao L.length cap) := by rw [hW4]; exact hR2.setOther (by omega) _ _
    have hG4 : w.grownBy W4 (some b) := by rw [hW4]; exact grown_set hG2 (Nat.le_refl _) _ _
    clear hW4 hx2 hG2 hR2 q1 qf1 qlt
    have hB4 : Hid (w.heap.size < W4.heap.size) := hx4.lt
    have hcall := attrs_any b s r1 (.slice ao L.length cap) W4 hR4 hs2
    cases hcl : attrsR r1 with
    | bad x r =>
     rw [hcl] at hcall
     have HP2 := Lib.hid hcl
     clear hcl
     have HCL := Lib.hid hcall
     clear hcall hR4 hx4
     go_wp2_with fail
     refine HCL.out.mono ?_
     intro e w2 hO
     obtain ⟨rfl, hg⟩ : Bad x s r b _ e w2 := hO
     go_wp2
     rw [show openR l' = .bad x r by unfold openR; rw [HP.out]; simp only [Res.bind]; rw [HP2.out]]
     exact ⟨rfl, rfl, below_grown (hG4.trans hg) (by omega)⟩
    | ok ats r2 =>
     rw [hcl] at hcall
     have HP2 := Lib.hid hcl
     clear hcl
     refine hcall.mono ?_
     clear hcall
     intro e w5 hO
     obtain ⟨av, ⟨rfl, hR5, hg5⟩, hA5⟩ : ∃ v, Goes v b s r2 (.slice ao L.length cap) W4 e w5 ∧ Owns W4.heap.size 176 2 atC w5 v ats := hO
     have hx5 := hx4.grownB hg5 (by omega)
     have hG5 := hG4.trans hg5
     obtain ⟨ao5, cap5, rfl⟩ := hA5.shape
     have q0 := hx5.cell 0 _ rfl
     have q2 := hx5.cell 2 _ rfl
     have qf0 := hx5.free 0
     have qf2 := hx5.free 2
     have qlt := hx5.lt
     clear hx4 hG4 hR4 hg5
     go_wp2_with fail
     refine Calls.world ?_
     intro W6 hW6
     have hx6 : Box W6 w.heap.size [.int .i64 1, .string (bs nm), .slice ao5 ats.length cap5, .string ⟨#[]⟩, .int .i64 (pos s l), .int .i64 0, .int .i64 0] := by rw [hW6]; exact (hx5.set 2 _).set 0 _
     have hR6 : Rd W6 b s r2 (.slice ao L.length cap) := by rw [hW6]; exact (hR5.setOther (by omega) _ _).setOther (by omega) _ _
     have hG6 : w.grownBy W6 (some b) := by rw [hW6]; exact grown_set (grown_set hG5 (Nat.le_refl _) _ _) (Nat.le_refl _) _ _
     have hA6 : Owns W4.heap.size 176 2 atC W6 (.slice ao5 ats.length cap5) ats := by rw [hW6]; exact (hA5.keptR (setCell_grown _ _ _ _) hB4.out).keptR (setCell_grown _ _ _ _) hB4.out
     clear hW6 hx5 hG5 hR5 hA5 q0 q2 qf0 qf2 qlt
     have hhas := has_pre b s r2 (.slice ao L.length cap) ⟨#[47]⟩ W6 hR6
     rw [bs_one] at hhas
     by_cases hsl : ([47] : Bs).isPrefixOf r2 = true
     · obtain ⟨r3, rfl⟩ : ∃ r3, r2 = 47 :: r3 := by
        obtain ⟨r3, h3⟩ := List.isPrefixOf_iff_prefix.1 hsl; exact ⟨r3, h3.symm⟩
       rw [hsl] at hhas
       have HHS := Lib.hid hhas
       clear hhas hsl
       have hS7 := Lib.hid (suf_tail hR6.suf)
       have hC7 := Lib.hid (pos_cons hR6.suf)
       have hpl7 := pos_lt hR6.suf
       have HX6 := Lib.hid hx6
       have HG6 := Lib.hid hG6
       have HA6 := Lib.hid hA6
       have HR6 := Lib.hid hR6
       have c1 := hR6.c1
       have f1 := hR6.f1
       have hlt6 := hR6.box.lt
       have q0 := hx6.cell 0 _ rfl
       have qf0 := hx6.free 0
       have qlt := hx6.lt
       clear hx6 hG6 hA6 hR6
       generalize pos s (47 :: r3) = p7 at *
       have hp7 : (p7 : Int) + 1 ≤ 1000000 := by omega
       refine HHS.out.mono ?_
       rintro e w' ⟨rfl, n7, rfl⟩
       go_wp2_with fail
       refine Calls.world ?_
       intro W8 hW8
       have hx8 : Box W8 w.heap.size [.int .i64 2, .string (bs nm), .slice ao5 ats.length cap5, .string ⟨#[]⟩, .int .i64 (pos s l), .int .i64 0, .int .i64 0] := by rw [hW8]; exact ((HX6.out.drewN n7).set 0 _).grownB (setCell_grown _ _ _ _) (by omega)
       have hR8 : Rd W8 b s r3 (.slice ao L.length cap) := by rw [hW8]; exact ((HR6.out.drewN n7).setOther (by omega) _ _).move hS7.out (v := .int .i64 ((p7 : Int) + 1)) (by rw [hC7.out]; rfl)
       have hG8 : w.grownBy W8 (some b) := by rw [hW8]; exact (grown_set (HG6.out.trans (grownN _ n7 _)) (Nat.le_refl _) _ _).trans (setCell_grown _ b _ _)
       have hA8 : Owns W4.heap.size 176 2 atC W8 (.slice ao5 ats.length cap5) ats := by
        rw [hW8]; exact ((HA6.out.keptR (grownN _ n7 (some b)) (by have := hB4.out; omega)).keptR (setCell_grown _ _ _ _) hB4.out).keptR (setCell_grown _ b _ _) (by have := hB4.out; omega)
       clear hW8 c1 f1 q0 qf0 qlt HX6 HG6 HA6 HR6 hlt6
       have hcall := want_any b s 62 r3 (.slice ao L.length cap) W8 hR8 hs2
       cases hcl : wantC 62 r3 with
       | bad x r =>
        rw [hcl] at hcall
        have HP3 := Lib.hid hcl
        clear hcl
        have HCL := Lib.hid hcall
        clear hcall hR8 hx8
        go_wp2_with fail
        refine HCL.out.mono ?_
        intro e w2 hO
        obtain ⟨rfl, hg⟩ : Bad x s r b _ e w2 := hO
        go_wp2
        rw [show openR l' = .bad x r by unfold openR; rw [HP.out]; simp only [Res.bind]; rw [HP2.out]; simp only; rw [HP3.out]; rfl]
        exact ⟨rfl, rfl, below_grown (hG8.trans hg) (by omega)⟩
       | ok u r =>
        rw [hcl] at hcall
        have HP3 := Lib.hid hcl
        clear hcl
        refine hcall.mono ?_
        clear hcall
        intro e W3 hO
        obtain ⟨rfl, hR3, hg⟩ : Goes (.tuple #[]) b s r (.slice ao L.length cap) _ e W3 := hO
        have hx3 := hx8.grownB hg (by omega)
        have hG3 := hG8.trans hg
        have HAV : Hid (Owns (b + 1) 176 2 atC W3 (.slice ao5 ats.length cap5) ats) := (hA8.keptR hg (by have := hB4.out; omega)).base_mono (by have := hB4.out; omega)
        clear hx8 hG8 hg hR8 hA8
        go_wp2
        have c2 := hR3.c2
        have f2 := hR3.box.free 2
        have hlt3 := hR3.box.lt
        obtain ⟨t0, t1, t2, t3, t4, t5, t6⟩ := bxc7 hx3
        have tlt := hx3.lt
        have HT3 := Lib.hid (H0.out.kept hG3 hR3)
        have HR3 := Lib.hid hR3
        have HG3 := Lib.hid hG3
        clear hx3 hR3 hG3
        have hne8 : Hid (some b ≠ (Value.slice ao L.length cap).ownBlock) := fun e => by have := (HT3.out.own.lt b e.symm).1; omega
        have hbx8 : Hid (Box ((W3.alloc (.cells (tkC ⟨⟨2, nm, ats, []⟩, .slice ao5 ats.length cap5, pos s l, 0, 0⟩).toArray 157)).drew) b [.string s, .int .i64 (pos s r : Nat), .slice ao L.length cap]) := (HR3.out.box.alloc _).drew
        have hnw : ∀ j u, (tkC ⟨⟨2, nm, ats, []⟩, .slice ao5 ats.length cap5, pos s l, 0, 0⟩)[j]? = some u → ((W3.alloc (.cells (tkC ⟨⟨2, nm, ats, []⟩, .slice ao5 ats.length cap5, pos s l, 0, 0⟩).toArray 157)).drew).cell? ⟨W3.heap.size, j, none⟩ = some u := fun j u hu => (Box.new W3 (tkC ⟨⟨2, nm, ats, []⟩, .slice ao5 ats.length cap5, pos s l, 0, 0⟩) 157 _ rfl).cell j u hu
        have hco : ∀ u ∈ tkC ⟨⟨2, nm, ats, []⟩, .slice ao5 ats.length cap5, pos s l, 0, 0⟩, u.oneCell' = true := by intro u hu; simp [tkC] at hu; rcases hu with rfl | rfl | rfl | rfl | rfl | rfl | rfl <;> rfl
        have HNW := Lib.hid hnw
        have HCO := Lib.hid hco
        have hown4 := Lib.hid ((HT3.out.own.alloc (.cells (tkC ⟨⟨2, nm, ats, []⟩, .slice ao5 ats.length cap5, pos s l, 0, 0⟩).toArray 157)).drew)
        have hbl : Hid ((L.length + 1) * 88 ≤ 140737488355328) := by show _ ≤ _; omega
        have hbs : Hid (b + 1 ≤ ((W3.alloc (.cells (tkC ⟨⟨2, nm, ats, []⟩, .slice ao5 ats.length cap5, pos s l, 0, 0⟩).toArray 157)).drew).heap.size) := by show _ ≤ _; simp; omega
        have hsz4 : Hid (((W3.alloc (.cells (tkC ⟨⟨2, nm, ats, []⟩, .slice ao5 ats.length cap5, pos s l, 0, 0⟩).toArray 157)).drew).heap.size = W3.heap.size + 1) := by show _ = _; simp
        clear hnw hco
        go_region_law (first | (refine step_append_one rfl (.tmp 110) (.tmp 112) 149 rfl (b + 1) 157 Tryz.underlying149 info_token rfl (by decide) tkC_len (.slice ao L.length cap) L (by simp [Act.eval]) hown4.out W3.heap.size ⟨⟨2, nm, ats, []⟩, .slice ao5 ats.length cap5, pos s l, 0, 0⟩ (by simp [Act.eval]) HNW.out HCO.out hbl.out (by decide) hbs.out (W3.heap.size + 1) hsz4.out ?_; intro g8 cap8 w8 hown8 hgrow8 hat8 hlt8; have hb9 := Lib.hid (hbx8.out.grown hgrow8 hne8.out); have e2 := hb9.out.cell 2 _ rfl; have ef2 := hb9.out.free 2; have el2 := hb9.out.lt; have ho9 := Lib.hid hown8; have hg9 := Lib.hid hgrow8; clear hown8 hgrow8 hat8))
        all_goals
         go_end0
         rw [show openR l' = .ok ⟨2, nm, ats, []⟩ r by unfold openR; rw [HP.out]; simp only [Res.bind]; rw [HP2.out]; simp only; rw [HP3.out]; rfl]
         obtain ⟨h1, h2⟩ := HT3.out.push HG3.out hlt0 (x := ⟨⟨2, nm, ats, []⟩, .slice ao5 ats.length cap5, pos s l, 0, 0⟩) HAV.out hg9.out ho9.out
         exact ⟨rfl, _, _, h1, h2⟩
     · have hslf : ([47] : Bs).isPrefixOf r2 = false := Bool.eq_false_iff.2 hsl
       rw [hslf] at hhas
       have HHS := Lib.hid hhas
       have HSPEC : Hid (openR l' = (wantC 62 r2).map fun _ => ⟨1, nm, ats, []⟩) := by
        show _ = _
        unfold openR; rw [HP.out]; simp only [Res.bind]; rw [HP2.out]; simp only
        split
        · simp at hslf
        · rfl
       clear hhas hsl hslf
       refine HHS.out.mono ?_
       rintro e w' ⟨rfl, n7, rfl⟩
       go_wp2_with fail
       have hR8 := hR6.drewN n7
       have hx8 := hx6.drewN n7
       have hG8 := hG6.trans (grownN W6 n7 _)
       have hA8 := hA6.keptR (grownN W6 n7 (some b)) (by have := hB4.out; omega)
       have hcall := want_any b s 62 r2 (.slice ao L.length cap) (W6.drewN n7) hR8 hs2
       cases hcl : wantC 62 r2 with
       | bad x r =>
        rw [hcl] at hcall
        have HP3 := Lib.hid hcl
        clear hcl
        have HCL := Lib.hid hcall
        clear hcall hR8 hx8 hR6 hx6
        refine HCL.out.mono ?_
        intro e w2 hO
        obtain ⟨rfl, hg⟩ : Bad x s r b _ e w2 := hO
        go_wp2
        rw [show openR l' = .bad x r by rw [HSPEC.out, HP3.out]; rfl]
        exact ⟨rfl, rfl, below_grown (hG8.trans hg) (by omega)⟩
       | ok u r =>
        rw [hcl] at hcall
        have HP3 := Lib.hid hcl
        clear hcl
        refine hcall.mono ?_
        clear hcall
        intro e W3 hO
        obtain ⟨rfl, hR3, hg⟩ : Goes (.tuple #[]) b s r (.slice ao L.length cap) _ e W3 := hO
        have hx3 := hx8.grownB hg (by omega)
        have hG3 := hG8.trans hg
        have HAV : Hid (Owns (b + 1) 176 2 atC W3 (.slice ao5 ats.length cap5) ats) := (hA8.keptR hg (by have := hB4.out; omega)).base_mono (by have := hB4.out; omega)
        clear hx8 hG8 hg hR8 hA8 hx6 hG6 hR6 hA6
        go_wp2
        have c2 := hR3.c2
        have f2 := hR3.box.free 2
        have hlt3 := hR3.box.lt
        obtain ⟨t0, t1, t2, t3, t4, t5, t6⟩ := bxc7 hx3
        have tlt := hx3.lt
        have HT3 := Lib.hid (H0.out.kept hG3 hR3)
        have HR3 := Lib.hid hR3
        have HG3 := Lib.hid hG3
        clear hx3 hR3 hG3
        have hne8 : Hid (some b ≠ (Value.slice ao L.length cap).ownBlock) := fun e => by have := (HT3.out.own.lt b e.symm).1; omega
        have hbx8 : Hid (Box ((W3.alloc (.cells (tkC ⟨⟨1, nm, ats, []⟩, .slice ao5 ats.length cap5, pos s l, 0, 0⟩).toArray 157)).drew) b [.string s, .int .i64 (pos s r : Nat), .slice ao L.length cap]) := (HR3.out.box.alloc _).drew
        have hnw : ∀ j u, (tkC ⟨⟨1, nm, ats, []⟩, .slice ao5 ats.length cap5, pos s l, 0, 0⟩)[j]? = some u → ((W3.alloc (.cells (tkC ⟨⟨1, nm, ats, []⟩, .slice ao5 ats.length cap5, pos s l, 0, 0⟩).toArray 157)).drew).cell? ⟨W3.heap.size, j, none⟩ = some u := fun j u hu => (Box.new W3 (tkC ⟨⟨1, nm, ats, []⟩, .slice ao5 ats.length cap5, pos s l, 0, 0⟩) 157 _ rfl).cell j u hu
        have hco : ∀ u ∈ tkC ⟨⟨1, nm, ats, []⟩, .slice ao5 ats.length cap5, pos s l, 0, 0⟩, u.oneCell' = true := by intro u hu; simp [tkC] at hu; rcases hu with rfl | rfl | rfl | rfl | rfl | rfl | rfl <;> rfl
        have HNW := Lib.hid hnw
        have HCO := Lib.hid hco
        have hown4 := Lib.hid ((HT3.out.own.alloc (.cells (tkC ⟨⟨1, nm, ats, []⟩, .slice ao5 ats.length cap5, pos s l, 0, 0⟩).toArray 157)).drew)
        have hbl : Hid ((L.length + 1) * 88 ≤ 140737488355328) := by show _ ≤ _; omega
        have hbs : Hid (b + 1 ≤ ((W3.alloc (.cells (tkC ⟨⟨1, nm, ats, []⟩, .slice ao5 ats.length cap5, pos s l, 0, 0⟩).toArray 157)).drew).heap.size) := by show _ ≤ _; simp; omega
        have hsz4 : Hid (((W3.alloc (.cells (tkC ⟨⟨1, nm, ats, []⟩, .slice ao5 ats.length cap5, pos s l, 0, 0⟩).toArray 157)).drew).heap.size = W3.heap.size + 1) := by show _ = _; simp
        clear hnw hco
        go_region_law (first | (refine step_append_one rfl (.tmp 110) (.tmp 112) 149 rfl (b + 1) 157 Tryz.underlying149 info_token rfl (by decide) tkC_len (.slice ao L.length cap) L (by simp [Act.eval]) hown4.out W3.heap.size ⟨⟨1, nm, ats, []⟩, .slice ao5 ats.length cap5, pos s l, 0, 0⟩ (by simp [Act.eval]) HNW.out HCO.out hbl.out (by decide) hbs.out (W3.heap.size + 1) hsz4.out ?_; intro g8 cap8 w8 hown8 hgrow8 hat8 hlt8; have hb9 := Lib.hid (hbx8.out.grown hgrow8 hne8.out); have e2 := hb9.out.cell 2 _ rfl; have ef2 := hb9.out.free 2; have el2 := hb9.out.lt; have ho9 := Lib.hid hown8; have hg9 := Lib.hid hgrow8; clear hown8 hgrow8 hat8))
        all_goals
         go_end0
         rw [show openR l' = .ok ⟨1, nm, ats, []⟩ r by rw [HSPEC.out, HP3.out]; rfl]
         obtain ⟨h1, h2⟩ := HT3.out.push HG3.out hlt0 (x := ⟨⟨1, nm, ats, []⟩, .slice ao5 ats.length cap5, pos s l, 0, 0⟩) HAV.out hg9.out ho9.out
         exact ⟨rfl, _, _, h1, h2⟩

end Go.Proofs.YtphaeegbmfpcgaaGreatDoor

/- The program's reader's token, whole; its conditions stand in the theorem. -/

namespace Go.Proofs.YtphaeegbmfpcgaaGreatDoor
open Go Go.RowKit

theorem token_any (b : Nat) (s : S) (l : Bs) (ov : Value) (L : List TkM) (m : Int) (w : World) (h : Toks w b s l ov L) (hs : s.size ≤ 65536) (hm : w.cell? ⟨0, 0, none⟩ = some (.int .i64 m)) (hL : L.length ≤ 1000000) :
    Calls Tryz.prog 121 #[.pointer (some ⟨b, 0, none⟩)] w (OutT b s (pos s l) L w (tokenR (decide (pos s l = 0)) l)) := by
 obtain ⟨ao, cap, rfl⟩ := h.own.shape
 by_cases h1 : sNote.isPrefixOf l = true
 · have := tok_note b s l ao cap L m w h hs hm hL h1
   unfold tokenR; rw [if_pos h1]; exact this
 · have h1' := Bool.eq_false_iff.2 h1
   by_cases h2 : sData.isPrefixOf l = true
   · have := tok_data b s l ao cap L m w h hs hm hL h1' h2
     unfold tokenR; rw [if_neg h1, if_pos h2]; exact this
   · have h2' := Bool.eq_false_iff.2 h2
     by_cases h3 : (decide (pos s l = 0) && isHead l) = true
     · have h4 := h3
       rw [Bool.and_eq_true, decide_eq_true_eq] at h4
       have := tok_head b s l ao cap L m w h hs hm hL h1' h2' h4.1 h4.2
       unfold tokenR; rw [if_neg h1, if_neg h2, if_pos h3]; exact this
     · have hh : pos s l = 0 → isHead l = false := fun e => by
        cases hi : isHead l
        · rfl
        · exact absurd (by simp [e, hi]) h3
       unfold tokenR; rw [if_neg h1, if_neg h2, if_neg h3]
       split
       · rename_i l' 
         exact tok_close b s _ ao cap L m w h hs hm hL l' rfl h1' h2' hh
       · rename_i l' hx
         refine tok_open b s _ ao cap L m w h hs hm hL l' rfl ?_ h1' h2' hh
         cases l' with
         | nil => rfl
         | cons c r =>
          simp only [List.isPrefixOf, Bool.and_true]
          have : c ≠ 47 := fun e => hx r (by rw [e])
          simpa using Ne.symm this
       · rename_i hx hy
         refine tok_text b s _ ao cap L m w h hs hm hL h1' h2' hh ?_
         cases l with
         | nil => rfl
         | cons c r =>
          simp only [List.isPrefixOf, Bool.and_true]
          have : c ≠ 60 := fun e => hy r (by rw [e])
          simpa using Ne.symm this

end Go.Proofs.YtphaeegbmfpcgaaGreatDoor

/- The walks of At, and of the closure that All defers; their conditions stand in the theorems. -/
namespace Go.Proofs.YtphaeegbmfpcgaaGreatDoor
open Go Go.RowKit

/-- A place in memory. -/
def placeV (s : Bs) (o : Nat) : Value := .agg #[.int .i64 o, .int .i64 (lineCol (s.take o)).1, .int .i64 (lineCol (s.take o)).2]
set_option maxRecDepth 100000 in
set_option maxHeartbeats 2000000 in
theorem at_any (s : S) (o : Nat) (w : World) (h : o ≤ s.size) (hs : s.size ≤ 1000000) :
    Calls Tryz.prog 82 #[.string s, .int .i64 o] w fun e w' => e = .returned (placeV s.data.toList o) ∧ Below w.heap.size w w' := by
 have hE : Hid ((s.extract 0 o).data.toList = s.data.toList.take o) := by show _ = _; rw [Lib.extract_data]; simp
 have hz : Hid ((s.extract 0 o).size = o) := by show _ = _; rw [← size_data, hE.out, List.length_take, size_data]; omega
 have HC := Lib.hid (fun w => count_any (s.extract 0 o) w)
 have HL := Lib.hid (fun w => lastIndex_any (s.extract 0 o) w (by rw [hz.out]; omega))
 rw [hE.out] at HC HL
 rw [hz.out] at HL
 obtain ⟨b1, b2, b3, b4⟩ := lineCol_pos (s.data.toList.take o)
 rw [List.length_take] at b3 b4
 have b5 : (lineCol (s.data.toList.take o)).1 ≤ 1000001 := by omega
 have b6 : (lineCol (s.data.toList.take o)).2 ≤ 1000001 := by omega
 unfold placeV
 generalize (lineCol (s.data.toList.take o)).1 = li at *
 generalize (lineCol (s.data.toList.take o)).2 = co at *
 clear b3 b4 hE
 have m1 : min (o : Int) (s.size : Int) = (o : Int) := by omega
 have m2 : max (0 : Int) (o : Int) = (o : Int) := by omega
 go_enter Tryz.func82, Tryz.ntmps82
 go_wp2_with fail
 refine (HC.out _).mono ?_
 rintro e w' ⟨rfl, rfl⟩
 go_wp2_with fail
 refine (HL.out _).mono ?_
 rintro e w' ⟨rfl, rfl⟩
 go_wp2
 refine bodyPost_ret (v := .agg #[.int .i64 o, .int .i64 (1 + ((li : Int) - 1)), .int .i64 ((o : Int) - ((o : Int) - co))]) (by simp [results, Tryz.results82, go_sem]) rfl ⟨?_, (Below.refl _ _).alloc (Nat.le_refl _) _⟩
 rw [show 1 + ((li : Int) - 1) = (li : Int) by omega, show (o : Int) - ((o : Int) - co) = (co : Int) by omega]
theorem assert_fault (x o : Int) (w : World) : (Instr.typeAssert (.iface 202 (.agg #[.int .i64 x, .int .i64 o])) 20 202 true).run Tryz.prog w = .ok (.tuple #[.agg #[.int .i64 x, .int .i64 o], .bool true]) w := by kernel_rfl
set_option maxRecDepth 100000 in
set_option maxHeartbeats 4000000 in
theorem catch_panicking (B : Nat) (s : S) (x : Int) (o : Nat) (older : List PanicEntry) (v1 v2 p0 p1 p2 : Value) (w : World) (ho : o ≤ s.size) (hs : s.size ≤ 1000000)
    (h0 : Box w B [.string s]) (h1 : Box w (B + 1) [v1]) (h2 : Box w (B + 2) [v2]) (h3 : Box w (B + 3) [p0, p1, p2]) :
    CallsD Tryz.prog 119 #[.pointer (some ⟨B, 0, none⟩), .pointer (some ⟨B + 1, 0, none⟩), .pointer (some ⟨B + 2, 0, none⟩), .pointer (some ⟨B + 3, 0, none⟩)] (.panicking ({ v := faultV x o, recovered := false } :: older)) w fun e u' w' =>
     e = .returned (.tuple #[]) ∧ u' = .panicking ({ v := faultV x o, recovered := true } :: older) ∧ Box w' (B + 1) [.slice none 0 0] ∧ Box w' (B + 2) [.int .i64 x] ∧ (∃ q0 q1 q2, placeV s.data.toList o = .agg #[q0, q1, q2] ∧ Box w' (B + 3) [q0, q1, q2]) ∧ Below B w w' := by
 refine callsD_of_wpS Tryz.func119 rfl fun c₀ cs hu => ?_
 apply wpS_seq
 apply wpS_region
 simp [wpOpsS, go_sem, recoverD, hu, Tryz.ntmps119, Exit.thenS]
 refine wpS_of_wp ?_
 have ht : ∀ a b c d v : Value, (#[a, b, c, d] ++ (Array.replicate 15 undef).setIfInBounds 3 v : Array Value) = #[a, b, c, d, undef, undef, undef, v, undef, undef, undef, undef, undef, undef, undef, undef, undef, undef, undef] := fun _ _ _ _ _ => rfl
 rw [ht]
 clear ht
 simp only [faultV]
 have HAT : Hid (∀ w, Calls Tryz.prog 82 #[.string s, .int .i64 o] w fun e w' => e = .returned (.agg #[.int .i64 o, .int .i64 (lineCol (s.data.toList.take o)).1, .int .i64 (lineCol (s.data.toList.take o)).2]) ∧ Below w.heap.size w w') := fun w => at_any s o w ho hs
 have hta := assert_fault x o
 have H0 := Lib.hid (And.intro h0 (And.intro h1 (And.intro h2 h3)))
 have l3 := h3.lt
 clear h0 h1 h2 h3
 generalize hli : (lineCol (s.data.toList.take o)).1 = li at *
 generalize hco : (lineCol (s.data.toList.take o)).2 = co at *
 have HLI := Lib.hid hli
 have HCO := Lib.hid hco
 clear hli hco
 go_wp2
 refine wp_world ?_
 intro W hW
 have hF : Box W w.heap.size [.int .i64 x, .int .i64 o] := by rw [hW]; exact Box.new w _ _ _ rfl
 have hbW : Below w.heap.size w W := by rw [hW]; exact (Below.refl _ _).alloc (Nat.le_refl _) _
 clear hW hta
 have h0 := H0.out.1.below hbW H0.out.1.lt
 have h1 := H0.out.2.1.below hbW H0.out.2.1.lt
 have h2 := H0.out.2.2.1.below hbW H0.out.2.2.1.lt
 have h3 := H0.out.2.2.2.below hbW H0.out.2.2.2.lt
 have a0 := h0.cell 0 _ rfl
 have a1 := hF.cell 0 _ rfl
 have a2 := hF.cell 1 _ rfl
 have a3 := h1.cell 0 _ rfl
 have a4 := h2.cell 0 _ rfl
 obtain ⟨a5, a6, a7⟩ := bxc3 h3
 have f3 := h1.free 0
 have f4 := h2.free 0
 have f5 := h3.free 0
 have f6 := h3.free 1
 have f7 := h3.free 2
 have lF := hF.lt
 have KF := Lib.hid hF
 have K1 := Lib.hid h1
 have K2 := Lib.hid h2
 have K3 := Lib.hid h3
 clear h0 h1 h2 h3 hF
 go_region_with ((go_at_call 82; refine (HAT.out _).mono ?_; rintro e w9 ⟨rfl, hb9'⟩; have hb9 : Hid (Below W.heap.size W w9) := (Below.drew (Below.refl W.heap.size W)).trans hb9'; clear hb9'; have b1 := (KF.out.below hb9.out KF.out.lt).cell 0 _ rfl; have b3 := (K1.out.below hb9.out K1.out.lt).cell 0 _ rfl; have b4 := (K2.out.below hb9.out K2.out.lt).cell 0 _ rfl; have b5 := (K3.out.below hb9.out K3.out.lt).cell 0 _ rfl; have b6 := (K3.out.below hb9.out K3.out.lt).cell 1 _ rfl; have b7 := (K3.out.below hb9.out K3.out.lt).cell 2 _ rfl; have g3 := (K1.out.below hb9.out K1.out.lt).free 0; have g4 := (K2.out.below hb9.out K2.out.lt).free 0; have g5 := (K3.out.below hb9.out K3.out.lt).free 0; have g6 := (K3.out.below hb9.out K3.out.lt).free 1; have g7 := (K3.out.below hb9.out K3.out.lt).free 2; have l9 := (K3.out.below hb9.out K3.out.lt).lt))
 all_goals
  have z1 : Box (((((w9.setCell ⟨B + 1, 0, none⟩ (.slice none 0 0)).setCell ⟨B + 2, 0, none⟩ (.int .i64 x)).setCell ⟨B + 3, 0, none⟩ (.int .i64 o)).setCell ⟨B + 3, 1, none⟩ (.int .i64 li)).setCell ⟨B + 3, 2, none⟩ (.int .i64 co)) (B + 1) [.slice none 0 0] :=
   (((((K1.out.below hb9.out K1.out.lt).set 0 _).grownB (setCell_grown _ (B + 2) 0 _) (by omega)).grownB (setCell_grown _ (B + 3) 0 _) (by omega)).grownB (setCell_grown _ (B + 3) 1 _) (by omega)).grownB (setCell_grown _ (B + 3) 2 _) (by omega)
  have z2 : Box (((((w9.setCell ⟨B + 1, 0, none⟩ (.slice none 0 0)).setCell ⟨B + 2, 0, none⟩ (.int .i64 x)).setCell ⟨B + 3, 0, none⟩ (.int .i64 o)).setCell ⟨B + 3, 1, none⟩ (.int .i64 li)).setCell ⟨B + 3, 2, none⟩ (.int .i64 co)) (B + 2) [.int .i64 x] :=
   (((((K2.out.below hb9.out K2.out.lt).grownB (setCell_grown _ (B + 1) 0 _) (by omega)).set 0 _).grownB (setCell_grown _ (B + 3) 0 _) (by omega)).grownB (setCell_grown _ (B + 3) 1 _) (by omega)).grownB (setCell_grown _ (B + 3) 2 _) (by omega)
  have z3 : Box (((((w9.setCell ⟨B + 1, 0, none⟩ (.slice none 0 0)).setCell ⟨B + 2, 0, none⟩ (.int .i64 x)).setCell ⟨B + 3, 0, none⟩ (.int .i64 o)).setCell ⟨B + 3, 1, none⟩ (.int .i64 li)).setCell ⟨B + 3, 2, none⟩ (.int .i64 co)) (B + 3) [.int .i64 o, .int .i64 li, .int .i64 co] :=
   (((((K3.out.below hb9.out K3.out.lt).grownB (setCell_grown _ (B + 1) 0 _) (by omega)).grownB (setCell_grown _ (B + 2) 0 _) (by omega)).set 0 _).set 1 _).set 2 _
  have z4 : Below B w (((((w9.setCell ⟨B + 1, 0, none⟩ (.slice none 0 0)).setCell ⟨B + 2, 0, none⟩ (.int .i64 x)).setCell ⟨B + 3, 0, none⟩ (.int .i64 o)).setCell ⟨B + 3, 1, none⟩ (.int .i64 li)).setCell ⟨B + 3, 2, none⟩ (.int .i64 co)) :=
   ((((((hbW.mono (by omega)).trans (hb9.out.mono (by omega))).setCell (p := ⟨B + 1, 0, none⟩) (by simp) _).setCell (p := ⟨B + 2, 0, none⟩) (by simp) _).setCell (p := ⟨B + 3, 0, none⟩) (by simp) _).setCell (p := ⟨B + 3, 1, none⟩) (by simp) _).setCell (p := ⟨B + 3, 2, none⟩) (by simp) _
  exact ⟨rfl, _, rfl, .tuple #[], by simp [results, Tryz.results119, go_sem], rfl, rfl, z1, z2, ⟨.int .i64 o, .int .i64 li, .int .i64 co, by unfold placeV; rw [HLI.out, HCO.out], z3⟩, z4⟩

end Go.Proofs.YtphaeegbmfpcgaaGreatDoor

/- The closure that All defers, where nothing panics; no conditions. -/
namespace Go.Proofs.YtphaeegbmfpcgaaGreatDoor
open Go Go.RowKit

set_option maxRecDepth 100000 in
set_option maxHeartbeats 4000000 in
theorem catch_idle (a b c d : Addr) (w : World) :
    CallsD Tryz.prog 119 #[.pointer (some a), .pointer (some b), .pointer (some c), .pointer (some d)] .returning w fun e u' w' => e = .returned (.tuple #[]) ∧ u' = .returning ∧ w' = w := by
 refine callsD_of_wpS Tryz.func119 rfl fun c₀ cs hu => ?_
 apply wpS_seq
 apply wpS_region
 simp [wpOpsS, go_sem, recoverD, hu, Tryz.ntmps119, Exit.thenS]
 refine wpS_of_wp ?_
 have ht : ∀ a b c d v : Value, (#[a, b, c, d] ++ (Array.replicate 15 undef).setIfInBounds 3 v : Array Value) = #[a, b, c, d, undef, undef, undef, v, undef, undef, undef, undef, undef, undef, undef, undef, undef, undef, undef] := fun _ _ _ _ _ => rfl
 rw [ht]
 clear ht
 go_wp2
 refine ⟨rfl, .returning, ?_, .tuple #[], by simp [results, Tryz.results119, go_sem], rfl, rfl, rfl⟩
 cases c₀
 simp_all

end Go.Proofs.YtphaeegbmfpcgaaGreatDoor

/- The walk of All; its conditions stand in the theorem. -/

namespace Go.Proofs.YtphaeegbmfpcgaaGreatDoor
open Go Go.RowKit

/-- The tokens of a text in memory. -/
structure TokSl (base : Nat) (w : World) (s : S) (ov : Value) (L : List TkM) (acc : List (Tk × Bs)) : Prop where
 own : Owns base 157 7 tkC w ov L
 att : ∀ x ∈ L, Owns base 176 2 atC w x.av x.t.attrs
 is : L.map (fun x => (x.t, x.off, x.line, x.col)) = acc.map (fun p => (p.1, (pos s p.2 : Int), ((lineCol (s.data.toList.take (pos s p.2))).1 : Int), ((lineCol (s.data.toList.take (pos s p.2))).2 : Int)))
def zeroPlace : Value := .agg #[.int .i64 0, .int .i64 0, .int .i64 0]
/-- What All returns. -/
def AllOut (s : S) (w : World) : Res (List (Tk × Bs)) → Ending → World → Prop
 | .ok acc _ => fun e w' => ∃ ov L, e = .returned (.tuple #[ov, .int .i64 0, zeroPlace]) ∧ TokSl w.heap.size w' s ov L acc ∧ Below w.heap.size w w'
 | .bad x r => fun e w' => e = .returned (.tuple #[.slice none 0 0, .int .i64 x, placeV s.data.toList (pos s r)]) ∧ Below w.heap.size w w'
/-- The four variables that All's results and its closure share. -/
structure Vars (W : World) (B : Nat) (s : S) (v1 v2 p0 p1 p2 : Value) : Prop where
 x0 : Box W B [.string s]
 x1 : Box W (B + 1) [v1]
 x2 : Box W (B + 2) [v2]
 x3 : Box W (B + 3) [p0, p1, p2]
theorem Vars.made (w : World) (s : S) : Vars ((((w.alloc (.cells #[.string s] 9)).alloc (.cells #[.slice none 0 0] 149)).alloc (.cells #[.int .i64 0] 49)).alloc (.cells #[.int .i64 0, .int .i64 0, .int .i64 0] 51)) w.heap.size s (.slice none 0 0) (.int .i64 0) (.int .i64 0) (.int .i64 0) (.int .i64 0) :=
 ⟨(((Box.new w [.string s] _ _ rfl).alloc _).alloc _).alloc _, (((Box.new _ [.slice none 0 0] _ _ (by simp)).alloc _).alloc _), ((Box.new _ [.int .i64 0] _ _ (by simp)).alloc _), Box.new _ [.int .i64 0, .int .i64 0, .int .i64 0] _ _ (by simp)⟩
theorem Vars.below {W W' : World} {B : Nat} {s : S} {v1 v2 p0 p1 p2 : Value} (h : Vars W B s v1 v2 p0 p1 p2) (hb : Below W.heap.size W W') : Vars W' B s v1 v2 p0 p1 p2 :=
 ⟨h.x0.below hb h.x0.lt, h.x1.below hb h.x1.lt, h.x2.below hb h.x2.lt, h.x3.below hb h.x3.lt⟩
theorem Vars.belowB {W W' : World} {B C : Nat} {s : S} {v1 v2 p0 p1 p2 : Value} (h : Vars W B s v1 v2 p0 p1 p2) (hb : Below C W W') (hC : B + 3 < C) : Vars W' B s v1 v2 p0 p1 p2 :=
 ⟨h.x0.below hb (by omega), h.x1.below hb (by omega), h.x2.below hb (by omega), h.x3.below hb (by omega)⟩
theorem Vars.store {W : World} {B : Nat} {s : S} {v1 v2 p0 p1 p2 : Value} (h : Vars W B s v1 v2 p0 p1 p2) (u1 u2 q0 q1 q2 : Value) : Vars (((((W.setCell ⟨B + 1, 0, none⟩ u1).setCell ⟨B + 2, 0, none⟩ u2).setCell ⟨B + 3, 0, none⟩ q0).setCell ⟨B + 3, 1, none⟩ q1).setCell ⟨B + 3, 2, none⟩ q2) B s u1 u2 q0 q1 q2 :=
 ⟨((((h.x0.grownB (setCell_grown _ (B + 1) 0 _) (by omega)).grownB (setCell_grown _ (B + 2) 0 _) (by omega)).grownB (setCell_grown _ (B + 3) 0 _) (by omega)).grownB (setCell_grown _ (B + 3) 1 _) (by omega)).grownB (setCell_grown _ (B + 3) 2 _) (by omega),
  ((((h.x1.set 0 _).grownB (setCell_grown _ (B + 2) 0 _) (by omega)).grownB (setCell_grown _ (B + 3) 0 _) (by omega)).grownB (setCell_grown _ (B + 3) 1 _) (by omega)).grownB (setCell_grown _ (B + 3) 2 _) (by omega),
  ((((h.x2.grownB (setCell_grown _ (B + 1) 0 _) (by omega)).set 0 _).grownB (setCell_grown _ (B + 3) 0 _) (by omega)).grownB (setCell_grown _ (B + 3) 1 _) (by omega)).grownB (setCell_grown _ (B + 3) 2 _) (by omega),
  ((((h.x3.grownB (setCell_grown _ (B + 1) 0 _) (by omega)).grownB (setCell_grown _ (B + 2) 0 _) (by omega)).set 0 _).set 1 _).set 2 _⟩
theorem below_store {W0 W : World} {B : Nat} (h : Below B W0 W) (u1 u2 q0 q1 q2 : Value) : Below B W0 (((((W.setCell ⟨B + 1, 0, none⟩ u1).setCell ⟨B + 2, 0, none⟩ u2).setCell ⟨B + 3, 0, none⟩ q0).setCell ⟨B + 3, 1, none⟩ q1).setCell ⟨B + 3, 2, none⟩ q2) :=
 ((((h.setCell (p := ⟨B + 1, 0, none⟩) (by simp) _).setCell (p := ⟨B + 2, 0, none⟩) (by simp) _).setCell (p := ⟨B + 3, 0, none⟩) (by simp) _).setCell (p := ⟨B + 3, 1, none⟩) (by simp) _).setCell (p := ⟨B + 3, 2, none⟩) (by simp) _

end Go.Proofs.YtphaeegbmfpcgaaGreatDoor

/- What the second loop of All does: each token gets its line and column; plain facts on memory; no walk. -/

namespace Go.Proofs.YtphaeegbmfpcgaaGreatDoor
open Go Go.RowKit

def fillT (s : S) (x : TkM) : TkM := { x with line := (lineCol (s.data.toList.take x.off.toNat)).1, col := (lineCol (s.data.toList.take x.off.toNat)).2 }
theorem Vars.setHigh {W : World} {B : Nat} {s : S} {v1 v2 p0 p1 p2 : Value} (h : Vars W B s v1 v2 p0 p1 p2) {g : Nat} (hg : B + 3 < g) (j : Nat) (u : Value) : Vars (W.setCell ⟨g, j, none⟩ u) B s v1 v2 p0 p1 p2 :=
 ⟨h.x0.grownB (setCell_grown _ g j _) (by omega), h.x1.grownB (setCell_grown _ g j _) (by omega), h.x2.grownB (setCell_grown _ g j _) (by omega), h.x3.grownB (setCell_grown _ g j _) (by omega)⟩
/-- What the second loop has done so far. -/
structure Places (w wr : World) (s : S) (ao : Option Addr) (cap : Nat) (L : List TkM) (k : Nat) : Prop where
 rd : Rd wr (w.heap.size + 4) s [] (.slice ao L.length cap)
 vars : Vars wr w.heap.size s (.slice none 0 0) (.int .i64 0) (.int .i64 0) (.int .i64 0) (.int .i64 0)
 below : Below w.heap.size w wr
 own : Owns (w.heap.size + 5) 157 7 tkC wr (.slice ao L.length cap) ((L.take k).map (fillT s) ++ L.drop k)
 att : ∀ x ∈ (L.take k).map (fillT s) ++ L.drop k, Owns (w.heap.size + 5) 176 2 atC wr x.av x.t.attrs
theorem fill_get {s : S} {L : List TkM} {k : Nat} (hk : k < L.length) : ((L.take k).map (fillT s) ++ L.drop k)[k]? = some L[k] := by
 rw [List.getElem?_append_right (by simp; omega)]
 simp [Nat.min_eq_left (Nat.le_of_lt hk)]
theorem fill_set {s : S} {L : List TkM} {k : Nat} (hk : k < L.length) : ((L.take k).map (fillT s) ++ L.drop k).set k (fillT s L[k]) = (L.take (k + 1)).map (fillT s) ++ L.drop (k + 1) := by
 have hl : ((L.take k).map (fillT s)).length = k := by simp; omega
 rw [List.set_append_right _ _ (by omega), hl, Nat.sub_self, List.drop_eq_getElem_cons hk, List.set_cons_zero, List.take_succ_eq_append_getElem hk, List.map_append]
 simp
theorem Places.step {w wr : World} {s : S} {g cap : Nat} {L : List TkM} {k : Nat} (h : Places w wr s (some ⟨g, 0, none⟩) cap L k) (hk : k < L.length) (hg : w.heap.size + 5 ≤ g) :
    Places w ((wr.setCell ⟨g, k * 7 + 5, none⟩ (.int .i64 (fillT s L[k]).line)).setCell ⟨g, k * 7 + 6, none⟩ (.int .i64 (fillT s L[k]).col)) s (some ⟨g, 0, none⟩) cap L (k + 1) := by
 have hlen : ((L.take k).map (fillT s) ++ L.drop k).length = L.length := by simp; omega
 have ho1 : Owns (w.heap.size + 5) 157 7 tkC wr (.slice (some ⟨g, 0, none⟩) ((L.take k).map (fillT s) ++ L.drop k).length cap) ((L.take k).map (fillT s) ++ L.drop k) := by rw [hlen]; exact h.own
 obtain ⟨g1, e1, -, -, -, -, -, hst1⟩ := own_store (j := 5) tkC_len ho1 (fill_get hk) (by decide)
 cases e1
 have ho2 := hst1 (.int .i64 (fillT s L[k]).line) { L[k] with line := (fillT s L[k]).line } rfl
 have hget2 : (((L.take k).map (fillT s) ++ L.drop k).set k { L[k] with line := (fillT s L[k]).line })[k]? = some { L[k] with line := (fillT s L[k]).line } := by
  rw [List.getElem?_set, if_pos rfl, if_pos (by rw [hlen]; exact hk)]
 obtain ⟨g2, e2, -, -, -, -, -, hst2⟩ := own_store (j := 6) tkC_len ho2 hget2 (by decide)
 cases e2
 have ho3 := hst2 (.int .i64 (fillT s L[k]).col) (fillT s L[k]) rfl
 rw [List.set_set, fill_set hk] at ho3
 have hl3 : ((L.take (k + 1)).map (fillT s) ++ L.drop (k + 1)).length = L.length := by simp; omega
 refine ⟨(h.rd.setOther (by omega) _ _).setOther (by omega) _ _, (h.vars.setHigh (by omega) _ _).setHigh (by omega) _ _, (h.below.setCell (p := ⟨g, _, none⟩) (by simp; omega) _).setCell (p := ⟨g, _, none⟩) (by simp; omega) _, ?_, ?_⟩
 · rw [hlen] at ho3; exact ho3
 · intro x hx
   have hx' : ∃ y ∈ (L.take k).map (fillT s) ++ L.drop k, y.av = x.av ∧ y.t = x.t := by
    rw [← fill_set hk] at hx
    obtain ⟨i, hi, rfl⟩ := List.mem_iff_getElem.1 hx
    rw [List.length_set] at hi
    rw [List.getElem_set]
    split
    · exact ⟨L[k], List.mem_of_getElem? (fill_get hk), rfl, rfl⟩
    · exact ⟨_, List.getElem_mem hi, rfl, rfl⟩
   obtain ⟨y, hy, ha, ht⟩ := hx'
   have h1 := h.att y hy
   rw [ha, ht] at h1
   have hne := own_types h1 h.own (by decide)
   have h2 := h1.kept (setCell_grown wr g (k * 7 + 5) (.int .i64 (fillT s L[k]).line)) hne
   exact h2.kept (setCell_grown _ g (k * 7 + 6) (.int .i64 (fillT s L[k]).col)) hne

end Go.Proofs.YtphaeegbmfpcgaaGreatDoor
