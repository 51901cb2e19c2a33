/- The walk of the program's reader's token where it reads letters; the conditions stand in the theorem. -/
import Derived.Test.YtphaeegbmfpcgaaGreatDoorFB06

namespace Go.Proofs.YtphaeegbmfpcgaaGreatDoor
open Go Go.RowKit

set_option maxRecDepth 100000 in
set_option maxHeartbeats 8000000 in
theorem tok_text (b : Nat) (s : S) (l : Bs) (ao : Option Addr) (cap : Nat) (L : List TkM) (m : Int) (w : World) (h : Toks w b s l (.slice ao L.length cap) L) (hs : s.size ≤ 65536) (hm : w.cell? ⟨0, 0, none⟩ = some (.int .i64 m)) (hL : L.length ≤ 1000000)
    (hno : sNote.isPrefixOf l = false) (hno2 : sData.isPrefixOf l = false) (hh : pos s l = 0 → isHead l = false) (hlt : ([60] : Bs).isPrefixOf l = false) :
    Calls Tryz.prog 121 #[.pointer (some ⟨b, 0, none⟩)] w (OutT b s (pos s l) L w ((letters 60 l).map fun t => ⟨4, [], [], t⟩)) := by
 have hlt0 := h.rd.box.lt
 have c1 := h.rd.c1
 have H0 := Lib.hid h
 have hs2 : s.size ≤ 1000000 := by omega
 have HM := Lib.hid hm
 have hp := pos_add h.rd.suf
 have hpb : (pos s l : Int) ≤ 65536 := by omega
 have HA : Hid (∀ w, Rd w b s l (.slice ao L.length cap) → Calls Tryz.prog 153 #[.pointer (some ⟨b, 0, none⟩), .string ⟨#[60, 33, 45, 45]⟩] w (Qt (.bool false) w)) := fun w h => by
  have := has_pre b s l (.slice ao L.length cap) ⟨#[60, 33, 45, 45]⟩ w h
  rw [show (⟨#[60, 33, 45, 45]⟩ : S).data.toList.isPrefixOf l = false from hno] at this; exact this
 have HB : Hid (∀ w, Rd w b s l (.slice ao L.length cap) → Calls Tryz.prog 153 #[.pointer (some ⟨b, 0, none⟩), .string ⟨#[60, 33, 91, 67, 68, 65, 84, 65, 91]⟩] w (Qt (.bool false) w)) := fun w h => by
  have := has_pre b s l (.slice ao L.length cap) ⟨#[60, 33, 91, 67, 68, 65, 84, 65, 91]⟩ w h
  rw [show (⟨#[60, 33, 91, 67, 68, 65, 84, 65, 91]⟩ : S).data.toList.isPrefixOf l = false from hno2] at this; exact this
 have HD : Hid (∀ w, Rd w b s l (.slice ao L.length cap) → Calls Tryz.prog 153 #[.pointer (some ⟨b, 0, none⟩), .string ⟨#[60]⟩] w (Qt (.bool false) w)) := fun w h => by
  have := has_pre b s l (.slice ao L.length cap) ⟨#[60]⟩ w h
  rw [show (⟨#[60]⟩ : S).data.toList.isPrefixOf l = false from hlt] at this; exact this
 have hlt2 : ([60, 47] : Bs).isPrefixOf l = false := by
  cases l with
  | nil => rfl
  | cons c r => simp only [List.isPrefixOf, Bool.and_true] at hlt ⊢; rw [hlt]; rfl
 have HC : Hid (∀ w, Rd w b s l (.slice ao L.length cap) → Calls Tryz.prog 153 #[.pointer (some ⟨b, 0, none⟩), .string ⟨#[60, 47]⟩] w (Qt (.bool false) w)) := fun w h => by
  have := has_pre b s l (.slice ao L.length cap) ⟨#[60, 47]⟩ w h
  rw [show (⟨#[60, 47]⟩ : S).data.toList.isPrefixOf l = false from hlt2] at this; exact this
 have HU : Hid (∀ w, Rd w b s l (.slice ao L.length cap) → Calls Tryz.prog 160 #[.pointer (some ⟨b, 0, none⟩), .int .u8 60] w (Out (fun t => .string (bs t)) b s (.slice ao L.length cap) w (letters 60 l))) := fun w h => letters_any b s 60 l (.slice ao L.length cap) w h hs2
 clear hno hno2 hlt hlt2 h hm
 by_cases hp0 : pos s l = 0
 · have e0 : (((pos s l : Nat) : Int) == 0) = true := by rw [hp0]; rfl
   have HIH : Hid (∀ w, Rd w b s l (.slice ao L.length cap) → Calls Tryz.prog 155 #[.pointer (some ⟨b, 0, none⟩)] w (Qt (.bool false) w)) := fun w h => by
    have := isHead_any b s l (.slice ao L.length cap) w h hs2
    rw [show isHead l = false from hh hp0] at this; exact this
   clear hp0 hh
   have hR : Rd (w.alloc (.cells #[.int .i64 0, .string ⟨#[]⟩, .slice none 0 0, .string ⟨#[]⟩, .int .i64 (pos s l), .int .i64 0, .int .i64 0] 157)) b s l (.slice ao L.length cap) := H0.out.rd.below ((Below.refl _ _).alloc (Nat.le_refl _) _)
   go_enter Tryz.func121, Tryz.ntmps121
   go_wp2_with fail
   refine Calls.world ?_
   intro W hW
   have hx : Box W w.heap.size [.int .i64 0, .string ⟨#[]⟩, .slice none 0 0, .string ⟨#[]⟩, .int .i64 (pos s l), .int .i64 0, .int .i64 0] := by rw [hW]; exact Box.new w _ _ _ rfl
   have hG : w.grownBy W (some b) := by rw [hW]; exact World.grownBy_alloc _ _ _
   rw [← hW] at hR
   have hm : W.cell? ⟨0, 0, none⟩ = some (.int .i64 m) := by rw [hW, World.cell?_alloc_lt _ _ _ (by simp; omega)]; exact HM.out
   clear hW
   clear c1
   have c1 := hR.c1
   refine (HA.out W hR).mono ?_
   rintro e w1 ⟨rfl, n0, rfl⟩
   go_wp2_with fail
   refine (HB.out _ (hR.drewN _)).mono ?_
   rintro e w1 ⟨rfl, n1, rfl⟩
   go_wp2_with fail
   refine (HIH.out _ (hR.drewN _)).mono ?_
   rintro e w1 ⟨rfl, n2, rfl⟩
   go_wp2_with fail
   refine (HC.out _ (hR.drewN _)).mono ?_
   rintro e w1 ⟨rfl, n3, rfl⟩
   go_wp2_with fail
   refine (HD.out _ (hR.drewN _)).mono ?_
   rintro e w1 ⟨rfl, n4, rfl⟩
   have hcall := HU.out (W.drewN (n0 + n1 + n2 + n3 + n4)) (hR.drewN _)
   cases hpl : letters 60 l with
   | bad x r =>
    rw [hpl] at hcall
    have HP := Lib.hid hpl
    clear hpl
    have HCL := Lib.hid hcall
    clear hcall hR hx
    go_wp2_with fail
    refine HCL.out.mono ?_
    intro e w2 hO
    obtain ⟨rfl, hg⟩ : Bad x s r b _ e w2 := hO
    go_wp2
    rw [HP.out]
    exact ⟨rfl, rfl, below_grown ((hG.trans (grownN _ _ _)).trans hg) (by omega)⟩
   | ok t r =>
    rw [hpl] at hcall
    have HP := Lib.hid hpl
    clear hpl
    have HCL := Lib.hid hcall
    clear hcall
    go_wp2_with fail
    refine HCL.out.mono ?_
    intro e w2 hO
    obtain ⟨rfl, hR2, hg⟩ : Goes (.string (bs t)) b s r (.slice ao L.length cap) _ e w2 := hO
    have hx2 := (hx.drewN (n0 + n1 + n2 + n3 + n4)).grownB hg (by omega)
    have hG2 := (hG.trans (grownN _ (n0 + n1 + n2 + n3 + n4) _)).trans hg
    have q0 := hx2.cell 0 _ rfl
    have q3 := hx2.cell 3 _ rfl
    have qf0 := hx2.free 0
    have qf3 := hx2.free 3
    have qlt := hx2.lt
    have HX2 := Lib.hid hx2
    have HG2 := Lib.hid hG2
    have HR2 := Lib.hid hR2
    clear hx hx2 hg hG hG2 hR hR2 hm HCL
    go_wp2
    refine wp_world ?_
    intro W3 hW3
    have hx3 : Box W3 w.heap.size [.int .i64 4, .string ⟨#[]⟩, .slice none 0 0, .string (bs t), .int .i64 (pos s l), .int .i64 0, .int .i64 0] := by rw [hW3]; exact (HX2.out.set 0 _).set 3 _
    have hR3 : Rd W3 b s r (.slice ao L.length cap) := by rw [hW3]; exact (HR2.out.setOther (by omega) _ _).setOther (by omega) _ _
    have hG3 : w.grownBy W3 (some b) := by rw [hW3]; exact grown_set (grown_set HG2.out (Nat.le_refl _) _ _) (Nat.le_refl _) _ _
    have HAV : Hid (Owns (b + 1) 176 2 atC W3 (.slice none 0 0) ([] : List At2)) := Owns.nil
    clear hW3 HX2 HG2 HR2 q0 q3 qf0 qf3 qlt
    have c2 := hR3.c2
    have f2 := hR3.box.free 2
    have hlt3 := hR3.box.lt
    obtain ⟨t0, t1, t2, t3, t4, t5, t6⟩ := bxc7 hx3
    have tlt := hx3.lt
    have HT3 := Lib.hid (H0.out.kept hG3 hR3)
    have HR3 := Lib.hid hR3
    have HG3 := Lib.hid hG3
    clear hx3 hR3 hG3
    have hne8 : Hid (some b ≠ (Value.slice ao L.length cap).ownBlock) := fun e => by have := (HT3.out.own.lt b e.symm).1; omega
    have hbx8 : Hid (Box ((W3.alloc (.cells (tkC ⟨⟨4, [], [], t⟩, .slice none 0 0, pos s l, 0, 0⟩).toArray 157)).drew) b [.string s, .int .i64 (pos s r : Nat), .slice ao L.length cap]) := (HR3.out.box.alloc _).drew
    have hnw : ∀ j u, (tkC ⟨⟨4, [], [], t⟩, .slice none 0 0, pos s l, 0, 0⟩)[j]? = some u → ((W3.alloc (.cells (tkC ⟨⟨4, [], [], t⟩, .slice none 0 0, pos s l, 0, 0⟩).toArray 157)).drew).cell? ⟨W3.heap.size, j, none⟩ = some u := fun j u hu => (Box.new W3 (tkC ⟨⟨4, [], [], t⟩, .slice none 0 0, pos s l, 0, 0⟩) 157 _ rfl).cell j u hu
    have hco : ∀ u ∈ tkC ⟨⟨4, [], [], t⟩, .slice none 0 0, pos s l, 0, 0⟩, u.oneCell' = true := by intro u hu; simp [tkC] at hu; rcases hu with rfl | rfl | rfl | rfl | rfl | rfl | rfl <;> rfl
    have HNW := Lib.hid hnw
    have HCO := Lib.hid hco
    have hown4 := Lib.hid ((HT3.out.own.alloc (.cells (tkC ⟨⟨4, [], [], t⟩, .slice none 0 0, pos s l, 0, 0⟩).toArray 157)).drew)
    have hbl : Hid ((L.length + 1) * 88 ≤ 140737488355328) := by show _ ≤ _; omega
    have hbs : Hid (b + 1 ≤ ((W3.alloc (.cells (tkC ⟨⟨4, [], [], t⟩, .slice none 0 0, pos s l, 0, 0⟩).toArray 157)).drew).heap.size) := by show _ ≤ _; simp; omega
    have hsz4 : Hid (((W3.alloc (.cells (tkC ⟨⟨4, [], [], t⟩, .slice none 0 0, pos s l, 0, 0⟩).toArray 157)).drew).heap.size = W3.heap.size + 1) := by show _ = _; simp
    clear hnw hco
    go_region_law (first | (refine step_append_one rfl (.tmp 110) (.tmp 112) 149 rfl (b + 1) 157 Tryz.underlying149 info_token rfl (by decide) tkC_len (.slice ao L.length cap) L (by simp [Act.eval]) hown4.out W3.heap.size ⟨⟨4, [], [], t⟩, .slice none 0 0, pos s l, 0, 0⟩ (by simp [Act.eval]) HNW.out HCO.out hbl.out (by decide) hbs.out (W3.heap.size + 1) hsz4.out ?_; intro g8 cap8 w8 hown8 hgrow8 hat8 hlt8; have hb9 := Lib.hid (hbx8.out.grown hgrow8 hne8.out); have e2 := hb9.out.cell 2 _ rfl; have ef2 := hb9.out.free 2; have el2 := hb9.out.lt; have ho9 := Lib.hid hown8; have hg9 := Lib.hid hgrow8; clear hown8 hgrow8 hat8))
    all_goals
     go_end0
     rw [HP.out]
     obtain ⟨h1, h2⟩ := HT3.out.push HG3.out hlt0 (x := ⟨⟨4, [], [], t⟩, .slice none 0 0, pos s l, 0, 0⟩) HAV.out hg9.out ho9.out
     exact ⟨rfl, _, _, h1, h2⟩
 · have e0 : (((pos s l : Nat) : Int) == 0) = false := beq_eq_false_iff_ne.2 (by omega)
   clear hp0 hh
   have hR : Rd (w.alloc (.cells #[.int .i64 0, .string ⟨#[]⟩, .slice none 0 0, .string ⟨#[]⟩, .int .i64 (pos s l), .int .i64 0, .int .i64 0] 157)) b s l (.slice ao L.length cap) := H0.out.rd.below ((Below.refl _ _).alloc (Nat.le_refl _) _)
   go_enter Tryz.func121, Tryz.ntmps121
   go_wp2_with fail
   refine Calls.world ?_
   intro W hW
   have hx : Box W w.heap.size [.int .i64 0, .string ⟨#[]⟩, .slice none 0 0, .string ⟨#[]⟩, .int .i64 (pos s l), .int .i64 0, .int .i64 0] := by rw [hW]; exact Box.new w _ _ _ rfl
   have hG : w.grownBy W (some b) := by rw [hW]; exact World.grownBy_alloc _ _ _
   rw [← hW] at hR
   have hm : W.cell? ⟨0, 0, none⟩ = some (.int .i64 m) := by rw [hW, World.cell?_alloc_lt _ _ _ (by simp; omega)]; exact HM.out
   clear hW
   clear c1
   have c1 := hR.c1
   refine (HA.out W hR).mono ?_
   rintro e w1 ⟨rfl, n0, rfl⟩
   go_wp2_with fail
   refine (HB.out _ (hR.drewN _)).mono ?_
   rintro e w1 ⟨rfl, n1, rfl⟩
   go_wp2_with fail
   refine (HC.out _ (hR.drewN _)).mono ?_
   rintro e w1 ⟨rfl, n2, rfl⟩
   go_wp2_with fail
   refine (HD.out _ (hR.drewN _)).mono ?_
   rintro e w1 ⟨rfl, n3, rfl⟩
   have hcall := HU.out (W.drewN (n0 + n1 + n2 + n3)) (hR.drewN _)
   cases hpl : letters 60 l with
   | bad x r =>
    rw [hpl] at hcall
    have HP := Lib.hid hpl
    clear hpl
    have HCL := Lib.hid hcall
    clear hcall hR hx
    go_wp2_with fail
    refine HCL.out.mono ?_
    intro e w2 hO
    obtain ⟨rfl, hg⟩ : Bad x s r b _ e w2 := hO
    go_wp2
    rw [HP.out]
    exact ⟨rfl, rfl, below_grown ((hG.trans (grownN _ _ _)).trans hg) (by omega)⟩
   | ok t r =>
    rw [hpl] at hcall
    have HP := Lib.hid hpl
    clear hpl
    have HCL := Lib.hid hcall
    clear hcall
    go_wp2_with fail
    refine HCL.out.mono ?_
    intro e w2 hO
    obtain ⟨rfl, hR2, hg⟩ : Goes (.string (bs t)) b s r (.slice ao L.length cap) _ e w2 := hO
    have hx2 := (hx.drewN (n0 + n1 + n2 + n3)).grownB hg (by omega)
    have hG2 := (hG.trans (grownN _ (n0 + n1 + n2 + n3) _)).trans hg
    have q0 := hx2.cell 0 _ rfl
    have q3 := hx2.cell 3 _ rfl
    have qf0 := hx2.free 0
    have qf3 := hx2.free 3
    have qlt := hx2.lt
    have HX2 := Lib.hid hx2
    have HG2 := Lib.hid hG2
    have HR2 := Lib.hid hR2
    clear hx hx2 hg hG hG2 hR hR2 hm HCL
    go_wp2
    refine wp_world ?_
    intro W3 hW3
    have hx3 : Box W3 w.heap.size [.int .i64 4, .string ⟨#[]⟩, .slice none 0 0, .string (bs t), .int .i64 (pos s l), .int .i64 0, .int .i64 0] := by rw [hW3]; exact (HX2.out.set 0 _).set 3 _
    have hR3 : Rd W3 b s r (.slice ao L.length cap) := by rw [hW3]; exact (HR2.out.setOther (by omega) _ _).setOther (by omega) _ _
    have hG3 : w.grownBy W3 (some b) := by rw [hW3]; exact grown_set (grown_set HG2.out (Nat.le_refl _) _ _) (Nat.le_refl _) _ _
    have HAV : Hid (Owns (b + 1) 176 2 atC W3 (.slice none 0 0) ([] : List At2)) := Owns.nil
    clear hW3 HX2 HG2 HR2 q0 q3 qf0 qf3 qlt
    have c2 := hR3.c2
    have f2 := hR3.box.free 2
    have hlt3 := hR3.box.lt
    obtain ⟨t0, t1, t2, t3, t4, t5, t6⟩ := bxc7 hx3
    have tlt := hx3.lt
    have HT3 := Lib.hid (H0.out.kept hG3 hR3)
    have HR3 := Lib.hid hR3
    have HG3 := Lib.hid hG3
    clear hx3 hR3 hG3
    have hne8 : Hid (some b ≠ (Value.slice ao L.length cap).ownBlock) := fun e => by have := (HT3.out.own.lt b e.symm).1; omega
    have hbx8 : Hid (Box ((W3.alloc (.cells (tkC ⟨⟨4, [], [], t⟩, .slice none 0 0, pos s l, 0, 0⟩).toArray 157)).drew) b [.string s, .int .i64 (pos s r : Nat), .slice ao L.length cap]) := (HR3.out.box.alloc _).drew
    have hnw : ∀ j u, (tkC ⟨⟨4, [], [], t⟩, .slice none 0 0, pos s l, 0, 0⟩)[j]? = some u → ((W3.alloc (.cells (tkC ⟨⟨4, [], [], t⟩, .slice none 0 0, pos s l, 0, 0⟩).toArray 157)).drew).cell? ⟨W3.heap.size, j, none⟩ = some u := fun j u hu => (Box.new W3 (tkC ⟨⟨4, [], [], t⟩, .slice none 0 0, pos s l, 0, 0⟩) 157 _ rfl).cell j u hu
    have hco : ∀ u ∈ tkC ⟨⟨4, [], [], t⟩, .slice none 0 0, pos s l, 0, 0⟩, u.oneCell' = true := by intro u hu; simp [tkC] at hu; rcases hu with rfl | rfl | rfl | rfl | rfl | rfl | rfl <;> rfl
    have HNW := Lib.hid hnw
    have HCO := Lib.hid hco
    have hown4 := Lib.hid ((HT3.out.own.alloc (.cells (tkC ⟨⟨4, [], [], t⟩, .slice none 0 0, pos s l, 0, 0⟩).toArray 157)).drew)
    have hbl : Hid ((L.length + 1) * 88 ≤ 140737488355328) := by show _ ≤ _; omega
    have hbs : Hid (b + 1 ≤ ((W3.alloc (.cells (tkC ⟨⟨4, [], [], t⟩, .slice none 0 0, pos s l, 0, 0⟩).toArray 157)).drew).heap.size) := by show _ ≤ _; simp; omega
    have hsz4 : Hid (((W3.alloc (.cells (tkC ⟨⟨4, [], [], t⟩, .slice none 0 0, pos s l, 0, 0⟩).toArray 157)).drew).heap.size = W3.heap.size + 1) := by show _ = _; simp
    clear hnw hco
    go_region_law (first | (refine step_append_one rfl (.tmp 110) (.tmp 112) 149 rfl (b + 1) 157 Tryz.underlying149 info_token rfl (by decide) tkC_len (.slice ao L.length cap) L (by simp [Act.eval]) hown4.out W3.heap.size ⟨⟨4, [], [], t⟩, .slice none 0 0, pos s l, 0, 0⟩ (by simp [Act.eval]) HNW.out HCO.out hbl.out (by decide) hbs.out (W3.heap.size + 1) hsz4.out ?_; intro g8 cap8 w8 hown8 hgrow8 hat8 hlt8; have hb9 := Lib.hid (hbx8.out.grown hgrow8 hne8.out); have e2 := hb9.out.cell 2 _ rfl; have ef2 := hb9.out.free 2; have el2 := hb9.out.lt; have ho9 := Lib.hid hown8; have hg9 := Lib.hid hgrow8; clear hown8 hgrow8 hat8))
    all_goals
     go_end0
     rw [HP.out]
     obtain ⟨h1, h2⟩ := HT3.out.push HG3.out hlt0 (x := ⟨⟨4, [], [], t⟩, .slice none 0 0, pos s l, 0, 0⟩) HAV.out hg9.out ho9.out
     exact ⟨rfl, _, _, h1, h2⟩

end Go.Proofs.YtphaeegbmfpcgaaGreatDoor

/- The walk of the program's reader's token at an end of an element; the conditions stand in the theorem. -/

namespace Go.Proofs.YtphaeegbmfpcgaaGreatDoor
open Go Go.RowKit

set_option maxRecDepth 100000 in
set_option maxHeartbeats 8000000 in
theorem tok_close (b : Nat) (s : S) (l : Bs) (ao : Option Addr) (cap : Nat) (L : List TkM) (m : Int) (w : World) (h : Toks w b s l (.slice ao L.length cap) L) (hs : s.size ≤ 65536) (hm : w.cell? ⟨0, 0, none⟩ = some (.int .i64 m)) (hL : L.length ≤ 1000000)
    (l' : Bs) (hl : l = 60 :: 47 :: l') (hno : sNote.isPrefixOf l = false) (hno2 : sData.isPrefixOf l = false) (hh : pos s l = 0 → isHead l = false) :
    Calls Tryz.prog 121 #[.pointer (some ⟨b, 0, none⟩)] w (OutT b s (pos s l) L w (closeR l')) := by
 have hlt0 := h.rd.box.lt
 have c1 := h.rd.c1
 have H0 := Lib.hid h
 have hs2 : s.size ≤ 1000000 := by omega
 have HM := Lib.hid hm
 have hp := pos_add h.rd.suf
 have hpb : (pos s l : Int) ≤ 65536 := by omega
 have HA : Hid (∀ w, Rd w b s l (.slice ao L.length cap) → Calls Tryz.prog 153 #[.pointer (some ⟨b, 0, none⟩), .string ⟨#[60, 33, 45, 45]⟩] w (Qt (.bool false) w)) := fun w h => by
  have := has_pre b s l (.slice ao L.length cap) ⟨#[60, 33, 45, 45]⟩ w h
  rw [show (⟨#[60, 33, 45, 45]⟩ : S).data.toList.isPrefixOf l = false from hno] at this; exact this
 have HB : Hid (∀ w, Rd w b s l (.slice ao L.length cap) → Calls Tryz.prog 153 #[.pointer (some ⟨b, 0, none⟩), .string ⟨#[60, 33, 91, 67, 68, 65, 84, 65, 91]⟩] w (Qt (.bool false) w)) := fun w h => by
  have := has_pre b s l (.slice ao L.length cap) ⟨#[60, 33, 91, 67, 68, 65, 84, 65, 91]⟩ w h
  rw [show (⟨#[60, 33, 91, 67, 68, 65, 84, 65, 91]⟩ : S).data.toList.isPrefixOf l = false from hno2] at this; exact this
 have HC : Hid (∀ w, Rd w b s l (.slice ao L.length cap) → Calls Tryz.prog 153 #[.pointer (some ⟨b, 0, none⟩), .string ⟨#[60, 47]⟩] w (Qt (.bool true) w)) := fun w h => by
  have := has_pre b s l (.slice ao L.length cap) ⟨#[60, 47]⟩ w h
  rw [show (⟨#[60, 47]⟩ : S).data.toList.isPrefixOf l = true from (by rw [hl]; rfl)] at this; exact this
 have HSUF : Hid (l' <:+ s.data.toList) := by have := h.rd.suf; rw [hl] at this; exact suf_tail (suf_tail this)
 have HPOS : Hid (pos s l' = pos s l + 2) := by have h1 := pos_add HSUF.out; rw [hl] at hp ⊢; simp only [List.length_cons] at hp; show _ = _; omega
 clear hno hno2 hl h hm
 by_cases hp0 : pos s l = 0
 · have e0 : (((pos s l : Nat) : Int) == 0) = true := by rw [hp0]; rfl
   have HIH : Hid (∀ w, Rd w b s l (.slice ao L.length cap) → Calls Tryz.prog 155 #[.pointer (some ⟨b, 0, none⟩)] w (Qt (.bool false) w)) := fun w h => by
    have := isHead_any b s l (.slice ao L.length cap) w h hs2
    rw [show isHead l = false from hh hp0] at this; exact this
   clear hp0 hh
   have hR : Rd (w.alloc (.cells #[.int .i64 0, .string ⟨#[]⟩, .slice none 0 0, .string ⟨#[]⟩, .int .i64 (pos s l), .int .i64 0, .int .i64 0] 157)) b s l (.slice ao L.length cap) := H0.out.rd.below ((Below.refl _ _).alloc (Nat.le_refl _) _)
   go_enter Tryz.func121, Tryz.ntmps121
   go_wp2_with fail
   refine Calls.world ?_
   intro W hW
   have hx : Box W w.heap.size [.int .i64 0, .string ⟨#[]⟩, .slice none 0 0, .string ⟨#[]⟩, .int .i64 (pos s l), .int .i64 0, .int .i64 0] := by rw [hW]; exact Box.new w _ _ _ rfl
   have hG : w.grownBy W (some b) := by rw [hW]; exact World.grownBy_alloc _ _ _
   rw [← hW] at hR
   have hm : W.cell? ⟨0, 0, none⟩ = some (.int .i64 m) := by rw [hW, World.cell?_alloc_lt _ _ _ (by simp; omega)]; exact HM.out
   clear hW
   clear c1
   have c1 := hR.c1
   have f1 := hR.f1
   have hltW := hR.box.lt
   refine (HA.out W hR).mono ?_
   rintro e w1 ⟨rfl, n0, rfl⟩
   go_wp2_with fail
   refine (HB.out _ (hR.drewN _)).mono ?_
   rintro e w1 ⟨rfl, n1, rfl⟩
   go_wp2_with fail
   refine (HIH.out _ (hR.drewN _)).mono ?_
   rintro e w1 ⟨rfl, n2, rfl⟩
   go_wp2_with fail
   refine (HC.out _ (hR.drewN _)).mono ?_
   rintro e w1 ⟨rfl, n3, rfl⟩
   go_wp2_with fail
   refine Calls.world ?_
   intro W2 hW2
   have hRa : Rd W2 b s l' (.slice ao L.length cap) := by rw [hW2]; exact (hR.drewN _).move HSUF.out (v := .int .i64 ((pos s l : Int) + 2)) (by rw [HPOS.out]; rfl)
   have hxa : Box W2 w.heap.size [.int .i64 0, .string ⟨#[]⟩, .slice none 0 0, .string ⟨#[]⟩, .int .i64 (pos s l), .int .i64 0, .int .i64 0] := by rw [hW2]; exact (hx.drewN _).grownB (setCell_grown _ b 1 _) (by omega)
   have hGa : w.grownBy W2 (some b) := by rw [hW2]; exact (hG.trans (grownN _ _ _)).trans (setCell_grown _ b 1 _)
   clear hW2 hx hG hR hm c1 f1 hltW
   have hcall := rname_any b s 11 l' (.slice ao L.length cap) W2 hRa hs2
   cases hcl : nameR 11 l' with
   | bad x r =>
    rw [hcl] at hcall
    have HP := Lib.hid hcl
    clear hcl
    have HCL := Lib.hid hcall
    clear hcall hRa hxa
    go_wp2_with fail
    refine HCL.out.mono ?_
    intro e w2 hO
    obtain ⟨rfl, hg⟩ : Bad x s r b _ e w2 := hO
    go_wp2
    rw [show closeR l' = .bad x r by unfold closeR; rw [HP.out]; rfl]
    exact ⟨rfl, rfl, below_grown (hGa.trans hg) (by omega)⟩
   | ok nm r1 =>
    rw [hcl] at hcall
    have HP := Lib.hid hcl
    clear hcl
    have HCL := Lib.hid hcall
    clear hcall
    go_wp2_with fail
    refine HCL.out.mono ?_
    intro e w2 hO
    obtain ⟨rfl, hR2, hg⟩ : Goes (.string (bs nm)) b s r1 (.slice ao L.length cap) _ e w2 := hO
    have hx2 := hxa.grownB hg (by omega)
    have hG2 := hGa.trans hg
    have q0 := hx2.cell 0 _ rfl
    have q1 := hx2.cell 1 _ rfl
    have qf0 := hx2.free 0
    have qf1 := hx2.free 1
    have qlt := hx2.lt
    clear hxa hGa hg hRa HCL
    go_wp2_with fail
    refine Calls.world ?_
    intro W4 hW4
    have hx4 : Box W4 w.heap.size [.int .i64 3, .string (bs nm), .slice none 0 0, .string ⟨#[]⟩, .int .i64 (pos s l), .int .i64 0, .int .i64 0] := by rw [hW4]; exact (hx2.set 0 _).set 1 _
    have hR4 : Rd W4 b s r1 (.slice ao L.length cap) := by rw [hW4]; exact (hR2.setOther (by omega) _ _).setOther (by omega) _ _
    have hG4 : w.grownBy W4 (some b) := by rw [hW4]; exact grown_set (grown_set hG2 (Nat.le_refl _) _ _) (Nat.le_refl _) _ _
    clear hW4 hx2 hG2 hR2 q0 q1 qf0 qf1 qlt
    refine (blanks_any b s r1 (.slice ao L.length cap) W4 hR4 hs2).mono ?_
    intro e w5 hO
    obtain ⟨rfl, hR5, hg5⟩ := hO
    have hx5 := hx4.grownB hg5 (by omega)
    have hG5 := hG4.trans hg5
    clear hx4 hG4 hR4 hg5
    have hcall := want_any b s 62 (blanks r1) (.slice ao L.length cap) w5 hR5 hs2
    cases hcl : wantC 62 (blanks r1) with
    | bad x r =>
     rw [hcl] at hcall
     have HP2 := Lib.hid hcl
     clear hcl
     have HCL := Lib.hid hcall
     clear hcall hR5 hx5
     go_wp2_with fail
     refine HCL.out.mono ?_
     intro e w2 hO
     obtain ⟨rfl, hg⟩ : Bad x s r b _ e w2 := hO
     go_wp2
     rw [show closeR l' = .bad x r by unfold closeR; rw [HP.out]; simp only [Res.bind]; rw [HP2.out]; rfl]
     exact ⟨rfl, rfl, below_grown (hG5.trans hg) (by omega)⟩
    | ok u r =>
     rw [hcl] at hcall
     have HP2 := Lib.hid hcl
     clear hcl
     have HCL := Lib.hid hcall
     clear hcall
     go_wp2_with fail
     refine HCL.out.mono ?_
     intro e W3 hO
     obtain ⟨rfl, hR3, hg⟩ : Goes (.tuple #[]) b s r (.slice ao L.length cap) _ e W3 := hO
     have hx3 := hx5.grownB hg (by omega)
     have hG3 := hG5.trans hg
     have HAV : Hid (Owns (b + 1) 176 2 atC W3 (.slice none 0 0) ([] : List At2)) := Owns.nil
     clear hx5 hG5 hg hR5 HCL
     go_wp2
     have c2 := hR3.c2
     have f2 := hR3.box.free 2
     have hlt3 := hR3.box.lt
     obtain ⟨t0, t1, t2, t3, t4, t5, t6⟩ := bxc7 hx3
     have tlt := hx3.lt
     have HT3 := Lib.hid (H0.out.kept hG3 hR3)
     have HR3 := Lib.hid hR3
     have HG3 := Lib.hid hG3
     clear hx3 hR3 hG3
     have hne8 : Hid (some b ≠ (Value.slice ao L.length cap).ownBlock) := fun e => by have := (HT3.out.own.lt b e.symm).1; omega
     have hbx8 : Hid (Box ((W3.alloc (.cells (tkC ⟨⟨3, nm, [], []⟩, .slice none 0 0, pos s l, 0, 0⟩).toArray 157)).drew) b [.string s, .int .i64 (pos s r : Nat), .slice ao L.length cap]) := (HR3.out.box.alloc _).drew
     have hnw : ∀ j u, (tkC ⟨⟨3, nm, [], []⟩, .slice none 0 0, pos s l, 0, 0⟩)[j]? = some u → ((W3.alloc (.cells (tkC ⟨⟨3, nm, [], []⟩, .slice none 0 0, pos s l, 0, 0⟩).toArray 157)).drew).cell? ⟨W3.heap.size, j, none⟩ = some u := fun j u hu => (Box.new W3 (tkC ⟨⟨3, nm, [], []⟩, .slice none 0 0, pos s l, 0, 0⟩) 157 _ rfl).cell j u hu
     have hco : ∀ u ∈ tkC ⟨⟨3, nm, [], []⟩, .slice none 0 0, pos s l, 0, 0⟩, u.oneCell' = true := by intro u hu; simp [tkC] at hu; rcases hu with rfl | rfl | rfl | rfl | rfl | rfl | rfl <;> rfl
     have HNW := Lib.hid hnw
     have HCO := Lib.hid hco
     have hown4 := Lib.hid ((HT3.out.own.alloc (.cells (tkC ⟨⟨3, nm, [], []⟩, .slice none 0 0, pos s l, 0, 0⟩).toArray 157)).drew)
     have hbl : Hid ((L.length + 1) * 88 ≤ 140737488355328) := by show _ ≤ _; omega
     have hbs : Hid (b + 1 ≤ ((W3.alloc (.cells (tkC ⟨⟨3, nm, [], []⟩, .slice none 0 0, pos s l, 0, 0⟩).toArray 157)).drew).heap.size) := by show _ ≤ _; simp; omega
     have hsz4 : Hid (((W3.alloc (.cells (tkC ⟨⟨3, nm, [], []⟩, .slice none 0 0, pos s l, 0, 0⟩).toArray 157)).drew).heap.size = W3.heap.size + 1) := by show _ = _; simp
     clear hnw hco
     go_region_law (first | (refine step_append_one rfl (.tmp 110) (.tmp 112) 149 rfl (b + 1) 157 Tryz.underlying149 info_token rfl (by decide) tkC_len (.slice ao L.length cap) L (by simp [Act.eval]) hown4.out W3.heap.size ⟨⟨3, nm, [], []⟩, .slice none 0 0, pos s l, 0, 0⟩ (by simp [Act.eval]) HNW.out HCO.out hbl.out (by decide) hbs.out (W3.heap.size + 1) hsz4.out ?_; intro g8 cap8 w8 hown8 hgrow8 hat8 hlt8; have hb9 := Lib.hid (hbx8.out.grown hgrow8 hne8.out); have e2 := hb9.out.cell 2 _ rfl; have ef2 := hb9.out.free 2; have el2 := hb9.out.lt; have ho9 := Lib.hid hown8; have hg9 := Lib.hid hgrow8; clear hown8 hgrow8 hat8))
     all_goals
      go_end0
      rw [show closeR l' = .ok ⟨3, nm, [], []⟩ r by unfold closeR; rw [HP.out]; simp only [Res.bind]; rw [HP2.out]; rfl]
      obtain ⟨h1, h2⟩ := HT3.out.push HG3.out hlt0 (x := ⟨⟨3, nm, [], []⟩, .slice none 0 0, pos s l, 0, 0⟩) HAV.out hg9.out ho9.out
      exact ⟨rfl, _, _, h1, h2⟩
 · have e0 : (((pos s l : Nat) : Int) == 0) = false := beq_eq_false_iff_ne.2 (by omega)
   clear hp0 hh
   have hR : Rd (w.alloc (.cells #[.int .i64 0, .string ⟨#[]⟩, .slice none 0 0, .string ⟨#[]⟩, .int .i64 (pos s l), .int .i64 0, .int .i64 0] 157)) b s l (.slice ao L.length cap) := H0.out.rd.below ((Below.refl _ _).alloc (Nat.le_refl _) _)
   go_enter Tryz.func121, Tryz.ntmps121
   go_wp2_with fail
   refine Calls.world ?_
   intro W hW
   have hx : Box W w.heap.size [.int .i64 0, .string ⟨#[]⟩, .slice none 0 0, .string ⟨#[]⟩, .int .i64 (pos s l), .int .i64 0, .int .i64 0] := by rw [hW]; exact Box.new w _ _ _ rfl
   have hG : w.grownBy W (some b) := by rw [hW]; exact World.grownBy_alloc _ _ _
   rw [← hW] at hR
   have hm : W.cell? ⟨0, 0, none⟩ = some (.int .i64 m) := by rw [hW, World.cell?_alloc_lt _ _ _ (by simp; omega)]; exact HM.out
   clear hW
   clear c1
   have c1 := hR.c1
   have f1 := hR.f1
   have hltW := hR.box.lt
   refine (HA.out W hR).mono ?_
   rintro e w1 ⟨rfl, n0, rfl⟩
   go_wp2_with fail
   refine (HB.out _ (hR.drewN _)).mono ?_
   rintro e w1 ⟨rfl, n1, rfl⟩
   go_wp2_with fail
   refine (HC.out _ (hR.drewN _)).mono ?_
   rintro e w1 ⟨rfl, n2, rfl⟩
   go_wp2_with fail
   refine Calls.world ?_
   intro W2 hW2
   have hRa : Rd W2 b s l' (.slice ao L.length cap) := by rw [hW2]; exact (hR.drewN _).move HSUF.out (v := .int .i64 ((pos s l : Int) + 2)) (by rw [HPOS.out]; rfl)
   have hxa : Box W2 w.heap.size [.int .i64 0, .string ⟨#[]⟩, .slice none 0 0, .string ⟨#[]⟩, .int .i64 (pos s l), .int .i64 0, .int .i64 0] := by rw [hW2]; exact (hx.drewN _).grownB (setCell_grown _ b 1 _) (by omega)
   have hGa : w.grownBy W2 (some b) := by rw [hW2]; exact (hG.trans (grownN _ _ _)).trans (setCell_grown _ b 1 _)
   clear hW2 hx hG hR hm c1 f1 hltW
   have hcall := rname_any b s 11 l' (.slice ao L.length cap) W2 hRa hs2
   cases hcl : nameR 11 l' with
   | bad x r =>
    rw [hcl] at hcall
    have HP := Lib.hid hcl
    clear hcl
    have HCL := Lib.hid hcall
    clear hcall hRa hxa
    go_wp2_with fail
    refine HCL.out.mono ?_
    intro e w2 hO
    obtain ⟨rfl, hg⟩ : Bad x s r b _ e w2 := hO
    go_wp2
    rw [show closeR l' = .bad x r by unfold closeR; rw [HP.out]; rfl]
    exact ⟨rfl, rfl, below_grown (hGa.trans hg) (by omega)⟩
   | ok nm r1 =>
    rw [hcl] at hcall
    have HP := Lib.hid hcl
    clear hcl
    have HCL := Lib.hid hcall
    clear hcall
    go_wp2_with fail
    refine HCL.out.mono ?_
    intro e w2 hO
    obtain ⟨rfl, hR2, hg⟩ : Goes (.string (bs nm)) b s r1 (.slice ao L.length cap) _ e w2 := hO
    have hx2 := hxa.grownB hg (by omega)
    have hG2 := hGa.trans hg
    have q0 := hx2.cell 0 _ rfl
    have q1 := hx2.cell 1 _ rfl
    have qf0 := hx2.free 0
    have qf1 := hx2.free 1
    have qlt := hx2.lt
    clear hxa hGa hg hRa HCL
    go_wp2_with fail
    refine Calls.world ?_
    intro W4 hW4
    have hx4 : Box W4 w.heap.size [.int .i64 3, .string (bs nm), .slice none 0 0, .string ⟨#[]⟩, .int .i64 (pos s l), .int .i64 0, .int .i64 0] := by rw [hW4]; exact (hx2.set 0 _).set 1 _
    have hR4 : Rd W4 b s r1 (.slice ao L.length cap) := by rw [hW4]; exact (hR2.setOther (by omega) _ _).setOther (by omega) _ _
    have hG4 : w.grownBy W4 (some b) := by rw [hW4]; exact grown_set (grown_set hG2 (Nat.le_refl _) _ _) (Nat.le_refl _) _ _
    clear hW4 hx2 hG2 hR2 q0 q1 qf0 qf1 qlt
    refine (blanks_any b s r1 (.slice ao L.length cap) W4 hR4 hs2).mono ?_
    intro e w5 hO
    obtain ⟨rfl, hR5, hg5⟩ := hO
    have hx5 := hx4.grownB hg5 (by omega)
    have hG5 := hG4.trans hg5
    clear hx4 hG4 hR4 hg5
    have hcall := want_any b s 62 (blanks r1) (.slice ao L.length cap) w5 hR5 hs2
    cases hcl : wantC 62 (blanks r1) with
    | bad x r =>
     rw [hcl] at hcall
     have HP2 := Lib.hid hcl
     clear hcl
     have HCL := Lib.hid hcall
     clear hcall hR5 hx5
     go_wp2_with fail
     refine HCL.out.mono ?_
     intro e w2 hO
     obtain ⟨rfl, hg⟩ : Bad x s r b _ e w2 := hO
     go_wp2
     rw [show closeR l' = .bad x r by unfold closeR; rw [HP.out]; simp only [Res.bind]; rw [HP2.out]; rfl]
     exact ⟨rfl, rfl, below_grown (hG5.trans hg) (by omega)⟩
    | ok u r =>
     rw [hcl] at hcall
     have HP2 := Lib.hid hcl
     clear hcl
     have HCL := Lib.hid hcall
     clear hcall
     go_wp2_with fail
     refine HCL.out.mono ?_
     intro e W3 hO
     obtain ⟨rfl, hR3, hg⟩ : Goes (.tuple #[]) b s r (.slice ao L.length cap) _ e W3 := hO
     have hx3 := hx5.grownB hg (by omega)
     have hG3 := hG5.trans hg
     have HAV : Hid (Owns (b + 1) 176 2 atC W3 (.slice none 0 0) ([] : List At2)) := Owns.nil
     clear hx5 hG5 hg hR5 HCL
     go_wp2
     have c2 := hR3.c2
     have f2 := hR3.box.free 2
     have hlt3 := hR3.box.lt
     obtain ⟨t0, t1, t2, t3, t4, t5, t6⟩ := bxc7 hx3
     have tlt := hx3.lt
     have HT3 := Lib.hid (H0.out.kept hG3 hR3)
     have HR3 := Lib.hid hR3
     have HG3 := Lib.hid hG3
     clear hx3 hR3 hG3
     have hne8 : Hid (some b ≠ (Value.slice ao L.length cap).ownBlock) := fun e => by have := (HT3.out.own.lt b e.symm).1; omega
     have hbx8 : Hid (Box ((W3.alloc (.cells (tkC ⟨⟨3, nm, [], []⟩, .slice none 0 0, pos s l, 0, 0⟩).toArray 157)).drew) b [.string s, .int .i64 (pos s r : Nat), .slice ao L.length cap]) := (HR3.out.box.alloc _).drew
     have hnw : ∀ j u, (tkC ⟨⟨3, nm, [], []⟩, .slice none 0 0, pos s l, 0, 0⟩)[j]? = some u → ((W3.alloc (.cells (tkC ⟨⟨3, nm, [], []⟩, .slice none 0 0, pos s l, 0, 0⟩).toArray 157)).drew).cell? ⟨W3.heap.size, j, none⟩ = some u := fun j u hu => (Box.new W3 (tkC ⟨⟨3, nm, [], []⟩, .slice none 0 0, pos s l, 0, 0⟩) 157 _ rfl).cell j u hu
     have hco : ∀ u ∈ tkC ⟨⟨3, nm, [], []⟩, .slice none 0 0, pos s l, 0, 0⟩, u.oneCell' = true := by intro u hu; simp [tkC] at hu; rcases hu with rfl | rfl | rfl | rfl | rfl | rfl | rfl <;> rfl
     have HNW := Lib.hid hnw
     have HCO := Lib.hid hco
     have hown4 := Lib.hid ((HT3.out.own.alloc (.cells (tkC ⟨⟨3, nm, [], []⟩, .slice none 0 0, pos s l, 0, 0⟩).toArray 157)).drew)
     have hbl : Hid ((L.length + 1) * 88 ≤ 140737488355328) := by show _ ≤ _; omega
     have hbs : Hid (b + 1 ≤ ((W3.alloc (.cells (tkC ⟨⟨3, nm, [], []⟩, .slice none 0 0, pos s l, 0, 0⟩).toArray 157)).drew).heap.size) := by show _ ≤ _; simp; omega
     have hsz4 : Hid (((W3.alloc (.cells (tkC ⟨⟨3, nm, [], []⟩, .slice none 0 0, pos s l, 0, 0⟩).toArray 157)).drew).heap.size = W3.heap.size + 1) := by show _ = _; simp
     clear hnw hco
     go_region_law (first | (refine step_append_one rfl (.tmp 110) (.tmp 112) 149 rfl (b + 1) 157 Tryz.underlying149 info_token rfl (by decide) tkC_len (.slice ao L.length cap) L (by simp [Act.eval]) hown4.out W3.heap.size ⟨⟨3, nm, [], []⟩, .slice none 0 0, pos s l, 0, 0⟩ (by simp [Act.eval]) HNW.out HCO.out hbl.out (by decide) hbs.out (W3.heap.size + 1) hsz4.out ?_; intro g8 cap8 w8 hown8 hgrow8 hat8 hlt8; have hb9 := Lib.hid (hbx8.out.grown hgrow8 hne8.out); have e2 := hb9.out.cell 2 _ rfl; have ef2 := hb9.out.free 2; have el2 := hb9.out.lt; have ho9 := Lib.hid hown8; have hg9 := Lib.hid hgrow8; clear hown8 hgrow8 hat8))
     all_goals
      go_end0
      rw [show closeR l' = .ok ⟨3, nm, [], []⟩ r by unfold closeR; rw [HP.out]; simp only [Res.bind]; rw [HP2.out]; rfl]
      obtain ⟨h1, h2⟩ := HT3.out.push HG3.out hlt0 (x := ⟨⟨3, nm, [], []⟩, .slice none 0 0, pos s l, 0, 0⟩) HAV.out hg9.out ho9.out
      exact ⟨rfl, _, _, h1, h2⟩

end Go.Proofs.YtphaeegbmfpcgaaGreatDoor
