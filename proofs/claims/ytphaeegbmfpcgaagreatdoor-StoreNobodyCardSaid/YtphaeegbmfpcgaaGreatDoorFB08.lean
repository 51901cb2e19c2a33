/- The walk of the builder's token; its conditions stand in the theorem. -/
import Derived.Test.YtphaeegbmfpcgaaGreatDoorFB07
import Derived.Test.YtphaeegbmfpcgaaGreatDoorFB02
import Derived.Test.YtphaeegbmfpcgaaGreatDoorFB01
import Derived.Test.YtphaeegbmfpcgaaGreatDoorFB04
import Derived.Test.YtphaeegbmfpcgaaGreatDoorFB03
import Derived.Laws.IdiomStrings
import Derived.Test.YtphaeegbmfpcgaaGreatDoorFB06
import Derived.Deep.RegionHeld3

namespace Go.Proofs.YtphaeegbmfpcgaaGreatDoor
open Go Go.RowKit

variable {lo : Nat}
theorem bs_beq2 (a b : Bs) : ((bs a : S).toList == (bs b : S).toList) = decide (a = b) := by
 rw [ByteArray.toList_eq, ByteArray.toList_eq, bs_data, bs_data, Bool.eq_iff_iff, beq_iff_eq, decide_eq_true_iff]
theorem begin_any (w : World) (B n : Nat) (st : BSt) (X : Nat → Prop) (ov : Value) (ps : List (Nat × Nat)) (h : BOf lo w B st n X ov ps) (t : Tk) (av : Value) (p q r : Int) (hat : AttB lo B w av t.attrs) (hn : n ≤ 1000000) :
    Calls Tryz.prog 124 #[.pointer (some ⟨B, 0, none⟩), tokV t av p q r] w (BeginOut lo X w B (n + 1) (beginB st t)) := by
 cases hr : st.root.isSome with
 | true => exact begin_done w B n st X ov ps h t av p q r hr
 | false =>
  by_cases hd : 64 ≤ st.stack.length
  · exact begin_deep w B n st X ov ps h t av p q r hr hd
  · by_cases hc : 4096 < st.count + 1
    · exact begin_full w B n st X ov ps h t av p q r hr hd hc hn
    · obtain ⟨stack, r0, c, tx⟩ := st
      cases stack with
      | nil => exact begin_root w B n r0 c tx X ov ps h t av p q r hat hr hc
      | cons f fs => exact begin_in w B n f fs r0 c tx X ov ps h t av p q r hat hr hd hc hn
theorem StepOut.back {w W : World} {B n : Nat} {R : StR} {e : Ending} {w' : World} (hg : w.grownBy W (some B)) (hb : Below B w W) (h : StepOut lo W B n R e w') : StepOut lo w B n R e w' := by
 cases R with
 | ok st => exact ⟨h.1, h.2.1, hb.trans h.2.2⟩
 | bad x => exact ⟨h.1, hg.trans h.2.1, hb.trans h.2.2⟩
theorem BOf.close {w w' : World} {B n : Nat} {f : Fr} {fs : List Fr} {r : Option Tr} {c : Nat} {tx : Bool} {X X' : Nat → Prop} {ov ov' : Value} {ps ps' : List (Nat × Nat)} (h : BOf lo w B ⟨f :: fs, r, c, tx⟩ n X ov ps)
    (hc : Core 110 211 lo w' B (closeB f fs none 0).stack (closeB f fs none 0).root X' ov' ps' (.int .i64 c) (.bool (closeB f fs none 0).root.isSome) (.bool false)) : BOf lo w' B (closeB f fs r c) (n + 1) X' ov' ps' := by
 obtain ⟨b, o, L, av, ao, cap, qs, rfl, -⟩ := h.core.data
 have hcn : c ≤ n := h.cn
 have hsn := h.sn
 simp only [List.length_cons] at hsn
 cases fs with
 | nil => exact ⟨hc, by simp [closeB], by simp [closeB], by simp only [closeB]; omega, by simp [closeB]⟩
 | cons g fs =>
  refine ⟨hc, by simp [closeB], fun f' hf' => ?_, by simp only [closeB]; omega, ?_⟩
  · simp only [closeB] at hf'
    rcases List.mem_cons.1 hf' with rfl | hf'
    · have := h.kd g (by simp)
      simp [Fr.add]; omega
    · have := h.kd f' (by simp [hf']); omega
  · simp only [closeB, List.length_cons] at hsn ⊢; omega
theorem closing {w : World} {B n : Nat} {f : Fr} {fs : List Fr} {r : Option Tr} {c : Nat} {tx : Bool} {X : Nat → Prop} {ov : Value} {ps : List (Nat × Nat)} (h : BOf lo w B ⟨f :: fs, r, c, tx⟩ n X ov ps) :
    Calls Tryz.prog 125 #[.pointer (some ⟨B, 0, none⟩)] w fun e w' => e = .returned (.tuple #[]) ∧ (∃ X' ov' ps', BOf lo w' B (closeB f fs r c) (n + 1) X' ov' ps') ∧ Below B w w' := by
 have hc := h.core
 obtain ⟨b, o, L, av, ao, cap, qs, hr, -⟩ := h.core.data
 simp only at hr
 subst hr
 refine (end_any hc).mono ?_
 rintro e w' ⟨rfl, X', ov', ps', h1, h2⟩
 exact ⟨rfl, ⟨X', ov', ps', h.close h1⟩, h2⟩
theorem beginB_bad {st : BSt} {t : Tk} {x : Int} (h : beginB st t = .bad x) : x = 16 ∨ x = 2 := by
 unfold beginB at h
 split at h
 · cases h; exact .inl rfl
 · split at h
   · cases h; exact .inr rfl
   · split at h
     · cases h; exact .inr rfl
     · cases h
theorem beginB_ok {st st' : BSt} {t : Tk} (h : beginB st t = .ok st') : st' = ⟨⟨t.name, t.attrs, []⟩ :: st.stack, st.root, st.count + 1, false⟩ := by
 unfold beginB at h
 split at h
 · cases h
 · split at h
   · cases h
   · split at h
     · cases h
     · cases h; rfl
set_option maxRecDepth 100000 in
set_option maxHeartbeats 8000000 in
theorem token_text (w : World) (B n : Nat) (st : BSt) (X : Nat → Prop) (ov : Value) (ps : List (Nat × Nat)) (h : BOf lo w B st n X ov ps) (nm : Bs) (ats : List At2) (tx : Bs) (av : Value) (p q r : Int) (hat : AttB lo B w av ats) (hs : tx.length ≤ 2000000) (hn : n ≤ 1000000) :
    Calls Tryz.prog 81 #[.pointer (some ⟨B, 0, none⟩), tokV ⟨4, nm, ats, tx⟩ av p q r] w (StepOut lo w B (n + 1) (stepB st ⟨4, nm, ats, tx⟩)) := by
 have hl : stepB st ⟨4, nm, ats, tx⟩ = lettersB st tx := by unfold stepB; rw [if_pos rfl]
 rw [hl]
 have hlt := h.core.lt
 obtain ⟨ao3, cap3, rfl⟩ := hat.shape
 have HL := Lib.hid fun o => lettersB_any (w.alloc o) B n st X ov ps tx (h.below ((Below.refl _ w).alloc (Nat.le_refl _) o)) hs hn
 clear h hat hl
 unfold tokV
 go_enter Tryz.func81, Tryz.ntmps81
 go_wp2_with fail
 refine (HL.out _).mono ?_
 intro e w1 hO
 replace hO := StepOut.back (World.grownBy_alloc _ _ _) ((Below.refl B w).alloc (Nat.le_of_lt hlt) _) hO
 have HO := Lib.hid hO
 cases hR : lettersB st tx with
 | ok st' =>
  rw [hR] at hO HO
  obtain ⟨rfl, -⟩ := hO
  go_wp2
  go_ret
  rw [hR]
  exact HO.out
 | bad x =>
  rw [hR] at hO HO
  obtain ⟨rfl, -⟩ := hO
  go_wp2
  go_ret
  rw [hR]
  exact HO.out
set_option maxRecDepth 100000 in
set_option maxHeartbeats 8000000 in
theorem token_other (w : World) (B n : Nat) (st : BSt) (X : Nat → Prop) (ov : Value) (ps : List (Nat × Nat)) (h : BOf lo w B st n X ov ps) (k : Int) (hk : k = 5 ∨ k = 6) (nm : Bs) (ats : List At2) (tx : Bs) (av : Value) (p q r : Int) (hat : AttB lo B w av ats) :
    Calls Tryz.prog 81 #[.pointer (some ⟨B, 0, none⟩), tokV ⟨k, nm, ats, tx⟩ av p q r] w (StepOut lo w B (n + 1) (stepB st ⟨k, nm, ats, tx⟩)) := by
 have hl : stepB st ⟨k, nm, ats, tx⟩ = .ok st := by
  unfold stepB
  rcases hk with rfl | rfl <;> rfl
 rw [hl]
 have hlt := h.core.lt
 obtain ⟨ao3, cap3, rfl⟩ := hat.shape
 have HL := Lib.hid fun o => (h.below ((Below.refl _ w).alloc (Nat.le_refl _) o)).mono (Nat.le_succ n)
 clear h hat hl
 unfold tokV
 rcases hk with rfl | rfl
 all_goals
  go_enter Tryz.func81, Tryz.ntmps81
  go_wp2
  go_ret
  exact ⟨rfl, ⟨X, ov, ps, HL.out _⟩, (Below.refl B w).alloc (Nat.le_of_lt hlt) _⟩
set_option maxRecDepth 100000 in
set_option maxHeartbeats 8000000 in
theorem token_open (w : World) (B n : Nat) (st : BSt) (X : Nat → Prop) (ov : Value) (ps : List (Nat × Nat)) (h : BOf lo w B st n X ov ps) (nm : Bs) (ats : List At2) (tx : Bs) (av : Value) (p q r : Int) (hat : AttB lo B w av ats) (hn : n ≤ 1000000) :
    Calls Tryz.prog 81 #[.pointer (some ⟨B, 0, none⟩), tokV ⟨1, nm, ats, tx⟩ av p q r] w (StepOut lo w B (n + 1) (stepB st ⟨1, nm, ats, tx⟩)) := by
 have hl : stepB st ⟨1, nm, ats, tx⟩ = beginB st ⟨1, nm, ats, tx⟩ := by
  unfold stepB
  rw [if_neg (by show ¬ (1 : Int) = 4; decide)]
  exact if_pos rfl
 rw [hl]
 have hlt := h.core.lt
 have hnx : ¬ X w.heap.size := fun e => by have := h.core.xsize _ e; omega
 obtain ⟨ao3, cap3, rfl⟩ := hat.shape
 have HL := Lib.hid fun o => begin_any (w.alloc o) B n st X ov ps (h.below ((Below.refl _ w).alloc (Nat.le_refl _) o)) ⟨1, nm, ats, tx⟩ (.slice ao3 ats.length cap3) p q r (hat.below ((Below.refl B w).alloc (Nat.le_of_lt hlt) o)) hn
 have hbad : ∀ x, beginB st ⟨1, nm, ats, tx⟩ = .bad x → (x == 0) = false := fun x hx => by rcases beginB_bad hx with rfl | rfl <;> rfl
 have HNX := Lib.hid hnx
 clear h hat hl hnx
 unfold tokV at HL ⊢
 go_enter Tryz.func81, Tryz.ntmps81
 go_wp2_with fail
 refine (HL.out _).mono ?_
 intro e w1 hO
 have x0 := Box.new w [.int .i64 1, .string (bs nm), .slice ao3 ats.length cap3, .string (bs tx), .int .i64 p, .int .i64 q, .int .i64 r] 157 _ rfl
 have HX := Lib.hid x0
 have HB0 : Hid (Below B w (w.alloc (.cells #[.int .i64 1, .string (bs nm), .slice ao3 ats.length cap3, .string (bs tx), .int .i64 p, .int .i64 q, .int .i64 r] 157))) := (Below.refl B w).alloc (Nat.le_of_lt hlt) _
 clear x0
 cases hR : beginB st ⟨1, nm, ats, tx⟩ with
 | ok st' =>
  rw [hR] at hO
  obtain ⟨⟨rfl, ⟨X', ov', ps', hB'⟩, hb⟩, hk⟩ := hO
  have k0 := (hk.cell w.heap.size 0 HX.out.lt HNX.out).trans (HX.out.cell 0 _ rfl)
  have kl := Nat.lt_of_lt_of_le HX.out.lt hk.size
  have HBB := Lib.hid (HB0.out.trans hb)
  have HBO := Lib.hid hB'
  clear hb hk hB'
  go_wp2
  go_ret
  rw [hR]
  exact ⟨rfl, ⟨X', ov', ps', HBO.out⟩, HBB.out⟩
 | bad x =>
  have hx := hbad x hR
  rw [hR] at hO
  obtain ⟨rfl, hg, hb⟩ := hO
  go_wp2
  go_ret
  rw [hR]
  exact ⟨rfl, (World.grownBy_alloc _ _ _).trans hg, HB0.out.trans hb⟩
set_option maxRecDepth 100000 in
set_option maxHeartbeats 8000000 in
theorem token_empty (w : World) (B n : Nat) (st : BSt) (X : Nat → Prop) (ov : Value) (ps : List (Nat × Nat)) (h : BOf lo w B st n X ov ps) (nm : Bs) (ats : List At2) (tx : Bs) (av : Value) (p q r : Int) (hat : AttB lo B w av ats) (hn : n ≤ 1000000) :
    Calls Tryz.prog 81 #[.pointer (some ⟨B, 0, none⟩), tokV ⟨2, nm, ats, tx⟩ av p q r] w (StepOut lo w B (n + 2) (stepB st ⟨2, nm, ats, tx⟩)) := by
 have hl : stepB st ⟨2, nm, ats, tx⟩ = (beginB st ⟨2, nm, ats, tx⟩).close := by
  unfold stepB
  rw [if_neg (by show ¬ (2 : Int) = 4; decide), if_neg (by show ¬ (2 : Int) = 1; decide)]
  exact if_pos rfl
 rw [hl]
 have hlt := h.core.lt
 have hnx : ¬ X w.heap.size := fun e => by have := h.core.xsize _ e; omega
 obtain ⟨ao3, cap3, rfl⟩ := hat.shape
 have HL := Lib.hid fun o => begin_any (w.alloc o) B n st X ov ps (h.below ((Below.refl _ w).alloc (Nat.le_refl _) o)) ⟨2, nm, ats, tx⟩ (.slice ao3 ats.length cap3) p q r (hat.below ((Below.refl B w).alloc (Nat.le_of_lt hlt) o)) hn
 have hbad : ∀ x, beginB st ⟨2, nm, ats, tx⟩ = .bad x → (x == 0) = false := fun x hx => by rcases beginB_bad hx with rfl | rfl <;> rfl
 have HNX := Lib.hid hnx
 clear h hat hl hnx
 unfold tokV at HL ⊢
 go_enter Tryz.func81, Tryz.ntmps81
 go_wp2_with fail
 refine (HL.out _).mono ?_
 intro e w1 hO
 have x0 := Box.new w [.int .i64 2, .string (bs nm), .slice ao3 ats.length cap3, .string (bs tx), .int .i64 p, .int .i64 q, .int .i64 r] 157 _ rfl
 have HX := Lib.hid x0
 have HB0 : Hid (Below B w (w.alloc (.cells #[.int .i64 2, .string (bs nm), .slice ao3 ats.length cap3, .string (bs tx), .int .i64 p, .int .i64 q, .int .i64 r] 157))) := (Below.refl B w).alloc (Nat.le_of_lt hlt) _
 clear x0
 cases hR : beginB st ⟨2, nm, ats, tx⟩ with
 | ok st' =>
  rw [hR] at hO
  obtain ⟨⟨rfl, ⟨X', ov', ps', hB'⟩, hb⟩, hk⟩ := hO
  have k0 := (hk.cell w.heap.size 0 HX.out.lt HNX.out).trans (HX.out.cell 0 _ rfl)
  have kl := Nat.lt_of_lt_of_le HX.out.lt hk.size
  have HBB := Lib.hid (HB0.out.trans hb)
  have HBO := Lib.hid hB'
  clear hb hk hB'
  have hst := beginB_ok hR
  subst hst
  have HCL := Lib.hid (closing HBO.out)
  go_wp2_with fail
  refine HCL.out.mono ?_
  rintro e w2 ⟨rfl, hB2, hb2⟩
  go_wp2
  go_ret
  rw [hR]
  exact ⟨rfl, hB2, HBB.out.trans hb2⟩
 | bad x =>
  have hx := hbad x hR
  rw [hR] at hO
  obtain ⟨rfl, hg, hb⟩ := hO
  go_wp2
  go_ret
  rw [hR]
  exact ⟨rfl, (World.grownBy_alloc _ _ _).trans hg, HB0.out.trans hb⟩
set_option maxRecDepth 100000 in
set_option maxHeartbeats 8000000 in
theorem token_close (w : World) (B n : Nat) (st : BSt) (X : Nat → Prop) (ov : Value) (ps : List (Nat × Nat)) (h : BOf lo w B st n X ov ps) (nm : Bs) (ats : List At2) (tx : Bs) (av : Value) (p q r : Int) (hat : AttB lo B w av ats) :
    Calls Tryz.prog 81 #[.pointer (some ⟨B, 0, none⟩), tokV ⟨3, nm, ats, tx⟩ av p q r] w (StepOut lo w B (n + 1) (stepB st ⟨3, nm, ats, tx⟩)) := by
 have hl : stepB st ⟨3, nm, ats, tx⟩ = endB st ⟨3, nm, ats, tx⟩ := by
  unfold stepB
  rw [if_neg (by show ¬ (3 : Int) = 4; decide), if_neg (by show ¬ (3 : Int) = 1; decide), if_neg (by show ¬ (3 : Int) = 2; decide)]
  exact if_pos rfl
 rw [hl]
 have hlt := h.core.lt
 obtain ⟨ao3, cap3, rfl⟩ := hat.shape
 have H := Lib.hid fun o => h.below ((Below.refl _ w).alloc (Nat.le_refl _) o)
 obtain ⟨stack, r0, c, tx0⟩ := st
 obtain ⟨ao, cap, hov⟩ := h.shape
 have c4 := h.core.c4
 rw [hov] at c4
 cases stack with
 | nil =>
  simp only [List.length_nil] at c4
  clear h hat hl hov
  unfold tokV
  go_enter Tryz.func81, Tryz.ntmps81
  go_wp2
  go_ret
  exact ⟨rfl, World.grownBy_alloc _ _ _, (Below.refl B w).alloc (Nat.le_of_lt hlt) _⟩
 | cons f fs =>
  simp only [List.length_cons] at c4
  have hn1 : ((fs.length + 1 : Nat) : Int) ≠ 0 := by omega
  obtain ⟨b, o, L, av0, ao0, cap0, qs, hr0, hps, -, -, hbl, -, -, n0, -⟩ := h.core.data
  simp only at hr0
  subst hr0 hps
  have hbw := h.core.lt
  clear h hat hl hov
  unfold tokV
  go_enter Tryz.func81, Tryz.ntmps81
  go_wp2
  refine wp_world ?_
  intro W hW
  have hB := H.out (.cells #[.int .i64 3, .string (bs nm), .slice ao3 ats.length cap3, .string (bs tx), .int .i64 p, .int .i64 q, .int .i64 r] 157)
  have HG0 : Hid (w.grownBy W (some B)) := by show w.grownBy W (some B); rw [hW]; exact World.grownBy_alloc _ _ _
  have HB0 : Hid (Below B w W) := by show Below B w W; rw [hW]; exact (Below.refl B w).alloc (Nat.le_of_lt hlt) _
  have x0 := Box.new w [.int .i64 3, .string (bs nm), .slice ao3 ats.length cap3, .string (bs tx), .int .i64 p, .int .i64 q, .int .i64 r] 157 _ rfl
  have hbl2 : b < W.heap.size := by rw [hW]; simp; omega
  have n02 : W.cell? ⟨b, o, none⟩ = some (.string (bs f.name)) := by rw [hW]; exact ((Below.refl w.heap.size w).alloc (Nat.le_refl _) _ |>.cell (by exact hbl)).trans n0
  rw [← hW] at hB x0
  have k1 := x0.cell 1 _ rfl
  have kl := x0.lt
  have HT := Lib.hid fun k => top_any (hB.drewN k).core
  have HBO := Lib.hid hB
  clear hW hB x0 n0 hbl c4
  have hE : ((bs f.name : S).toList == (bs nm : S).toList) = decide (f.name = nm) := bs_beq2 _ _
  by_cases hnm : f.name = nm
  · have hl : endB ⟨f :: fs, none, c, tx0⟩ ⟨3, nm, ats, tx⟩ = .ok (closeB f fs none c) := by simp only [endB]; rw [if_pos hnm]
    have HL := Lib.hid hl
    rw [decide_eq_true hnm] at hE
    clear hnm hl
    go_quiet ((go_at_call 126; exact Qt.quiet (HT.out _)))
    have HCL := Lib.hid (closing (HBO.out.drewN nq))
    have HBN : Hid (Below B w (W.drewN nq)) := belowN HB0.out nq
    clear HT hE k1 kl hbl2 n02 HBO HB0
    generalize W.drewN nq = W2 at *
    go_wp2_with fail
    refine HCL.out.mono ?_
    rintro e w2 ⟨rfl, hB2, hb2⟩
    go_wp2
    go_ret
    rw [HL.out]
    exact ⟨rfl, hB2, HBN.out.trans hb2⟩
  · have hl : endB ⟨f :: fs, none, c, tx0⟩ ⟨3, nm, ats, tx⟩ = .bad 14 := by simp only [endB]; rw [if_neg hnm]
    have HL := Lib.hid hl
    rw [decide_eq_false hnm] at hE
    clear hnm hl
    go_quiet ((go_at_call 126; exact Qt.quiet (HT.out _)))
    have HBN : Hid (Below B w (W.drewN nq)) := belowN HB0.out nq
    have HGN : Hid (w.grownBy (W.drewN nq) (some B)) := HG0.out.trans (grownN W nq _)
    clear HT hE k1 kl hbl2 n02 HBO HB0 HG0
    generalize W.drewN nq = W2 at *
    go_wp2
    go_ret
    rw [HL.out]
    exact ⟨rfl, HGN.out, HBN.out⟩
theorem tokenB_any (w : World) (B n : Nat) (st : BSt) (X : Nat → Prop) (ov : Value) (ps : List (Nat × Nat)) (h : BOf lo w B st n X ov ps) (t : Tk) (av : Value) (p q r : Int) (hat : AttB lo B w av t.attrs) (hk : t.kind = 1 ∨ t.kind = 2 ∨ t.kind = 3 ∨ t.kind = 4 ∨ t.kind = 5 ∨ t.kind = 6) (hs : t.text.length ≤ 2000000) (hn : n ≤ 1000000) :
    Calls Tryz.prog 81 #[.pointer (some ⟨B, 0, none⟩), tokV t av p q r] w (StepOut lo w B (n + 2) (stepB st t)) := by
 have up : ∀ {R : StR} {e : Ending} {w' : World}, StepOut lo w B (n + 1) R e w' → StepOut lo w B (n + 2) R e w' := by
  intro R e w' h
  cases R with
  | ok st' => obtain ⟨h1, ⟨X', ov', ps', h2⟩, h3⟩ := h; exact ⟨h1, ⟨X', ov', ps', h2.mono (by omega)⟩, h3⟩
  | bad x => exact h
 obtain ⟨k, nm, ats, tx⟩ := t
 simp only at hk hs hat
 rcases hk with rfl | rfl | rfl | rfl | rfl | rfl
 · exact (token_open w B n st X ov ps h nm ats tx av p q r hat hn).mono fun _ _ => up
 · exact token_empty w B n st X ov ps h nm ats tx av p q r hat hn
 · exact (token_close w B n st X ov ps h nm ats tx av p q r hat).mono fun _ _ => up
 · exact (token_text w B n st X ov ps h nm ats tx av p q r hat hs hn).mono fun _ _ => up
 · exact (token_other w B n st X ov ps h 5 (.inl rfl) nm ats tx av p q r hat).mono fun _ _ => up
 · exact (token_other w B n st X ov ps h 6 (.inr rfl) nm ats tx av p q r hat).mono fun _ _ => up

end Go.Proofs.YtphaeegbmfpcgaaGreatDoor

/- Plain laws on all tokens of a text: each takes a byte or more; their places rise; no program in sight. -/

namespace Go.Proofs.YtphaeegbmfpcgaaGreatDoor
open Go Go.RowKit

theorem plain_less {til l s r : Bs} (h : plain til l = .ok s r) : r.length + til.length ≤ l.length := by
 induction l generalizing s with
 | nil =>
  simp only [plain] at h
  split at h
  · rename_i h1
    have := (List.isPrefixOf_iff_prefix.1 h1).length_le
    cases h; simpa using this
  · cases h
 | cons c l ih =>
  simp only [plain] at h
  split at h
  · rename_i h1
    have := (List.isPrefixOf_iff_prefix.1 h1).length_le
    cases h; rw [List.length_drop]; omega
  · split at h
    · cases hp : plain til l with
      | bad e r' => rw [hp] at h; cases h
      | ok s' r' => rw [hp] at h; cases h; have := ih hp; simp only [List.length_cons]; omega
    · cases h
theorem suf_of_ok {α : Type} {x : Res α} {l : Bs} {a : α} {r : Bs} (hs : x.Suf l) (h : x = .ok a r) : r <:+ l := by rw [h] at hs; exact hs
theorem letters_less {stop c : UInt8} {l s r : Bs} (h : letters stop (c :: l) = .ok s r) (hc : c ≠ stop) : r.length ≤ l.length := by
 simp only [letters, lettersGo] at h
 rw [if_neg hc] at h
 split at h
 · cases hr : refSpec (c :: l) with
   | bad e => rw [hr] at h; cases h
   | ok t n =>
    rw [hr] at h
    cases hg : lettersGo stop (n - 1) l with
    | bad e r' => simp only [hg, Res.map] at h; cases h
    | ok s' r' => simp only [hg, Res.map] at h; cases h; exact List.IsSuffix.length_le (suf_of_ok (lettersGo_suf stop (n - 1) l) hg)
 · split at h
   · cases h
   · cases hg : lettersGo stop 0 l with
     | bad e r' => simp only [hg, Res.map] at h; cases h
     | ok s' r' => simp only [hg, Res.map] at h; cases h; exact List.IsSuffix.length_le (suf_of_ok (lettersGo_suf stop 0 l) hg)
theorem map_ok {α β : Type} {x : Res α} {f : α → β} {b : β} {r : Bs} (h : x.map f = .ok b r) : ∃ a, x = .ok a r ∧ b = f a := by
 cases x with
 | ok a r' => simp only [Res.map] at h; cases h; exact ⟨a, rfl, rfl⟩
 | bad e r' => cases h
theorem bind_ok {α β : Type} {x : Res α} {f : α → Bs → Res β} {b : β} {r : Bs} (h : x.bind f = .ok b r) : ∃ a r', x = .ok a r' ∧ f a r' = .ok b r := by
 cases x with
 | ok a r' => exact ⟨a, r', rfl, h⟩
 | bad e r' => cases h
theorem closeR_less {l : Bs} {t : Tk} {r : Bs} (h : closeR l = .ok t r) : r.length ≤ l.length := List.IsSuffix.length_le (suf_of_ok (closeR_suf l) h)
theorem openR_less {l : Bs} {t : Tk} {r : Bs} (h : openR l = .ok t r) : r.length ≤ l.length := List.IsSuffix.length_le (suf_of_ok (openR_suf l) h)
theorem tokenR_less {first : Bool} {l : Bs} {t : Tk} {r : Bs} (h : tokenR first l = .ok t r) (hl : l ≠ []) : r.length < l.length := by
 have hpos : 0 < l.length := List.length_pos_iff.2 hl
 unfold tokenR at h
 split at h
 · obtain ⟨a, h1, -⟩ := map_ok h
   have := plain_less h1
   rw [List.length_drop] at this
   simp [eNote] at this; omega
 · split at h
   · obtain ⟨a, h1, -⟩ := map_ok h
     have := plain_less h1
     rw [List.length_drop] at this
     simp [eData] at this; omega
   · split at h
     · obtain ⟨a, h1, -⟩ := map_ok h
       have := plain_less h1
       rw [List.length_drop] at this
       simp [eHead] at this; omega
     · split at h
       · have := closeR_less h; simp only [List.length_cons]; omega
       · have := openR_less h; simp only [List.length_cons]; omega
       · rename_i hx hy
         obtain ⟨a, h1, -⟩ := map_ok h
         cases l with
         | nil => exact absurd rfl hl
         | cons c l =>
          have := letters_less h1 (fun e => hy l (by rw [e]))
          simp only [List.length_cons]; omega
/-- The tokens so far stand one behind the other, all ahead of what is left. -/
def Falls (T : Bs) (acc : List (Tk × Bs)) (l : Bs) : Prop := acc.Pairwise (fun a b => b.2 <:+ a.2 ∧ b.2.length < a.2.length) ∧ ∀ a ∈ acc, l <:+ a.2 ∧ l.length < a.2.length ∧ a.2 <:+ T
theorem Falls.nil (T l : Bs) : Falls T [] l := ⟨List.Pairwise.nil, by simp⟩
theorem Falls.snoc {T : Bs} {acc : List (Tk × Bs)} {l r : Bs} (h : Falls T acc l) (hl : l <:+ T) (hr : r <:+ l) (hlt : r.length < l.length) (t : Tk) : Falls T (acc ++ [(t, l)]) r := by
 refine ⟨?_, ?_⟩
 · rw [List.pairwise_append]
   refine ⟨h.1, List.pairwise_singleton _ _, fun a ha b hb => ?_⟩
   simp at hb; subst hb
   exact ⟨(h.2 a ha).1, (h.2 a ha).2.1⟩
 · intro a ha
   rcases List.mem_append.1 ha with ha | ha
   · obtain ⟨h1, h2, h3⟩ := h.2 a ha
     exact ⟨hr.trans h1, by omega, h3⟩
   · simp at ha; subst ha; exact ⟨hr, hlt, hl⟩
theorem allGo_falls {T : Bs} (f : Nat) (first : Bool) (acc : List (Tk × Bs)) (l : Bs) (hl : l <:+ T) (h : Falls T acc l) {res : List (Tk × Bs)} {r : Bs} (hr : allGo f first acc l = .ok res r) : Falls T res [] ∧ r = [] := by
 induction f generalizing first acc l with
 | zero =>
  cases l with
  | nil => simp only [allGo] at hr; cases hr; exact ⟨h, rfl⟩
  | cons c l => cases hr
 | succ f ih =>
  cases l with
  | nil => simp only [allGo] at hr; cases hr; exact ⟨h, rfl⟩
  | cons c l =>
   simp only [allGo] at hr
   cases ht : tokenR first (c :: l) with
   | bad e r' => rw [ht] at hr; cases hr
   | ok t r' =>
    rw [ht] at hr
    have hs := suf_of_ok (tokenR_suf first (c :: l)) ht
    exact ih false _ r' (hs.trans hl) (h.snoc hl hs (tokenR_less ht (by simp)) t) hr

end Go.Proofs.YtphaeegbmfpcgaaGreatDoor

/- Plain laws: what kind a token is by how it begins; where the first one stands; no program in sight. -/

namespace Go.Proofs.YtphaeegbmfpcgaaGreatDoor
open Go Go.RowKit

theorem openR_kind {l : Bs} {t : Tk} {r : Bs} (h : openR l = .ok t r) : t.kind = 1 ∨ t.kind = 2 := by
 unfold openR at h
 obtain ⟨nm, r1, -, h⟩ := bind_ok h
 obtain ⟨ats, r2, -, h⟩ := bind_ok h
 split at h
 · obtain ⟨_, -, rfl⟩ := map_ok h; exact .inr rfl
 · obtain ⟨_, -, rfl⟩ := map_ok h; exact .inl rfl
theorem closeR_kind {l : Bs} {t : Tk} {r : Bs} (h : closeR l = .ok t r) : t.kind = 3 := by
 unfold closeR at h
 obtain ⟨nm, r1, -, h⟩ := bind_ok h
 obtain ⟨_, -, rfl⟩ := map_ok h; rfl
/-- Each token is one that was cut. -/
def Cuts (acc : List (Tk × Bs)) : Prop := ∀ p ∈ acc, p.2 ≠ [] ∧ ∃ first r, tokenR first p.2 = .ok p.1 r
theorem allGo_cuts (f : Nat) (first : Bool) (acc : List (Tk × Bs)) (l : Bs) (h : Cuts acc) {res : List (Tk × Bs)} {r : Bs} (hr : allGo f first acc l = .ok res r) : Cuts res ∧ (∃ more, res = acc ++ more) ∧ (l ≠ [] → ∃ t, res[acc.length]? = some (t, l)) := by
 induction f generalizing first acc l with
 | zero =>
  cases l with
  | nil => simp only [allGo] at hr; cases hr; exact ⟨h, ⟨[], by simp⟩, fun h => absurd rfl h⟩
  | cons c l => cases hr
 | succ f ih =>
  cases l with
  | nil => simp only [allGo] at hr; cases hr; exact ⟨h, ⟨[], by simp⟩, fun h => absurd rfl h⟩
  | cons c l =>
   simp only [allGo] at hr
   cases ht : tokenR first (c :: l) with
   | bad e r' => rw [ht] at hr; cases hr
   | ok t r' =>
    rw [ht] at hr
    obtain ⟨h1, ⟨more, h2⟩, -⟩ := ih false _ r' (fun p hp => by
     rcases List.mem_append.1 hp with hp | hp
     · exact h p hp
     · simp at hp; subst hp; exact ⟨by simp, first, r', ht⟩) hr
    refine ⟨h1, ⟨(t, c :: l) :: more, by rw [h2]; simp⟩, fun _ => ⟨t, by rw [h2]; simp⟩⟩
/-- What is known of the tokens of a text. -/
theorem allR_facts {T : Bs} {acc : List (Tk × Bs)} {r : Bs} (h : allR T = .ok acc r) : Falls T acc [] ∧ r = [] ∧ Cuts acc ∧ (T = [] → acc = []) ∧ (T ≠ [] → ∃ t, acc[0]? = some (t, T)) := by
 unfold allR at h
 obtain ⟨h1, h2⟩ := allGo_falls T.length true [] T (List.suffix_refl _) (Falls.nil _ _) h
 obtain ⟨h3, -, h5⟩ := allGo_cuts T.length true [] T (by intro p hp; cases hp) h
 refine ⟨h1, h2, h3, fun hT => ?_, h5⟩
 subst hT
 simp only [List.length_nil, allGo] at h
 cases h; rfl
/-- Whatever goes wrong has a number of its own. -/
def Res.NZ {α : Type} : Res α → Prop
 | .ok _ _ => True
 | .bad e _ => e ≠ 0
theorem Res.NZ.map {α β : Type} {x : Res α} (f : α → β) (h : x.NZ) : (x.map f).NZ := by cases x <;> exact h
theorem Res.NZ.bind {α β : Type} {x : Res α} {f : α → Bs → Res β} (h : x.NZ) (hf : ∀ a r, (f a r).NZ) : (x.bind f).NZ := by
 cases x with
 | ok a r => exact hf a r
 | bad e r => exact h
theorem wantC_nz (c : UInt8) (l : Bs) : (wantC c l).NZ := by
 cases l with
 | nil => show (13 : Int) ≠ 0; decide
 | cons x l => simp only [wantC]; split; trivial; show (10 : Int) ≠ 0; decide
theorem nameR_nz {e : Int} (he : e ≠ 0) (l : Bs) : (nameR e l).NZ := by
 cases l with
 | nil => show (13 : Int) ≠ 0; decide
 | cons x l => simp only [nameR]; split; exact he; trivial
theorem plain_nz (til l : Bs) : (plain til l).NZ := by
 induction l with
 | nil => simp only [plain]; split; trivial; show (13 : Int) ≠ 0; decide
 | cons c l ih =>
  simp only [plain]
  split
  · trivial
  · split
    · exact ih.map _
    · show (10 : Int) ≠ 0; decide
theorem refBad_nz {s : Bs} {e : Int} (h : refSpec s = .bad e) : e ≠ 0 := by
 have hn : ∀ hex a d, numRef hex a d = .bad e → e ≠ 0 := by
  intro hex a d h
  unfold numRef at h
  by_cases h1 : 8 < span (isDig hex) d
  · rw [if_pos h1] at h; cases h; decide
  · rw [if_neg h1] at h
    by_cases h2 : span (isDig hex) d = d.length
    · rw [if_pos h2] at h; cases h; decide
    · rw [if_neg h2] at h
      by_cases h3 : span (isDig hex) d = 0 ∨ d[span (isDig hex) d]? ≠ some 59
      · rw [if_pos h3] at h; cases h; decide
      · rw [if_neg h3] at h
        split at h
        · cases h
        · cases h; decide
 cases s with
 | nil => cases h; decide
 | cons c r =>
  simp only [refSpec] at h
  by_cases hc : c = 38
  · rw [if_neg (by simp [hc])] at h
    split at h
    · split at h
      · exact hn _ _ _ h
      · exact hn _ _ _ h
    · by_cases hl : span cLower r = r.length
      · rw [if_pos hl] at h
        split at h <;> (cases h; decide)
      · rw [if_neg hl] at h
        split at h
        · split at h
          · cases h
          · cases h; decide
        · cases h; decide
  · rw [if_pos hc] at h; cases h; decide
theorem lettersGo_nz (stop : UInt8) (k : Nat) (l : Bs) : (lettersGo stop k l).NZ := by
 induction l generalizing k with
 | nil => cases k <;> trivial
 | cons c l ih =>
  cases k with
  | succ k => exact ih k
  | zero =>
   simp only [lettersGo]
   split
   · trivial
   · split
     · cases hr : refSpec (c :: l) with
       | ok t n => exact (ih _).map _
       | bad e => exact refBad_nz hr
     · split
       · show (10 : Int) ≠ 0; decide
       · exact (ih 0).map _
theorem valueR_nz (l : Bs) : (valueR l).NZ := by
 cases l with
 | nil => show (13 : Int) ≠ 0; decide
 | cons q l =>
  simp only [valueR]
  split
  · refine Res.NZ.bind (lettersGo_nz q 0 l) fun s r => ?_
    cases r with
    | nil => show (13 : Int) ≠ 0; decide
    | cons x r => trivial
  · show (10 : Int) ≠ 0; decide
theorem attrR_nz (acc : List At2) (l : Bs) : (attrR acc l).NZ := by
 refine Res.NZ.bind (nameR_nz (by decide) l) fun nm r => ?_
 split
 · show (15 : Int) ≠ 0; decide
 · exact Res.NZ.bind (wantC_nz _ _) fun _ r' => (valueR_nz _).map _
theorem attrsGo_nz (f : Nat) (acc : List At2) (l : Bs) : (attrsGo f acc l).NZ := by
 induction f generalizing acc l with
 | zero => show (13 : Int) ≠ 0; decide
 | succ f ih =>
  simp only [attrsGo]
  split
  · trivial
  · have := attrR_nz acc (blanks l)
    cases h : attrR acc (blanks l) with
    | ok a r => exact ih _ r
    | bad e r => rw [h] at this; exact this
theorem tokenR_nz (first : Bool) (l : Bs) : (tokenR first l).NZ := by
 unfold tokenR
 split
 · exact (plain_nz _ _).map _
 · split
   · exact (plain_nz _ _).map _
   · split
     · exact (plain_nz _ _).map _
     · split
       · exact Res.NZ.bind (nameR_nz (by decide) _) fun _ r => (wantC_nz _ _).map _
       · refine Res.NZ.bind (nameR_nz (by decide) _) fun nm r => Res.NZ.bind (attrsGo_nz _ _ r) fun ats r' => ?_
         split
         · exact (wantC_nz _ _).map _
         · exact (wantC_nz _ _).map _
       · exact (lettersGo_nz _ _ _).map _
theorem allGo_nz (f : Nat) (first : Bool) (acc : List (Tk × Bs)) (l : Bs) : (allGo f first acc l).NZ := by
 induction f generalizing first acc l with
 | zero =>
  cases l with
  | nil => trivial
  | cons c l => show (13 : Int) ≠ 0; decide
 | succ f ih =>
  cases l with
  | nil => trivial
  | cons c l =>
   simp only [allGo]
   have := tokenR_nz first (c :: l)
   cases h : tokenR first (c :: l) with
   | ok t r => exact ih _ _ r
   | bad e r => rw [h] at this; exact this
theorem allR_bad_ne {T : Bs} {x : Int} {r : Bs} (h : allR T = .bad x r) : x ≠ 0 := by
 have := allGo_nz T.length true [] T
 unfold allR at h
 rw [h] at this; exact this

end Go.Proofs.YtphaeegbmfpcgaaGreatDoor

/- Plain laws: what is escaped is read as it is; tags of any names and values; CDATA; no program in sight. -/

namespace Go.Proofs.YtphaeegbmfpcgaaGreatDoor
open Go Go.RowKit

def escC (attr : Bool) (c : UInt8) : Bs :=
 if c = 38 then [38, 97, 109, 112, 59] else if c = 60 then [38, 108, 116, 59] else if c = 62 then [38, 103, 116, 59]
 else if c = 13 then [38, 35, 49, 51, 59] else if attr && c == 34 then [38, 113, 117, 111, 116, 59]
 else if attr && c == 9 then [38, 35, 57, 59] else if attr && c == 10 then [38, 35, 49, 48, 59] else [c]
def esc (attr : Bool) (l : Bs) : Bs := l.flatMap (escC attr)
def aposC (c : UInt8) : Bs := if c = 39 then [38, 97, 112, 111, 115, 59] else [c]
def aposR (l : Bs) : Bs := l.flatMap aposC
theorem escC_len (attr : Bool) (c : UInt8) : 1 ≤ (escC attr c).length ∧ (escC attr c).length ≤ 6 := by
 unfold escC; repeat' split
 all_goals simp
theorem esc_len (attr : Bool) (l : Bs) : l.length ≤ (esc attr l).length ∧ (esc attr l).length ≤ 6 * l.length := by
 induction l with
 | nil => exact ⟨Nat.le_refl _, Nat.le_refl _⟩
 | cons c l ih =>
  have := escC_len attr c
  unfold esc at *
  rw [List.flatMap_cons, List.length_append, List.length_cons]
  omega

end Go.Proofs.YtphaeegbmfpcgaaGreatDoor

/- Walks of the document's Escape and of apos; the conditions stand in the theorems. -/

namespace Go.Proofs.YtphaeegbmfpcgaaGreatDoor
open Go Go.RowKit

theorem take_byte (s : S) (k : Nat) (h : k < s.size) : s.data.toList.take (k + 1) = s.data.toList.take k ++ [s[k]] := by
 rw [List.take_succ_eq_append_getElem (by rw [size_data]; exact h)]; rfl

end Go.Proofs.YtphaeegbmfpcgaaGreatDoor

/- The walk of the program's Escape; its conditions stand in the theorem. -/
namespace Go.Proofs.YtphaeegbmfpcgaaGreatDoor
open Go Go.RowKit

/-- The world behind a text's conversion to bytes, and the capacity. -/
def bytesC (w : World) (s : S) : Nat := grownCap w s.size 0 5
def bytesW (w : World) (s : S) : World := w.drew.alloc (.cells (bytesRow s (bytesC w s)) 5 ((bytesRow s (bytesC w s)).size, (bytesRow s (bytesC w s)).size + 1))
theorem conv_bytes (w : World) (s : S) : (convert 9 173 (.string s)).run Tryz.prog w = .ok (.slice (some ⟨w.heap.size, 0, none⟩) s.size (bytesC w s)) (bytesW w s) :=
 run_bytes_of_string w 9 173 5 s Tryz.underlying9 Tryz.underlying173 Tryz.underlying5
theorem bytesW_below (w : World) (s : S) (B : Nat) (hB : B ≤ w.heap.size) : Below B w (bytesW w s) := (belowN (Below.refl _ _) 1).alloc hB _
theorem bytesW_size (w : World) (s : S) : (bytesW w s).heap.size = w.heap.size + 1 := by show (w.heap.push _).size = _; simp
theorem bytesW_cell (w : World) (s : S) (j : Nat) (h : j < s.size) : (bytesW w s).cell? ⟨w.heap.size, j, none⟩ = some (.int .u8 (s[j].toNat : Nat)) := by
 have hh : (bytesW w s).heap[w.heap.size]? = some (.cells (bytesRow s (bytesC w s)) 5 ((bytesRow s (bytesC w s)).size, (bytesRow s (bytesC w s)).size + 1)) := by
  show (w.heap.push _)[w.heap.size]? = _
  simp
 have hs : j < s.data.size := h
 simp only [World.cell?, hh]
 unfold bytesRow
 rw [Array.getElem?_append_left (by simpa using hs), Array.getElem?_map, Array.getElem?_eq_getElem hs]
 rfl

end Go.Proofs.YtphaeegbmfpcgaaGreatDoor

/- Plain law: an error in a tag, a value or a text stays the error whatever stands behind it; no program in sight. -/

namespace Go.Proofs.YtphaeegbmfpcgaaGreatDoor
open Go Go.RowKit

/-! What stands up to an end. -/
theorem pre_app {p u : Bs} (h : p.length ≤ u.length) (x : Bs) : p.isPrefixOf (u ++ x) = p.isPrefixOf u := by
 induction p generalizing u with
 | nil => cases u <;> simp [List.isPrefixOf]
 | cons a p ih =>
  cases u with
  | nil => simp at h
  | cons c u => simp only [List.cons_append, List.isPrefixOf]; rw [ih (by simpa using h)]
theorem numRef_min {hex : Bool} {a n : Nat} {l t : Bs} (h : numRef hex a l = .ok t n) : a + 2 ≤ n := by
 unfold numRef at h
 split at h
 · cases h
 split at h
 · cases h
 split at h
 · cases h
 rename_i h3
 split at h
 · simp only [not_or] at h3
   cases h; omega
 · cases h
/-- What stands behind an attribute's name. -/
def restR (nm : Bs) (r : Bs) : Res At2 := (wantC 61 (blanks r)).bind fun _ r' => (valueR (blanks r')).map fun v => (nm, v)
theorem attrR_eq (acc : List At2) (l : Bs) : attrR acc l = (nameR 10 l).bind fun nm r => if acc.any (fun a => a.1 == nm) then .bad 15 l else restR nm r := rfl
/-- What stands behind a tag's attributes. -/
def endR (nm : Bs) (ats : List At2) (r' : Bs) : Res Tk := match r' with
 | 47 :: r'' => (wantC 62 r'').map fun _ => ⟨2, nm, ats, []⟩
 | _ => (wantC 62 r').map fun _ => ⟨1, nm, ats, []⟩
theorem endR_47 (nm : Bs) (ats : List At2) (r : Bs) : endR nm ats (47 :: r) = (wantC 62 r).map fun _ => ⟨2, nm, ats, []⟩ := rfl
theorem endR_no (nm : Bs) (ats : List At2) {c : UInt8} (r : Bs) (h : c ≠ 47) : endR nm ats (c :: r) = (wantC 62 (c :: r)).map fun _ => ⟨1, nm, ats, []⟩ := by
 unfold endR
 split
 · rename_i h1; cases h1; exact absurd rfl h
 · rfl
theorem openR_eq (l : Bs) : openR l = (nameR 11 l).bind fun nm r => (attrsR r).bind fun ats r' => endR nm ats r' := rfl

end Go.Proofs.YtphaeegbmfpcgaaGreatDoor

/- Plain law: a tag of any names and values is read as these; no program in sight. -/

namespace Go.Proofs.YtphaeegbmfpcgaaGreatDoor
open Go Go.RowKit

/-- One attribute's text, in either quotes. -/
def attT (q : Bool) (a : At2) : Bs := if q then 10 :: (a.1 ++ (32 :: 61 :: 9 :: 39 :: (aposR (esc true a.2) ++ [39]))) else 32 :: (a.1 ++ (61 :: 34 :: (esc true a.2 ++ [34])))

end Go.Proofs.YtphaeegbmfpcgaaGreatDoor

/- How tokens are printed, and the walk of the program's tag; the conditions stand in the theorem. -/
namespace Go.Proofs.YtphaeegbmfpcgaaGreatDoor
open Go Go.RowKit

def attsP (l : List At2) : Bs := l.flatMap (attT false)
def tagP (t : Tk) (fin : Bs) : Bs := 60 :: (t.name ++ (attsP t.attrs ++ fin))
def tokP (t : Tk) : Bs :=
 if t.kind = 5 then sNote ++ (t.text ++ eNote) else if t.kind = 6 then sHead ++ (t.text ++ eHead) else if t.kind = 3 then [60, 47] ++ (t.name ++ [62])
 else if t.kind = 1 then tagP t [62] else if t.kind = 2 then tagP t [47, 62] else if t.kind = 4 then esc false t.text else []
def printP (ts : List Tk) : Bs := ts.flatMap tokP
/-- How great a tag may become. -/
def attsW (l : List At2) : Nat := (l.map fun a => a.1.length + 6 * a.2.length + 4).sum
theorem attP_len (a : At2) : (attT false a).length ≤ a.1.length + 6 * a.2.length + 4 := by
 have := (esc_len true a.2).2
 unfold attT
 simp only [Bool.false_eq_true, if_false, List.length_cons, List.length_append, List.length_nil]; omega
theorem attsP_len (l : List At2) : (attsP l).length ≤ attsW l := by
 induction l with
 | nil => exact Nat.le_refl _
 | cons a l ih =>
  have := attP_len a
  show (attT false a ++ attsP l).length ≤ _
  unfold attsW at *
  rw [List.length_append, List.map_cons, List.sum_cons]; omega

end Go.Proofs.YtphaeegbmfpcgaaGreatDoor

/- Plain law: tokens that were cut of a text, printed, are cut into the same, texts side by side joined; no program in sight. -/

namespace Go.Proofs.YtphaeegbmfpcgaaGreatDoor
open Go Go.RowKit

/-- What stands up to an end is read again as it is, whatever follows. -/
theorem plain_again {til l s r : Bs} (h : plain til l = .ok s r) : (∀ c ∈ s, cText c = true) ∧ l = s ++ til ++ r ∧ ∀ y, plain til (s ++ til ++ y) = .ok s y := by
 induction l generalizing s with
 | nil =>
  simp only [plain] at h
  split at h
  · rename_i ht
    cases h
    have : til = [] := by cases til with
     | nil => rfl
     | cons a b => simp [List.isPrefixOf] at ht
    subst this
    refine ⟨by simp, by simp, fun y => ?_⟩
    cases y <;> simp [plain]
  · cases h
 | cons c l ih =>
  simp only [plain] at h
  split at h
  · rename_i ht
    cases h
    obtain ⟨z, hz⟩ := List.isPrefixOf_iff_prefix.1 ht
    refine ⟨by simp, ?_, fun y => ?_⟩
    · rw [← hz]; simp
    · show plain til (til ++ y) = _
      cases hty : til ++ y with
      | nil =>
       have h1 : til = [] := (List.append_eq_nil_iff.1 hty).1
       have h2 : y = [] := (List.append_eq_nil_iff.1 hty).2
       subst h1; subst h2; rfl
      | cons a b =>
       simp only [plain]
       rw [if_pos (by rw [← hty]; exact List.isPrefixOf_iff_prefix.2 ⟨y, rfl⟩), ← hty, List.drop_left]
  · rename_i ht
    split at h
    · rename_i hc
      obtain ⟨a, h1, rfl⟩ := map_ok h
      obtain ⟨i1, i2, i3⟩ := ih h1
      refine ⟨?_, by rw [i2]; simp, fun y => ?_⟩
      · intro x hx
        rcases List.mem_cons.1 hx with rfl | hx
        · exact hc
        · exact i1 x hx
      · show plain til (c :: (a ++ til ++ y)) = _
        simp only [plain]
        have hp : til.isPrefixOf (c :: (a ++ til ++ y)) = false := by
         rw [i2] at ht
         have e1 : c :: (a ++ til ++ r) = (c :: (a ++ til)) ++ r := by simp
         have e2 : c :: (a ++ til ++ y) = (c :: (a ++ til)) ++ y := by simp
         rw [e1, pre_app (by simp; omega)] at ht
         rw [e2, pre_app (by simp; omega)]
         exact Bool.eq_false_iff.2 ht
        rw [hp, if_neg (by decide), if_pos hc, i3 y]; rfl
    · cases h
theorem tokP_4 {t : Tk} (h : t.kind = 4) : tokP t = esc false t.text := by
 unfold tokP; rw [h]; simp
theorem printP_app (l m : List Tk) : printP (l ++ m) = printP l ++ printP m := by unfold printP; rw [List.flatMap_append]

end Go.Proofs.YtphaeegbmfpcgaaGreatDoor

/- Walks of the document's SameAttrs and Same; the conditions stand in the theorems. -/

namespace Go.Proofs.YtphaeegbmfpcgaaGreatDoor
open Go Go.RowKit

theorem bs_beq (a b : Bs) : ((bs a).toList == (bs b).toList) = decide (a = b) := by
 rw [ByteArray.toList_eq, ByteArray.toList_eq, bs_data, bs_data, Bool.eq_iff_iff]; simp

end Go.Proofs.YtphaeegbmfpcgaaGreatDoor

/- The walk of the program's Print; its conditions stand in the theorem. -/

namespace Go.Proofs.YtphaeegbmfpcgaaGreatDoor
open Go Go.RowKit

def tkW (t : Tk) : Nat := t.name.length + t.text.length + attsW t.attrs + 20
def tksW (l : List Tk) : Nat := (l.map tkW).sum
theorem tksW_get {l : List Tk} {k : Nat} (h : k < l.length) : tkW l[k] ≤ tksW l := by
 induction l generalizing k with
 | nil => simp at h
 | cons a l ih =>
  cases k with
  | zero => unfold tksW; simp only [List.map_cons, List.sum_cons, List.getElem_cons_zero]; omega
  | succ k => have := ih (k := k) (by simpa using h); unfold tksW at *; simp only [List.map_cons, List.sum_cons, List.getElem_cons_succ]; omega

end Go.Proofs.YtphaeegbmfpcgaaGreatDoor

/- Plain law: what is printed of a text's tokens is at most six times as long as the text; no program in sight. -/

namespace Go.Proofs.YtphaeegbmfpcgaaGreatDoor
open Go Go.RowKit

theorem refSpec_less {s t : Bs} {n : Nat} (h : refSpec s = .ok t n) : t.length ≤ n := by
 have h4 := refSpec_len h
 have hn : ∀ hex a d, numRef hex a d = .ok t n → 2 ≤ a → t.length ≤ n := by
  intro hex a d h ha
  have := numRef_min h
  omega
 cases s with
 | nil => cases h
 | cons c r =>
  simp only [refSpec] at h
  split at h
  · cases h
  · split at h
    · split at h
      · exact hn _ _ _ h (by decide)
      · exact hn _ _ _ h (by decide)
    · split at h
      · split at h <;> cases h
      · split at h
        · split at h
          · cases h; simp
          · cases h
        · cases h
theorem letters_eat {stop : UInt8} (n : Nat) : ∀ {l s r : Bs}, l.length ≤ n → lettersGo stop 0 l = .ok s r → s.length + r.length ≤ l.length := by
 induction n with
 | zero =>
  intro l s r hn h
  have : l = [] := List.eq_nil_of_length_eq_zero (by omega)
  subst this
  cases h; simp
 | succ n ih =>
  intro l s r hn h
  cases l with
  | nil => cases h; simp
  | cons c l =>
   simp only [List.length_cons] at hn
   simp only [lettersGo] at h
   split at h
   · cases h; simp
   · split at h
     · cases hr : refSpec (c :: l) with
       | bad e => rw [hr] at h; cases h
       | ok t k =>
        rw [hr] at h
        obtain ⟨a, h1, rfl⟩ := map_ok h
        obtain ⟨k1, k2⟩ := refSpec_size hr
        have k3 := refSpec_less hr
        rw [lettersGo_drop] at h1
        have := ih (by rw [List.length_drop]; omega) h1
        rw [List.length_drop] at this
        simp only [List.length_cons, List.length_append] at k2 ⊢
        omega
     · split at h
       · cases h
       · obtain ⟨a, h1, rfl⟩ := map_ok h
         have := ih (by omega) h1
         simp only [List.length_cons]; omega
theorem nameR_eat {e : Int} {l nm r : Bs} (h : nameR e l = .ok nm r) : nm.length + r.length = l.length := by
 cases l with
 | nil => cases h
 | cons c l =>
  simp only [nameR] at h
  split at h
  · cases h
  · cases h
    have := nameLen_le (c :: l)
    rw [List.length_take, List.length_drop]; omega
theorem wantC_eat {c : UInt8} {l r : Bs} {u : Unit} (h : wantC c l = .ok u r) : r.length + 1 = l.length := by
 cases l with
 | nil => cases h
 | cons x l => simp only [wantC] at h; split at h <;> cases h; simp
theorem valueR_eat {l s r : Bs} (h : valueR l = .ok s r) : s.length + r.length + 2 ≤ l.length := by
 cases l with
 | nil => cases h
 | cons q l =>
  simp only [valueR] at h
  split at h
  · obtain ⟨a, r1, h1, h2⟩ := bind_ok h
    have := letters_eat l.length (Nat.le_refl _) h1
    split at h2
    · cases h2
    · cases h2; simp only [List.length_cons] at this ⊢; omega
  · cases h
def attsE (l : List At2) : Nat := (l.map fun a => a.1.length + a.2.length + 4).sum
theorem attsE_app (l m : List At2) : attsE (l ++ m) = attsE l + attsE m := by unfold attsE; rw [List.map_append, List.sum_append]
theorem attsW_E (l : List At2) : attsW l ≤ 6 * attsE l := by
 induction l with
 | nil => exact Nat.le_refl _
 | cons a l ih => unfold attsW attsE at *; simp only [List.map_cons, List.sum_cons]; omega
theorem attrR_eat {acc : List At2} {l r : Bs} {a : At2} (h : attrR acc l = .ok a r) : a.1.length + a.2.length + 3 + r.length ≤ l.length := by
 rw [attrR_eq] at h
 obtain ⟨nm, r1, h1, h2⟩ := bind_ok h
 split at h2
 · cases h2
 · unfold restR at h2
   obtain ⟨_, r2, h3, h4⟩ := bind_ok h2
   obtain ⟨v, h5, rfl⟩ := map_ok h4
   have e1 := nameR_eat h1
   have e2 := wantC_eat h3
   have e3 := valueR_eat h5
   have e4 := blanks_le r1
   have e5 := blanks_le r2
   simp only; omega
theorem attrsGo_eat (f : Nat) (acc : List At2) (l : Bs) {res : List At2} {r : Bs} (h : attrsGo f acc l = .ok res r) : attsE res + r.length ≤ attsE acc + l.length := by
 induction f generalizing acc l with
 | zero => cases h
 | succ f ih =>
  simp only [attrsGo] at h
  split at h
  · cases h; have := blanks_le l; omega
  · rename_i ht
    cases ha : attrR acc (blanks l) with
    | bad e r' => rw [ha] at h; cases h
    | ok a r' =>
     rw [ha] at h
     have e1 := attrR_eat ha
     have e2 := ih _ _ h
     have e3 := blanks_le l
     have e4 : (blanks l).length ≠ l.length := by
      intro e
      apply ht
      unfold tagEnds
      rw [e]; simp
     rw [attsE_app] at e2
     have e5 : attsE [a] = a.1.length + a.2.length + 4 := by simp [attsE]
     omega
theorem openR_eat {l r : Bs} {t : Tk} (h : openR l = .ok t r) : t.name.length + attsE t.attrs + 1 + r.length ≤ l.length ∧ t.text = [] := by
 rw [openR_eq] at h
 obtain ⟨nm, r1, h1, h2⟩ := bind_ok h
 obtain ⟨ats, r2, h3, h4⟩ := bind_ok h2
 have e1 := nameR_eat h1
 have e2 := attrsGo_eat _ _ _ h3
 have e0 : attsE [] = 0 := rfl
 cases r2 with
 | nil => cases h4
 | cons c r2 =>
  by_cases hc : c = 47
  · subst hc
    rw [endR_47] at h4
    obtain ⟨_, h5, rfl⟩ := map_ok h4
    have := wantC_eat h5
    simp only [List.length_cons] at e2
    exact ⟨by simp only; omega, rfl⟩
  · rw [endR_no nm ats r2 hc] at h4
    obtain ⟨_, h5, rfl⟩ := map_ok h4
    have := wantC_eat h5
    exact ⟨by simp only; omega, rfl⟩
theorem closeR_eat {l r : Bs} {t : Tk} (h : closeR l = .ok t r) : t.kind = 3 ∧ t.name.length + 1 + r.length ≤ l.length ∧ t.attrs = [] ∧ t.text = [] := by
 obtain ⟨nm, r1, h1, h2⟩ := bind_ok h
 obtain ⟨_, h3, rfl⟩ := map_ok h2
 have e1 := nameR_eat h1
 have e2 := wantC_eat h3
 have e3 := blanks_le r1
 exact ⟨rfl, by simp only; omega, rfl, rfl⟩
theorem tag_len (t : Tk) (fin : Bs) : (tagP t fin).length ≤ 1 + t.name.length + attsW t.attrs + fin.length := by
 have := attsP_len t.attrs
 unfold tagP
 simp only [List.length_cons, List.length_append]; omega
/-- What a token takes of the text. -/
theorem tokenR_eat {f : Bool} {l r : Bs} {t : Tk} (h : tokenR f l = .ok t r) (hl : l ≠ []) : (tokP t).length + 6 * r.length ≤ 6 * l.length ∧ tkW t + 26 * r.length ≤ 26 * l.length := by
 have hless := tokenR_less h hl
 unfold tokenR at h
 split at h
 · rename_i hp
   obtain ⟨s, h1, rfl⟩ := map_ok h
   have e1 := congrArg List.length (plain_again h1).2.1
   obtain ⟨z, hz⟩ := List.isPrefixOf_iff_prefix.1 hp
   have e2 := congrArg List.length hz
   have e0 : tokP ⟨5, [], [], s⟩ = sNote ++ (s ++ eNote) := by unfold tokP; rw [if_pos rfl]
   rw [e0]
   unfold tkW
   simp only [List.length_append, List.length_drop, sNote, eNote, List.length_cons, List.length_nil, attsW, List.map_nil, List.sum_nil] at *
   omega
 · split at h
   · rename_i hp
     obtain ⟨s, h1, rfl⟩ := map_ok h
     have e1 := congrArg List.length (plain_again h1).2.1
     obtain ⟨z, hz⟩ := List.isPrefixOf_iff_prefix.1 hp
     have e2 := congrArg List.length hz
     have e3 := (esc_len false s).2
     rw [tokP_4 rfl]
     unfold tkW
     simp only [List.length_append, List.length_drop, sData, eData, List.length_cons, List.length_nil, attsW, List.map_nil, List.sum_nil] at *
     omega
   · split at h
     · rename_i hh
       obtain ⟨s, h1, rfl⟩ := map_ok h
       have e1 := congrArg List.length (plain_again h1).2.1
       rw [Bool.and_eq_true] at hh
       have hh2 := hh.2
       unfold isHead at hh2
       rw [Bool.and_eq_true] at hh2
       obtain ⟨z, hz⟩ := List.isPrefixOf_iff_prefix.1 hh2.1
       have e2 := congrArg List.length hz
       have e0 : tokP ⟨6, [], [], s⟩ = sHead ++ (s ++ eHead) := by unfold tokP; rw [if_neg (by simp), if_pos rfl]
       rw [e0]
       unfold tkW
       simp only [List.length_append, List.length_drop, sHead, eHead, List.length_cons, List.length_nil, attsW, List.map_nil, List.sum_nil] at *
       omega
     · split at h
       · obtain ⟨hk, e1, e2, e3⟩ := closeR_eat h
         have e0 : tokP t = [60, 47] ++ (t.name ++ [62]) := by unfold tokP; rw [hk]; simp
         rw [e0]
         unfold tkW
         rw [e2, e3]
         simp only [List.length_append, List.length_cons, List.length_nil, attsW, List.map_nil, List.sum_nil]
         omega
       · obtain ⟨e1, e2⟩ := openR_eat h
         have hw := attsW_E t.attrs
         have hlen : (tokP t).length ≤ 3 + t.name.length + attsW t.attrs := by
          rcases openR_kind h with hk | hk
          · have e0 : tokP t = tagP t [62] := by unfold tokP; rw [hk]; simp
            have := tag_len t [62]
            rw [e0]; simp at this; omega
          · have e0 : tokP t = tagP t [47, 62] := by unfold tokP; rw [hk]; simp
            have := tag_len t [47, 62]
            rw [e0]; simp at this; omega
         unfold tkW
         rw [e2]
         simp only [List.length_cons, List.length_nil] at *
         omega
       · obtain ⟨s, h1, rfl⟩ := map_ok h
         have e1 := letters_eat l.length (Nat.le_refl _) h1
         have e3 := (esc_len false s).2
         rw [tokP_4 rfl]
         unfold tkW
         simp only [List.length_nil, attsW, List.map_nil, List.sum_nil] at *
         omega
theorem allGo_eat (n : Nat) (f : Bool) (acc : List (Tk × Bs)) (l : Bs) {res : List (Tk × Bs)} {r : Bs} (h : allGo n f acc l = .ok res r) : (printP (res.map (·.1))).length ≤ (printP (acc.map (·.1))).length + 6 * l.length ∧ tksW (res.map (·.1)) ≤ tksW (acc.map (·.1)) + 26 * l.length := by
 induction n generalizing f acc l with
 | zero => cases l with
  | nil => cases h; exact ⟨by omega, by omega⟩
  | cons c l => cases h
 | succ n ih =>
  cases l with
  | nil => cases h; exact ⟨by omega, by omega⟩
  | cons c l =>
   simp only [allGo] at h
   cases ht : tokenR f (c :: l) with
   | bad e r' => rw [ht] at h; cases h
   | ok t r' =>
    rw [ht] at h
    obtain ⟨i1, i2⟩ := ih _ _ _ h
    obtain ⟨j1, j2⟩ := tokenR_eat ht (by simp)
    have k1 : (printP ((acc ++ [(t, c :: l)]).map (·.1))).length = (printP (acc.map (·.1))).length + (tokP t).length := by
     rw [List.map_append, printP_app, List.length_append]; simp [printP]
    have k2 : tksW ((acc ++ [(t, c :: l)]).map (·.1)) = tksW (acc.map (·.1)) + tkW t := by
     unfold tksW; rw [List.map_append, List.map_append, List.sum_append]; simp
    rw [k1] at i1
    rw [k2] at i2
    omega
theorem allR_eat {T : Bs} {acc : List (Tk × Bs)} {r : Bs} (h : allR T = .ok acc r) : (printP (acc.map (·.1))).length ≤ 6 * T.length ∧ tksW (acc.map (·.1)) ≤ 26 * T.length := by
 have := allGo_eat _ _ _ _ h
 simpa [printP, tksW] using this

end Go.Proofs.YtphaeegbmfpcgaaGreatDoor
