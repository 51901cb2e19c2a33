/- The walk of the builder's begin where the root begins; its conditions stand in the theorem. -/
import Derived.Test.YtpchljiiappmnaaG10
namespace Go.Proofs.Ytpchljiiappmnaa
open Go Go.RowKit
variable {lo : Nat}

set_option maxRecDepth 100000 in
set_option maxHeartbeats 8000000 in
theorem begin_root (w : World) (B n : Nat) (r0 : Option Tr) (c : Nat) (tx : Bool) (X : Nat → Prop) (ov : Value) (ps : List (Nat × Nat)) (h : BOf lo w B ⟨[], r0, c, tx⟩ n X ov ps) (t : Tk) (av : Value) (p q r : Int) (hat : AttB lo B w av t.attrs)
    (hr : r0.isSome = false) (hc : ¬ 4096 < c + 1) :
    Calls Try.prog 98 #[.pointer (some ⟨B, 0, none⟩), tokV t av p q r] w (BeginOut lo X w B (n + 1) (beginB ⟨[], r0, c, tx⟩ t)) := by
  have hlt := h.core.lt
  have c6 := h.core.c6
  rw [hr] at c6
  have c4 := h.core.c4
  have hcn : c ≤ n := h.cn
  obtain ⟨ao, cap, rfl⟩ := h.shape
  obtain rfl : r0 = none := by cases r0 with | none => rfl | some x => simp at hr
  have hps : ps = [] := List.eq_nil_of_length_eq_zero h.core.len
  subst hps
  have hl : beginB ⟨[], none, c, tx⟩ t = .ok ⟨⟨t.name, t.attrs, []⟩ :: [], none, c + 1, false⟩ := by simp only [beginB]; rw [if_neg (by simp), if_neg (by simp), if_neg hc]
  rw [hl]
  simp only [List.length_nil] at c4
  have hdd : decide (c + 1 ≤ 4096) = true := by rw [decide_eq_true_iff]; omega
  have hCW := fun o => h.core.below ((Below.refl _ w).alloc (Nat.le_refl _) o)
  have HCW := Lib.hid hCW
  have HXB := Lib.hid h.core.xB
  have HXO := Lib.hid h.core.xo
  have HO := Lib.hid fun o => one_any (w.alloc o) B c (hCW o).c5 ((hCW o).f 5) (by omega)
  rw [hdd] at HO
  have H := Lib.hid h
  clear h hCW hl hdd
  obtain ⟨ao3, cap3, hav⟩ := hat.shape
  have HAT := Lib.hid hat
  obtain ⟨N1, hN1⟩ : ∃ N1 : S, N1 = bs t.name := ⟨_, rfl⟩
  have HN1 := Lib.hid hN1
  unfold tokV
  rw [← hN1]
  clear hN1 hat
  subst hav
  go_enter Try.func98, Try.ntmps98
  go_wp2_with fail
  refine (HO.out _).mono ?_
  rintro e w' ⟨rfl, rfl⟩
  have x0 := (Box.new w [.int .i64 t.kind, .string N1, .slice ao3 t.attrs.length cap3, .string (bs t.text), .int .i64 p, .int .i64 q, .int .i64 r] 34 _ rfl)
  have x1 := x0.grownB (setCell_grown _ B 5 (.int .i64 (c + 1 : Nat))) (by omega)
  have hC1 := (HCW.out (.cells #[.int .i64 t.kind, .string N1, .slice ao3 t.attrs.length cap3, .string (bs t.text), .int .i64 p, .int .i64 q, .int .i64 r] 34)).set5 (.int .i64 (c + 1 : Nat))
  have hB1 : Below B w ((w.alloc (.cells #[.int .i64 t.kind, .string N1, .slice ao3 t.attrs.length cap3, .string (bs t.text), .int .i64 p, .int .i64 q, .int .i64 r] 34)).setCell ⟨B, 5, none⟩ (.int .i64 (c + 1 : Nat))) := below_set ((Below.refl B w).alloc (Nat.le_of_lt hlt) _) B _ _ (Nat.le_refl _)
  have HV1 : Hid (KeptX X w ((w.alloc (.cells #[.int .i64 t.kind, .string N1, .slice ao3 t.attrs.length cap3, .string (bs t.text), .int .i64 p, .int .i64 q, .int .i64 r] 34)).setCell ⟨B, 5, none⟩ (.int .i64 (c + 1 : Nat)))) := (KeptX.below ((Below.refl _ w).alloc (Nat.le_refl _) _)).trans (keptX_set _ B 5 _ HXB.out)
  have hs1 : ((w.alloc (.cells #[.int .i64 t.kind, .string N1, .slice ao3 t.attrs.length cap3, .string (bs t.text), .int .i64 p, .int .i64 q, .int .i64 r] 34)).setCell ⟨B, 5, none⟩ (.int .i64 (c + 1 : Nat))).heap.size = w.heap.size + 1 := by simp
  have a0 := x1.cell 0 _ rfl
  have a1 := x1.cell 1 _ rfl
  have a2 := x1.cell 2 _ rfl
  have e4 := hC1.c4
  have el := hC1.lt
  have al := x1.lt
  have HC1 := Lib.hid hC1
  have HB1 := Lib.hid hB1
  clear x0 x1 hC1 hB1 c4 c6 HO HCW
  generalize ((w.alloc (.cells #[.int .i64 t.kind, .string N1, .slice ao3 t.attrs.length cap3, .string (bs t.text), .int .i64 p, .int .i64 q, .int .i64 r] 34)).setCell ⟨B, 5, none⟩ (.int .i64 (c + 1 : Nat))) = W1 at *
  obtain ⟨u0, u1, u2, u3, hbx⟩ := HC1.out.box
  have b0 := hbx.cell 0 _ rfl
  have b1 := hbx.cell 1 _ rfl
  have b2 := hbx.cell 2 _ rfl
  have b3 := hbx.cell 3 _ rfl
  have bf0 := hbx.free 0
  have bf1 := hbx.free 1
  have bf2 := hbx.free 2
  have bf3 := hbx.free 3
  clear hbx
  go_wp2
  refine wp_world ?_
  intro wc hwc
  have hyX := HAT.out.x HB1.out (fun k hk => (Nat.lt_or_ge k lo).elim .inr fun hl => .inl (HC1.out.xlt k hk hl).1)
  obtain ⟨h5, h6⟩ := HC1.out.rootCells (n := t.name) hyX
  rw [← HN1.out] at h5 h6
  have hcr : Core 54 124 lo wc B [] none X (.slice ao 0 cap) [] (.int .i64 (c + 1 : Nat)) (.bool (none : Option Tr).isSome) (.bool tx) := by rw [hwc]; exact h5.below ((Below.refl _ _).alloc (Nat.le_refl _) _)
  have htp : TreeOf 54 B X wc [⟨t.name, t.attrs, []⟩] none ([] ++ [(B, 0)]) := by rw [hwc]; exact h6.below ((Below.refl _ _).alloc (Nat.le_refl _) _) h5.lt
  have hB9 : Below B w wc := by rw [hwc]; exact (below_set (below_set (below_set (below_set HB1.out B 0 _ (Nat.le_refl _)) B 1 _ (Nat.le_refl _)) B 2 _ (Nat.le_refl _)) B 3 _ (Nat.le_refl _)).alloc (by simp; omega) _
  have HV9 : Hid (KeptX X w wc) := by show KeptX X w wc; rw [hwc]; exact HV1.out.trans (((((keptX_set _ B 0 _ HXB.out).trans (keptX_set _ B 1 _ HXB.out)).trans (keptX_set _ B 2 _ HXB.out)).trans (keptX_set _ B 3 _ HXB.out)).trans (KeptX.below ((Below.refl _ _).alloc (Nat.le_refl _) _)))
  clear hwc HV1 h5 h6 hyX b0 b1 b2 b3 bf0 bf1 bf2 bf3 a0 a1 a2 e4 el al hs1
  have c4 := hcr.c4
  have hlt9 := hcr.lt
  have HTP := Lib.hid htp
  have HB9 := Lib.hid hB9
  have hwB : Below wc.heap.size wc ((wc.alloc (.cells #[.pointer (some ⟨B, 0, none⟩)] 124)).drew) := belowN ((Below.refl _ wc).alloc (Nat.le_refl _) _) 1
  have HC4 := Lib.hid (hcr.below hwB)
  have HT4 := Lib.hid (HTP.out.below hwB hcr.lt)
  have HWB := Lib.hid hwB
  have HNP : Hid (((wc.alloc (.cells #[.pointer (some ⟨B, 0, none⟩)] 124)).drew).cell? ⟨wc.heap.size, 0, none⟩ = some (.pointer (some ⟨B, 0, none⟩))) := (Box.new wc [.pointer (some ⟨B, 0, none⟩)] 124 _ rfl).cell 0 _ rfl
  have HPL : Hid (([] : List (Nat × Nat)).length ≤ 1000000) := by show _ ≤ _; simp
  have HPQ : Hid (([] : List (Nat × Nat)).length = 0) := by show _ = _; simp
  have HBS : Hid (B + 1 ≤ ((wc.alloc (.cells #[.pointer (some ⟨B, 0, none⟩)] 124)).drew).heap.size) := by show _ ≤ _; simp; omega
  have HSZ : Hid (((wc.alloc (.cells #[.pointer (some ⟨B, 0, none⟩)] 124)).drew).heap.size = wc.heap.size + 1) := by show _ = _; simp
  have HB4 : Hid (∀ w9 : World, ((wc.alloc (.cells #[.pointer (some ⟨B, 0, none⟩)] 124)).drew).grownBy w9 (Value.slice ao 0 cap).ownBlock → w9.cell? ⟨B, 4, none⟩ = some (.slice ao 0 cap) ∧ w9.frozen? ⟨B, 4, none⟩ = false ∧ B < w9.heap.size) := by
    intro w9 hg
    have hbk : w9.heap[B]? = ((wc.alloc (.cells #[.pointer (some ⟨B, 0, none⟩)] 124)).drew).heap[B]? := hg.block B HC4.out.lt (fun e => by have := (HC4.out.opn.rowOf e.symm).1; omega)
    exact ⟨(World.cell?_of_block (by exact hbk)).trans HC4.out.c4, (World.frozen?_of_block (by exact hbk)).trans (HC4.out.f 4), Nat.lt_of_lt_of_le HC4.out.lt hg.size⟩
  have HBG : Hid (∀ w9 : World, ((wc.alloc (.cells #[.pointer (some ⟨B, 0, none⟩)] 124)).drew).grownBy w9 (Value.slice ao 0 cap).ownBlock → Below B w w9) := by
    intro w9 hg
    have h1 : Below B w ((wc.alloc (.cells #[.pointer (some ⟨B, 0, none⟩)] 124)).drew) := HB9.out.trans (HWB.out.mono (Nat.le_of_lt hlt9))
    exact ⟨hg.os.trans h1.os, hg.tape.trans h1.tape, hg.output.trans h1.output, Nat.le_trans h1.size hg.size, fun k hk => (hg.block k (Nat.lt_trans hk HC4.out.lt) (fun e => by have := (HC4.out.opn.rowOf e.symm).1; omega)).trans (h1.block k hk)⟩
  have HVG : Hid (∀ w9 : World, ((wc.alloc (.cells #[.pointer (some ⟨B, 0, none⟩)] 124)).drew).grownBy w9 (Value.slice ao 0 cap).ownBlock → KeptX X w w9) := fun w9 hg => HV9.out.trans ((KeptX.below HWB.out).trans (KeptX.grown hg HXO.out))
  clear hcr htp hB9 hwB HC1 HB1
  go_wp2
  go_region_law (first | (refine step_append_open rfl (.tmp 43) (.tmp 47) rfl (.slice ao 0 cap) ([] : List (Nat × Nat)) (by simp [Act.eval]) HC4.out.opn wc.heap.size (B, 0) (by simp [Act.eval]) HNP.out HPL.out HBS.out (wc.heap.size + 1) HSZ.out ?_; intro g9 cap9 w9 hown9 hgrow9 hat9; obtain ⟨z1, z2, z3⟩ := HB4.out w9 hgrow9; rw [HPQ.out] at hown9; have ho9 := Lib.hid hown9; have hg9 := Lib.hid hgrow9; have ha9 := Lib.hid hat9; rw [HPQ.out]; clear hown9 hgrow9 hat9))
  all_goals
    have hp := Core.point node_ptr HC4.out HT4.out ho9.out hg9.out (ha9.out.imp (fun e => e.symm) (fun e k hk => by cases hk; rw [HSZ.out]; exact e))
    have hbw := HBG.out w9 hg9.out
    have hvw := HVG.out w9 hg9.out
    have hvw2 := hvw.trans (keptX_set w9 B 4 (.slice (some ⟨g9, 0, none⟩) (0 + 1) cap9) HXB.out)
    have hbw2 := below_set hbw B 4 (.slice (some ⟨g9, 0, none⟩) (0 + 1) cap9) (Nat.le_refl _)
    clear z1 z2 z3 ho9 hg9 ha9 hbw hvw
    generalize w9.setCell ⟨B, 4, none⟩ (.slice (some ⟨g9, 0, none⟩) (0 + 1) cap9) = W10 at *
    have c7 := hp.c7
    have f7 := hp.f 7
    have lt10 := hp.lt
    have HP10 := Lib.hid hp
    have HBW := Lib.hid hbw2
    have HVW := Lib.hid hvw2
    clear hp hbw2 hvw2
    go_wp2
    go_ret
    refine ⟨⟨rfl, ⟨_, _, _, HP10.out.set7 (.bool false), by simp, fun f' hf' => ?_, ?_, ?_⟩, below_set HBW.out B 7 _ (Nat.le_refl _)⟩, HVW.out.trans (keptX_set _ B 7 _ HXB.out)⟩
    · rcases List.mem_cons.1 hf' with rfl | hf'
      · simp
      · have := H.out.kd f' hf'; omega
    · show c + 1 ≤ n + 1
      omega
    · simp

end Go.Proofs.Ytpchljiiappmnaa

/- The walk of the builder's token; its conditions stand in the theorem. -/
namespace Go.Proofs.Ytpchljiiappmnaa
open Go Go.RowKit
variable {lo : Nat}

theorem bs_beq2 (a b : Bs) : ((bs a : S).toList == (bs b : S).toList) = decide (a = b) := by
  rw [ByteArray.toList_eq, ByteArray.toList_eq, bs_data, bs_data, Bool.eq_iff_iff, beq_iff_eq, decide_eq_true_iff]

theorem begin_any (w : World) (B n : Nat) (st : BSt) (X : Nat → Prop) (ov : Value) (ps : List (Nat × Nat)) (h : BOf lo w B st n X ov ps) (t : Tk) (av : Value) (p q r : Int) (hat : AttB lo B w av t.attrs) (hn : n ≤ 1000000) :
    Calls Try.prog 98 #[.pointer (some ⟨B, 0, none⟩), tokV t av p q r] w (BeginOut lo X w B (n + 1) (beginB st t)) := by
  cases hr : st.root.isSome with
  | true => exact begin_done w B n st X ov ps h t av p q r hr
  | false =>
    by_cases hd : 64 ≤ st.stack.length
    · exact begin_deep w B n st X ov ps h t av p q r hr hd
    · by_cases hc : 4096 < st.count + 1
      · exact begin_full w B n st X ov ps h t av p q r hr hd hc hn
      · obtain ⟨stack, r0, c, tx⟩ := st
        cases stack with
        | nil => exact begin_root w B n r0 c tx X ov ps h t av p q r hat hr hc
        | cons f fs => exact begin_in w B n f fs r0 c tx X ov ps h t av p q r hat hr hd hc hn

theorem StepOut.back {w W : World} {B n : Nat} {R : StR} {e : Ending} {w' : World} (hg : w.grownBy W (some B)) (hb : Below B w W) (h : StepOut lo W B n R e w') : StepOut lo w B n R e w' := by
  cases R with
  | ok st => exact ⟨h.1, h.2.1, hb.trans h.2.2⟩
  | bad x => exact ⟨h.1, hg.trans h.2.1, hb.trans h.2.2⟩

theorem BOf.close {w w' : World} {B n : Nat} {f : Fr} {fs : List Fr} {r : Option Tr} {c : Nat} {tx : Bool} {X X' : Nat → Prop} {ov ov' : Value} {ps ps' : List (Nat × Nat)} (h : BOf lo w B ⟨f :: fs, r, c, tx⟩ n X ov ps)
    (hc : Core 54 124 lo w' B (closeB f fs none 0).stack (closeB f fs none 0).root X' ov' ps' (.int .i64 c) (.bool (closeB f fs none 0).root.isSome) (.bool false)) : BOf lo w' B (closeB f fs r c) (n + 1) X' ov' ps' := by
  obtain ⟨b, o, L, av, ao, cap, qs, rfl, -⟩ := h.core.data
  have hcn : c ≤ n := h.cn
  have hsn := h.sn
  simp only [List.length_cons] at hsn
  cases fs with
  | nil => exact ⟨hc, by simp [closeB], by simp [closeB], by simp only [closeB]; omega, by simp [closeB]⟩
  | cons g fs =>
    refine ⟨hc, by simp [closeB], fun f' hf' => ?_, by simp only [closeB]; omega, ?_⟩
    · simp only [closeB] at hf'
      rcases List.mem_cons.1 hf' with rfl | hf'
      · have := h.kd g (by simp)
        simp [Fr.add]; omega
      · have := h.kd f' (by simp [hf']); omega
    · simp only [closeB, List.length_cons] at hsn ⊢; omega

theorem closing {w : World} {B n : Nat} {f : Fr} {fs : List Fr} {r : Option Tr} {c : Nat} {tx : Bool} {X : Nat → Prop} {ov : Value} {ps : List (Nat × Nat)} (h : BOf lo w B ⟨f :: fs, r, c, tx⟩ n X ov ps) :
    Calls Try.prog 99 #[.pointer (some ⟨B, 0, none⟩)] w fun e w' => e = .returned (.tuple #[]) ∧ (∃ X' ov' ps', BOf lo w' B (closeB f fs r c) (n + 1) X' ov' ps') ∧ Below B w w' := by
  have hc := h.core
  obtain ⟨b, o, L, av, ao, cap, qs, hr, -⟩ := h.core.data
  simp only at hr
  subst hr
  refine (end_any hc).mono ?_
  rintro e w' ⟨rfl, X', ov', ps', h1, h2⟩
  exact ⟨rfl, ⟨X', ov', ps', h.close h1⟩, h2⟩

theorem beginB_bad {st : BSt} {t : Tk} {x : Int} (h : beginB st t = .bad x) : x = 16 ∨ x = 2 := by
  unfold beginB at h
  split at h
  · cases h; exact .inl rfl
  · split at h
    · cases h; exact .inr rfl
    · split at h
      · cases h; exact .inr rfl
      · cases h
theorem beginB_ok {st st' : BSt} {t : Tk} (h : beginB st t = .ok st') : st' = ⟨⟨t.name, t.attrs, []⟩ :: st.stack, st.root, st.count + 1, false⟩ := by
  unfold beginB at h
  split at h
  · cases h
  · split at h
    · cases h
    · split at h
      · cases h
      · cases h; rfl

set_option maxRecDepth 100000 in
set_option maxHeartbeats 8000000 in
theorem token_text (w : World) (B n : Nat) (st : BSt) (X : Nat → Prop) (ov : Value) (ps : List (Nat × Nat)) (h : BOf lo w B st n X ov ps) (nm : Bs) (ats : List At2) (tx : Bs) (av : Value) (p q r : Int) (hat : AttB lo B w av ats) (hs : tx.length ≤ 2000000) (hn : n ≤ 1000000) :
    Calls Try.prog 63 #[.pointer (some ⟨B, 0, none⟩), tokV ⟨4, nm, ats, tx⟩ av p q r] w (StepOut lo w B (n + 1) (stepB st ⟨4, nm, ats, tx⟩)) := by
  have hl : stepB st ⟨4, nm, ats, tx⟩ = lettersB st tx := by unfold stepB; rw [if_pos rfl]
  rw [hl]
  have hlt := h.core.lt
  obtain ⟨ao3, cap3, rfl⟩ := hat.shape
  have HL := Lib.hid fun o => lettersB_any (w.alloc o) B n st X ov ps tx (h.below ((Below.refl _ w).alloc (Nat.le_refl _) o)) hs hn
  clear h hat hl
  unfold tokV
  go_enter Try.func63, Try.ntmps63
  go_wp2_with fail
  refine (HL.out _).mono ?_
  intro e w1 hO
  replace hO := StepOut.back (World.grownBy_alloc _ _ _) ((Below.refl B w).alloc (Nat.le_of_lt hlt) _) hO
  have HO := Lib.hid hO
  cases hR : lettersB st tx with
  | ok st' =>
    rw [hR] at hO HO
    obtain ⟨rfl, -⟩ := hO
    go_wp2
    go_ret
    rw [hR]
    exact HO.out
  | bad x =>
    rw [hR] at hO HO
    obtain ⟨rfl, -⟩ := hO
    go_wp2
    go_ret
    rw [hR]
    exact HO.out

set_option maxRecDepth 100000 in
set_option maxHeartbeats 8000000 in
theorem token_other (w : World) (B n : Nat) (st : BSt) (X : Nat → Prop) (ov : Value) (ps : List (Nat × Nat)) (h : BOf lo w B st n X ov ps) (k : Int) (hk : k = 5 ∨ k = 6) (nm : Bs) (ats : List At2) (tx : Bs) (av : Value) (p q r : Int) (hat : AttB lo B w av ats) :
    Calls Try.prog 63 #[.pointer (some ⟨B, 0, none⟩), tokV ⟨k, nm, ats, tx⟩ av p q r] w (StepOut lo w B (n + 1) (stepB st ⟨k, nm, ats, tx⟩)) := by
  have hl : stepB st ⟨k, nm, ats, tx⟩ = .ok st := by
    unfold stepB
    rcases hk with rfl | rfl <;> rfl
  rw [hl]
  have hlt := h.core.lt
  obtain ⟨ao3, cap3, rfl⟩ := hat.shape
  have HL := Lib.hid fun o => (h.below ((Below.refl _ w).alloc (Nat.le_refl _) o)).mono (Nat.le_succ n)
  clear h hat hl
  unfold tokV
  rcases hk with rfl | rfl
  all_goals
    go_enter Try.func63, Try.ntmps63
    go_wp2
    go_ret
    exact ⟨rfl, ⟨X, ov, ps, HL.out _⟩, (Below.refl B w).alloc (Nat.le_of_lt hlt) _⟩

set_option maxRecDepth 100000 in
set_option maxHeartbeats 8000000 in
theorem token_open (w : World) (B n : Nat) (st : BSt) (X : Nat → Prop) (ov : Value) (ps : List (Nat × Nat)) (h : BOf lo w B st n X ov ps) (nm : Bs) (ats : List At2) (tx : Bs) (av : Value) (p q r : Int) (hat : AttB lo B w av ats) (hn : n ≤ 1000000) :
    Calls Try.prog 63 #[.pointer (some ⟨B, 0, none⟩), tokV ⟨1, nm, ats, tx⟩ av p q r] w (StepOut lo w B (n + 1) (stepB st ⟨1, nm, ats, tx⟩)) := by
  have hl : stepB st ⟨1, nm, ats, tx⟩ = beginB st ⟨1, nm, ats, tx⟩ := by
    unfold stepB
    rw [if_neg (by show ¬ (1 : Int) = 4; decide)]
    exact if_pos rfl
  rw [hl]
  have hlt := h.core.lt
  have hnx : ¬ X w.heap.size := fun e => by have := h.core.xsize _ e; omega
  obtain ⟨ao3, cap3, rfl⟩ := hat.shape
  have HL := Lib.hid fun o => begin_any (w.alloc o) B n st X ov ps (h.below ((Below.refl _ w).alloc (Nat.le_refl _) o)) ⟨1, nm, ats, tx⟩ (.slice ao3 ats.length cap3) p q r (hat.below ((Below.refl B w).alloc (Nat.le_of_lt hlt) o)) hn
  have hbad : ∀ x, beginB st ⟨1, nm, ats, tx⟩ = .bad x → (x == 0) = false := fun x hx => by rcases beginB_bad hx with rfl | rfl <;> rfl
  have HNX := Lib.hid hnx
  clear h hat hl hnx
  unfold tokV at HL ⊢
  go_enter Try.func63, Try.ntmps63
  go_wp2_with fail
  refine (HL.out _).mono ?_
  intro e w1 hO
  have x0 := Box.new w [.int .i64 1, .string (bs nm), .slice ao3 ats.length cap3, .string (bs tx), .int .i64 p, .int .i64 q, .int .i64 r] 34 _ rfl
  have HX := Lib.hid x0
  have HB0 : Hid (Below B w (w.alloc (.cells #[.int .i64 1, .string (bs nm), .slice ao3 ats.length cap3, .string (bs tx), .int .i64 p, .int .i64 q, .int .i64 r] 34))) := (Below.refl B w).alloc (Nat.le_of_lt hlt) _
  clear x0
  cases hR : beginB st ⟨1, nm, ats, tx⟩ with
  | ok st' =>
    rw [hR] at hO
    obtain ⟨⟨rfl, ⟨X', ov', ps', hB'⟩, hb⟩, hk⟩ := hO
    have k0 := (hk.cell w.heap.size 0 HX.out.lt HNX.out).trans (HX.out.cell 0 _ rfl)
    have kl := Nat.lt_of_lt_of_le HX.out.lt hk.size
    have HBB := Lib.hid (HB0.out.trans hb)
    have HBO := Lib.hid hB'
    clear hb hk hB'
    go_wp2
    go_ret
    rw [hR]
    exact ⟨rfl, ⟨X', ov', ps', HBO.out⟩, HBB.out⟩
  | bad x =>
    have hx := hbad x hR
    rw [hR] at hO
    obtain ⟨rfl, hg, hb⟩ := hO
    go_wp2
    go_ret
    rw [hR]
    exact ⟨rfl, (World.grownBy_alloc _ _ _).trans hg, HB0.out.trans hb⟩

set_option maxRecDepth 100000 in
set_option maxHeartbeats 8000000 in
theorem token_empty (w : World) (B n : Nat) (st : BSt) (X : Nat → Prop) (ov : Value) (ps : List (Nat × Nat)) (h : BOf lo w B st n X ov ps) (nm : Bs) (ats : List At2) (tx : Bs) (av : Value) (p q r : Int) (hat : AttB lo B w av ats) (hn : n ≤ 1000000) :
    Calls Try.prog 63 #[.pointer (some ⟨B, 0, none⟩), tokV ⟨2, nm, ats, tx⟩ av p q r] w (StepOut lo w B (n + 2) (stepB st ⟨2, nm, ats, tx⟩)) := by
  have hl : stepB st ⟨2, nm, ats, tx⟩ = (beginB st ⟨2, nm, ats, tx⟩).close := by
    unfold stepB
    rw [if_neg (by show ¬ (2 : Int) = 4; decide), if_neg (by show ¬ (2 : Int) = 1; decide)]
    exact if_pos rfl
  rw [hl]
  have hlt := h.core.lt
  have hnx : ¬ X w.heap.size := fun e => by have := h.core.xsize _ e; omega
  obtain ⟨ao3, cap3, rfl⟩ := hat.shape
  have HL := Lib.hid fun o => begin_any (w.alloc o) B n st X ov ps (h.below ((Below.refl _ w).alloc (Nat.le_refl _) o)) ⟨2, nm, ats, tx⟩ (.slice ao3 ats.length cap3) p q r (hat.below ((Below.refl B w).alloc (Nat.le_of_lt hlt) o)) hn
  have hbad : ∀ x, beginB st ⟨2, nm, ats, tx⟩ = .bad x → (x == 0) = false := fun x hx => by rcases beginB_bad hx with rfl | rfl <;> rfl
  have HNX := Lib.hid hnx
  clear h hat hl hnx
  unfold tokV at HL ⊢
  go_enter Try.func63, Try.ntmps63
  go_wp2_with fail
  refine (HL.out _).mono ?_
  intro e w1 hO
  have x0 := Box.new w [.int .i64 2, .string (bs nm), .slice ao3 ats.length cap3, .string (bs tx), .int .i64 p, .int .i64 q, .int .i64 r] 34 _ rfl
  have HX := Lib.hid x0
  have HB0 : Hid (Below B w (w.alloc (.cells #[.int .i64 2, .string (bs nm), .slice ao3 ats.length cap3, .string (bs tx), .int .i64 p, .int .i64 q, .int .i64 r] 34))) := (Below.refl B w).alloc (Nat.le_of_lt hlt) _
  clear x0
  cases hR : beginB st ⟨2, nm, ats, tx⟩ with
  | ok st' =>
    rw [hR] at hO
    obtain ⟨⟨rfl, ⟨X', ov', ps', hB'⟩, hb⟩, hk⟩ := hO
    have k0 := (hk.cell w.heap.size 0 HX.out.lt HNX.out).trans (HX.out.cell 0 _ rfl)
    have kl := Nat.lt_of_lt_of_le HX.out.lt hk.size
    have HBB := Lib.hid (HB0.out.trans hb)
    have HBO := Lib.hid hB'
    clear hb hk hB'
    have hst := beginB_ok hR
    subst hst
    have HCL := Lib.hid (closing HBO.out)
    go_wp2_with fail
    refine HCL.out.mono ?_
    rintro e w2 ⟨rfl, hB2, hb2⟩
    go_wp2
    go_ret
    rw [hR]
    exact ⟨rfl, hB2, HBB.out.trans hb2⟩
  | bad x =>
    have hx := hbad x hR
    rw [hR] at hO
    obtain ⟨rfl, hg, hb⟩ := hO
    go_wp2
    go_ret
    rw [hR]
    exact ⟨rfl, (World.grownBy_alloc _ _ _).trans hg, HB0.out.trans hb⟩

set_option maxRecDepth 100000 in
set_option maxHeartbeats 8000000 in
theorem token_close (w : World) (B n : Nat) (st : BSt) (X : Nat → Prop) (ov : Value) (ps : List (Nat × Nat)) (h : BOf lo w B st n X ov ps) (nm : Bs) (ats : List At2) (tx : Bs) (av : Value) (p q r : Int) (hat : AttB lo B w av ats) :
    Calls Try.prog 63 #[.pointer (some ⟨B, 0, none⟩), tokV ⟨3, nm, ats, tx⟩ av p q r] w (StepOut lo w B (n + 1) (stepB st ⟨3, nm, ats, tx⟩)) := by
  have hl : stepB st ⟨3, nm, ats, tx⟩ = endB st ⟨3, nm, ats, tx⟩ := by
    unfold stepB
    rw [if_neg (by show ¬ (3 : Int) = 4; decide), if_neg (by show ¬ (3 : Int) = 1; decide), if_neg (by show ¬ (3 : Int) = 2; decide)]
    exact if_pos rfl
  rw [hl]
  have hlt := h.core.lt
  obtain ⟨ao3, cap3, rfl⟩ := hat.shape
  have H := Lib.hid fun o => h.below ((Below.refl _ w).alloc (Nat.le_refl _) o)
  obtain ⟨stack, r0, c, tx0⟩ := st
  obtain ⟨ao, cap, hov⟩ := h.shape
  have c4 := h.core.c4
  rw [hov] at c4
  cases stack with
  | nil =>
    simp only [List.length_nil] at c4
    clear h hat hl hov
    unfold tokV
    go_enter Try.func63, Try.ntmps63
    go_wp2
    go_ret
    exact ⟨rfl, World.grownBy_alloc _ _ _, (Below.refl B w).alloc (Nat.le_of_lt hlt) _⟩
  | cons f fs =>
    simp only [List.length_cons] at c4
    have hn1 : ((fs.length + 1 : Nat) : Int) ≠ 0 := by omega
    obtain ⟨b, o, L, av0, ao0, cap0, qs, hr0, hps, -, -, hbl, -, -, n0, -⟩ := h.core.data
    simp only at hr0
    subst hr0 hps
    have hbw := h.core.lt
    clear h hat hl hov
    unfold tokV
    go_enter Try.func63, Try.ntmps63
    go_wp2
    refine wp_world ?_
    intro W hW
    have hB := H.out (.cells #[.int .i64 3, .string (bs nm), .slice ao3 ats.length cap3, .string (bs tx), .int .i64 p, .int .i64 q, .int .i64 r] 34)
    have HG0 : Hid (w.grownBy W (some B)) := by show w.grownBy W (some B); rw [hW]; exact World.grownBy_alloc _ _ _
    have HB0 : Hid (Below B w W) := by show Below B w W; rw [hW]; exact (Below.refl B w).alloc (Nat.le_of_lt hlt) _
    have x0 := Box.new w [.int .i64 3, .string (bs nm), .slice ao3 ats.length cap3, .string (bs tx), .int .i64 p, .int .i64 q, .int .i64 r] 34 _ rfl
    have hbl2 : b < W.heap.size := by rw [hW]; simp; omega
    have n02 : W.cell? ⟨b, o, none⟩ = some (.string (bs f.name)) := by rw [hW]; exact ((Below.refl w.heap.size w).alloc (Nat.le_refl _) _ |>.cell (by exact hbl)).trans n0
    rw [← hW] at hB x0
    have k1 := x0.cell 1 _ rfl
    have kl := x0.lt
    have HT := Lib.hid fun k => top_any (hB.drewN k).core
    have HBO := Lib.hid hB
    clear hW hB x0 n0 hbl c4
    have hE : ((bs f.name : S).toList == (bs nm : S).toList) = decide (f.name = nm) := bs_beq2 _ _
    by_cases hnm : f.name = nm
    · have hl : endB ⟨f :: fs, none, c, tx0⟩ ⟨3, nm, ats, tx⟩ = .ok (closeB f fs none c) := by simp only [endB]; rw [if_pos hnm]
      have HL := Lib.hid hl
      rw [decide_eq_true hnm] at hE
      clear hnm hl
      go_quiet ((go_at_call 100; exact Qt.quiet (HT.out _)))
      have HCL := Lib.hid (closing (HBO.out.drewN nq))
      have HBN : Hid (Below B w (W.drewN nq)) := belowN HB0.out nq
      clear HT hE k1 kl hbl2 n02 HBO HB0
      generalize W.drewN nq = W2 at *
      go_wp2_with fail
      refine HCL.out.mono ?_
      rintro e w2 ⟨rfl, hB2, hb2⟩
      go_wp2
      go_ret
      rw [HL.out]
      exact ⟨rfl, hB2, HBN.out.trans hb2⟩
    · have hl : endB ⟨f :: fs, none, c, tx0⟩ ⟨3, nm, ats, tx⟩ = .bad 14 := by simp only [endB]; rw [if_neg hnm]
      have HL := Lib.hid hl
      rw [decide_eq_false hnm] at hE
      clear hnm hl
      go_quiet ((go_at_call 100; exact Qt.quiet (HT.out _)))
      have HBN : Hid (Below B w (W.drewN nq)) := belowN HB0.out nq
      have HGN : Hid (w.grownBy (W.drewN nq) (some B)) := HG0.out.trans (grownN W nq _)
      clear HT hE k1 kl hbl2 n02 HBO HB0 HG0
      generalize W.drewN nq = W2 at *
      go_wp2
      go_ret
      rw [HL.out]
      exact ⟨rfl, HGN.out, HBN.out⟩

theorem tokenB_any (w : World) (B n : Nat) (st : BSt) (X : Nat → Prop) (ov : Value) (ps : List (Nat × Nat)) (h : BOf lo w B st n X ov ps) (t : Tk) (av : Value) (p q r : Int) (hat : AttB lo B w av t.attrs) (hk : t.kind = 1 ∨ t.kind = 2 ∨ t.kind = 3 ∨ t.kind = 4 ∨ t.kind = 5 ∨ t.kind = 6) (hs : t.text.length ≤ 2000000) (hn : n ≤ 1000000) :
    Calls Try.prog 63 #[.pointer (some ⟨B, 0, none⟩), tokV t av p q r] w (StepOut lo w B (n + 2) (stepB st t)) := by
  have up : ∀ {R : StR} {e : Ending} {w' : World}, StepOut lo w B (n + 1) R e w' → StepOut lo w B (n + 2) R e w' := by
    intro R e w' h
    cases R with
    | ok st' => obtain ⟨h1, ⟨X', ov', ps', h2⟩, h3⟩ := h; exact ⟨h1, ⟨X', ov', ps', h2.mono (by omega)⟩, h3⟩
    | bad x => exact h
  obtain ⟨k, nm, ats, tx⟩ := t
  simp only at hk hs hat
  rcases hk with rfl | rfl | rfl | rfl | rfl | rfl
  · exact (token_open w B n st X ov ps h nm ats tx av p q r hat hn).mono fun _ _ => up
  · exact token_empty w B n st X ov ps h nm ats tx av p q r hat hn
  · exact (token_close w B n st X ov ps h nm ats tx av p q r hat).mono fun _ _ => up
  · exact (token_text w B n st X ov ps h nm ats tx av p q r hat hs hn).mono fun _ _ => up
  · exact (token_other w B n st X ov ps h 5 (.inl rfl) nm ats tx av p q r hat).mono fun _ _ => up
  · exact (token_other w B n st X ov ps h 6 (.inr rfl) nm ats tx av p q r hat).mono fun _ _ => up

end Go.Proofs.Ytpchljiiappmnaa
