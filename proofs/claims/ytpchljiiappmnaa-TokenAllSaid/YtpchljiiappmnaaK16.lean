/- The walk of the program's reader's letters; its conditions stand in the theorem. -/
import Derived.Test.YtpchljiiappmnaaK15
import Derived.Test.YtpchljiiappmnaaK5
namespace Go.Proofs.Ytpchljiiappmnaa
open Go Go.RowKit

theorem letterN_len (n : Nat) : (letterN n).length ≤ 4 := by
  unfold letterN; split
  · simp
  · split
    · simp
    · split <;> simp
theorem refSpec_len {s t : Bs} {n : Nat} (h : refSpec s = .ok t n) : t.length ≤ 4 := by
  have hn : ∀ hex a d, numRef hex a d = .ok t n → t.length ≤ 4 := by
    intro hex a d h
    unfold numRef at h
    by_cases h1 : 8 < span (isDig hex) d
    · rw [if_pos h1] at h; cases h
    · rw [if_neg h1] at h
      by_cases h2 : span (isDig hex) d = d.length
      · rw [if_pos h2] at h; cases h
      · rw [if_neg h2] at h
        by_cases h3 : span (isDig hex) d = 0 ∨ d[span (isDig hex) d]? ≠ some 59
        · rw [if_pos h3] at h; cases h
        · rw [if_neg h3] at h
          split at h
          · cases h; exact letterN_len _
          · cases h
  cases s with
  | nil => cases h
  | cons c r =>
    simp only [refSpec] at h
    by_cases hc : c = 38
    · rw [if_neg (by simp [hc])] at h
      split at h
      · split at h
        · exact hn _ _ _ h
        · exact hn _ _ _ h
      · by_cases hl : span cLower r = r.length
        · rw [if_pos hl] at h
          split at h <;> cases h
        · rw [if_neg hl] at h
          split at h
          · split at h
            · cases h; simp
            · cases h
          · cases h
    · rw [if_pos hc] at h; cases h

theorem isB_kept {T e : TypeId} {B k b : Nat} {bs : List Value} {w w' : World} (h : Lib.IsBuilder T e B k bs w) (hg : w.grownBy w' (some b)) (hb : b < B) : Lib.IsBuilder T e B k bs w' := by
  have key : ∀ p, Lib.BuilderAt T e B k p bs w → Lib.BuilderAt T e B k p bs w' := fun p h => by
    have hlt := h.lt
    obtain ⟨h1, v, h2, h3, h4⟩ := h
    refine ⟨h1, v, (hg.block k hlt (by simp; omega)).trans h2, World.ownsRow.kept h3 hg ?_, h4⟩
    cases hv : v.ownBlock with
    | none => exact .inl rfl
    | some x => right; have := (World.ownsRow.lt h3 x hv).1; simp; omega
  rcases h with h | h
  · exact .inl (key _ h)
  · exact .inr (key _ h)

theorem byteCells_snoc (l : Bs) (c : UInt8) : Lib.byteCells (l ++ [c]) = Lib.byteCells l ++ [.int .u8 c.toNat] := by simp [Lib.byteCells]
theorem byteCells_app (l : Bs) (t : Bs) : Lib.byteCells (l ++ t) = Lib.byteCells l ++ Lib.strCells (bs t) := by
  simp [Lib.byteCells, Lib.strCells, bs]

theorem Rd.belowB {w w' : World} {b B : Nat} {s : S} {l : Bs} {ov : Value} (h : Rd w b s l ov) (hb : Below B w w') (hlt : b < B) : Rd w' b s l ov := ⟨h.box.below hb hlt, h.suf⟩

theorem grown_below {w x w' : World} {B : Nat} {row : Option Nat} (h : w.grownBy x row) (hb : Below B x w') (hB : w.heap.size ≤ B) : w.grownBy w' row :=
  ⟨hb.os.trans h.os, hb.tape.trans h.tape, hb.output.trans h.output, Nat.le_trans h.size hb.size, fun k hk hne => (hb.block k (by omega)).trans (h.block k hk hne)⟩

theorem refSpec_bad {s : Bs} {e : Int} (h : refSpec s = .bad e) : e = 12 ∨ e = 13 := by
  have hn : ∀ hex a d, numRef hex a d = .bad e → e = 12 ∨ e = 13 := by
    intro hex a d h
    unfold numRef at h
    by_cases h1 : 8 < span (isDig hex) d
    · rw [if_pos h1] at h; cases h; exact .inl rfl
    · rw [if_neg h1] at h
      by_cases h2 : span (isDig hex) d = d.length
      · rw [if_pos h2] at h; cases h; exact .inr rfl
      · rw [if_neg h2] at h
        by_cases h3 : span (isDig hex) d = 0 ∨ d[span (isDig hex) d]? ≠ some 59
        · rw [if_pos h3] at h; cases h; exact .inl rfl
        · rw [if_neg h3] at h
          split at h
          · cases h
          · cases h; exact .inl rfl
  cases s with
  | nil => cases h; exact .inr rfl
  | cons c r =>
    simp only [refSpec] at h
    by_cases hc : c = 38
    · rw [if_neg (by simp [hc])] at h
      split at h
      · split at h
        · exact hn _ _ _ h
        · exact hn _ _ _ h
      · by_cases hl : span cLower r = r.length
        · rw [if_pos hl] at h
          split at h
          · cases h; exact .inr rfl
          · cases h; exact .inl rfl
        · rw [if_neg hl] at h
          split at h
          · split at h
            · cases h
            · cases h; exact .inl rfl
          · cases h; exact .inl rfl
    · rw [if_pos hc] at h; cases h; exact .inl rfl

/-- What the loop over letters has done so far. -/
structure Lets (w wr : World) (b : Nat) (s : S) (ov : Value) (stop : UInt8) (l l' acc : Bs) : Prop where
  rd : Rd wr b s l' ov
  grown : w.grownBy wr (some b)
  own : Lib.IsBuilder 87 5 w.heap.size w.heap.size (Lib.byteCells acc) wr
  spec : letters stop l = (letters stop l').map (acc ++ ·)
  len : acc.length + 4 * l'.length ≤ 4 * l.length

theorem Lets.drewN {w wr : World} {b : Nat} {s : S} {ov : Value} {stop : UInt8} {l l' acc : Bs} (h : Lets w wr b s ov stop l l' acc) (n : Nat) : Lets w (wr.drewN n) b s ov stop l l' acc :=
  ⟨h.rd.drewN n, h.grown.trans (grownN _ _ _), h.own, h.spec, h.len⟩

theorem map_map {α β γ : Type} (x : Res α) (f : α → β) (g : β → γ) : (x.map f).map g = x.map (fun a => g (f a)) := by cases x <;> rfl

theorem Lets.step {w wr w4 : World} {b : Nat} {s : S} {ov : Value} {stop : UInt8} {l l1 l2 acc acc' t : Bs} {v : Value} (h : Lets w wr b s ov stop l l1 acc) (hb : Below w.heap.size wr w4) (hlt : b < w.heap.size)
    (hown : Lib.IsBuilder 87 5 w.heap.size w.heap.size (Lib.byteCells acc') w4) (hsuf : l2 <:+ s.data.toList) (hv : v = .int .i64 (pos s l2 : Nat)) (hspec : letters stop l1 = (letters stop l2).map (t ++ ·)) (hacc : acc' = acc ++ t) (hlen : t.length + 4 * l2.length ≤ 4 * l1.length) :
    Lets w (w4.setCell ⟨b, 1, none⟩ v) b s ov stop l l2 acc' := by
  refine ⟨(h.rd.belowB hb hlt).move hsuf hv, (grown_below h.grown hb (Nat.le_refl _)).trans (setCell_grown _ b 1 _), isB_kept hown (setCell_grown _ b 1 _) hlt, ?_, ?_⟩
  · rw [h.spec, hspec, map_map]
    subst hacc
    cases letters stop l2 <;> simp [Res.map]
  · have := h.len
    subst hacc
    rw [List.length_append]; omega

theorem Lets.less {w wr w' : World} {b : Nat} {s : S} {ov : Value} {stop : UInt8} {l l1 l2 acc acc' : Bs} (h : Lets w wr b s ov stop l l1 acc) (h' : Lets w w' b s ov stop l l2 acc') (hlt : l2.length < l1.length) : s.size - (placeOf w' b).toNat < s.size - (placeOf wr b).toNat := by
  rw [h.rd.place, h'.rd.place]
  have := pos_add h.rd.suf
  have := pos_add h'.rd.suf
  omega

set_option maxRecDepth 100000 in
set_option maxHeartbeats 4000000 in
theorem letters_any (b : Nat) (s : S) (stop : UInt8) (l : Bs) (ov : Value) (w : World) (h : Rd w b s l ov) (hs : s.size ≤ 1000000) :
    Calls Try.prog 85 #[.pointer (some ⟨b, 0, none⟩), .int .u8 stop.toNat] w (Out (fun t => .string (bs t)) b s ov w (letters stop l)) := by
  have hlt0 := h.box.lt
  have hll : l.length ≤ 1000000 := by have := pos_add h.suf; omega
  have hI : Lets w (w.alloc (.cells #[.pointer none, .slice none 0 0] 87)) b s ov stop l l [] := by
    refine ⟨h.below ((Below.refl _ _).alloc (Nat.le_refl _) _), World.grownBy_alloc _ _ _, Lib.fresh_isBuilder _ _ _, ?_, by simp⟩
    cases letters stop l <;> simp [Res.map]
  have HI := Lib.hid hI
  clear hI h
  go_enter Try.func85, Try.ntmps85
  go_wp2
  go_loopw [] (fun wr => ∃ l' acc, Lets w wr b s ov stop l l' acc) (fun wr => s.size - (placeOf wr b).toNat)
  case atStart => exact ⟨l, [], HI.out⟩
  case round =>
    clear HI
    obtain ⟨l', acc, hL⟩ := hrel
    have HL := Lib.hid hL
    have c0 := hL.rd.c0
    have c1 := hL.rd.c1
    have f1 := hL.rd.f1
    have hlt := hL.rd.box.lt
    have HPL := Lib.hid hL.rd.place
    have hp := pos_add hL.rd.suf
    have hsz := hL.grown.size
    have hal : acc.length + 4 * l'.length ≤ 4000000 := by have := hL.len; omega
    cases l' with
    | nil =>
      have HN : Hid (∀ n, Calls Try.prog 53 #[.pointer (some ⟨b, 0, none⟩)] (wr.drewN n) fun e w'' => e = .returned (.bool true) ∧ ∃ m, w'' = wr.drewN m) := fun n => Qt.quiet (ends_any b s [] ov (wr.drewN n) (HL.out.rd.drewN n))
      have hp' : pos s [] ≤ s.size := by omega
      clear hp hL
      generalize hpp : pos s [] = p at *
      clear hpp
      go_wp2
      go_quiet ((go_at_call 53; exact HN.out _))
      go_wp2_with fail
      refine (Try.Builder_String_any w.heap.size w.heap.size acc _ (HL.out.drewN _).own hsz).mono ?_
      rintro e w' ⟨rfl, hb⟩
      go_wp2
      go_ret
      rw [HL.out.spec]
      refine ⟨by simp; rfl, ?_, ?_⟩
      · exact (HL.out.drewN _).rd.belowB hb hlt0
      · exact grown_below (HL.out.drewN nq).grown hb (Nat.le_refl _)
    | cons c r =>
      have HN : Hid (∀ n, Calls Try.prog 53 #[.pointer (some ⟨b, 0, none⟩)] (wr.drewN n) fun e w'' => e = .returned (.bool false) ∧ ∃ m, w'' = wr.drewN m) := fun n => Qt.quiet (ends_any b s (c :: r) ov (wr.drewN n) (HL.out.rd.drewN n))
      have HRT := Lib.hid (fun n => rest_any b s (c :: r) ov (wr.drewN n) (HL.out.rd.drewN n))
      have HRF : Hid (∀ w, Calls Try.prog 118 #[.string (bs (c :: r))] w fun e w' => e = .returned (refTuple (refSpec (c :: r))) ∧ Below w.heap.size w w') := fun w => by
        have := ref_any (bs (c :: r)) w (by rw [bs_size]; omega)
        rw [bs_data] at this; exact this
      have hpl := pos_lt hL.rd.suf
      have hg := pos_get hL.rd.suf hpl
      have HC := Lib.hid (pos_cons hL.rd.suf)
      have HS := Lib.hid (suf_tail hL.rd.suf)
      have HF := Lib.hid hL.rd.suf
      have HAD := Lib.hid hp
      clear hp hL
      generalize hpp : pos s (c :: r) = p at *
      have HPP := Lib.hid hpp
      clear hpp
      have hpi : (p : Int) < (s.size : Int) := by omega
      have hpb : (p : Int) + 1 ≤ 1000000 := by omega
      have HG := Lib.hid hg
      by_cases hst : c = stop
      · have e1 : (((s[p].toNat : Nat) : Int) != ((stop.toNat : Nat) : Int)) = false := by rw [hg, hst]; simp
        have HST := Lib.hid hst
        clear hst hg
        go_wp2
        go_quiet ((go_at_call 53; exact HN.out _))
        go_wp2_with fail
        refine (Try.Builder_String_any w.heap.size w.heap.size acc _ (HL.out.drewN _).own hsz).mono ?_
        rintro e w' ⟨rfl, hb⟩
        go_wp2
        go_ret
        rw [HL.out.spec]
        have hO : letters stop (c :: r) = .ok [] (c :: r) := by rw [HST.out]; simp [letters, lettersGo]
        rw [hO]
        refine ⟨by simp; rfl, ?_, ?_⟩
        · exact (HL.out.drewN _).rd.belowB hb hlt0
        · exact grown_below (HL.out.drewN nq).grown hb (Nat.le_refl _)
      · have e1 : (((s[p].toNat : Nat) : Int) != ((stop.toNat : Nat) : Int)) = true := by
          rw [hg, bne_iff_ne]; intro e; exact hst (UInt8.toNat_inj.1 (by omega))
        have HST := Lib.hid hst
        clear hst
        by_cases h38 : c = 38
        · have e2 : (((s[p].toNat : Nat) : Int) == 38) = true := by rw [hg, h38]; decide
          have H38 := Lib.hid h38
          clear h38 hg
          cases hrf : refSpec (c :: r) with
          | bad x =>
            have hx := refSpec_bad hrf
            have e3 : (x != 0) = true := by rw [bne_iff_ne]; omega
            have HX := Lib.hid hrf
            rw [hrf] at HRF
            clear hrf hx
            simp only [refTuple] at HRF
            go_wp2
            go_quiet ((go_at_call 53; exact HN.out _))
            go_wp2
            go_quiet (fail)
            go_wp2_with fail
            refine (HRT.out _).mono ?_
            rintro e w' ⟨rfl, n2, rfl⟩
            go_wp2_with fail
            refine (HRF.out _).mono ?_
            rintro e w3 ⟨rfl, hb3⟩
            have hR3 := (HL.out.rd.drewN _).below hb3
            have c1 := hR3.c1
            rw [HPP.out] at c1
            have hlt3 := hR3.box.lt
            clear hR3
            go_wp2_with fail
            refine (fail_any x p _).mono ?_
            rintro e w' ⟨rfl, rfl⟩
            go_wp2
            rw [HL.out.spec]
            have hO : letters stop (c :: r) = .bad x (c :: r) := by simp only [letters, lettersGo]; rw [if_neg HST.out, if_pos H38.out, HX.out]
            rw [hO]
            exact ⟨rfl, by rw [HPP.out], grown_below (HL.out.drewN _).grown hb3 HL.out.grown.size⟩
          | ok t n =>
            have HX := Lib.hid hrf
            rw [hrf] at HRF
            obtain ⟨hn1, hn2⟩ := refSpec_size hrf
            have htl := refSpec_len hrf
            have HN2 := Lib.hid hn2
            have hpn : (p : Int) + (n : Int) ≤ 1000000 := by have := HAD.out; omega
            clear hrf
            simp only [refTuple] at HRF
            go_wp2
            go_quiet ((go_at_call 53; exact HN.out _))
            go_wp2
            go_quiet (fail)
            go_wp2_with fail
            refine (HRT.out _).mono ?_
            rintro e w' ⟨rfl, n2, rfl⟩
            go_wp2_with fail
            refine (HRF.out _).mono ?_
            rintro e w3 ⟨rfl, hb3⟩
            have hb3' : Below w.heap.size wr w3 := (belowN (Below.refl w.heap.size wr) _).trans (hb3.mono hsz)
            have hown3 := isB_kept (HL.out.drewN _).own (grownOf hb3 (some b)) hlt0
            have hsz3 : w.heap.size ≤ w3.heap.size := Nat.le_trans hsz hb3.size
            clear hb3
            go_wp2_with fail
            refine (writeString_any w.heap.size w.heap.size (Lib.byteCells acc) (bs t) w3 hown3 (by rw [bs_size]; simp [Lib.byteCells]; omega) hsz3).mono ?_
            rintro e w4 ⟨rfl, hown4, hb4⟩
            have hb4' := hb3'.trans hb4
            have hR4 := HL.out.rd.belowB hb4' hlt0
            have c1 := hR4.c1
            have f1 := hR4.f1
            rw [HPP.out] at c1
            have hlt4 := hR4.box.lt
            have HB4 := Lib.hid hb4'
            have HW4 := Lib.hid hown4
            clear hR4 hb4 hb3' hown3 hown4 hb4'
            go_wp2
            have hsf : (c :: r).drop n <:+ s.data.toList := (List.drop_suffix _ _).trans HF.out
            have hpd : pos s ((c :: r).drop n) = p + n := by
              have h1 := pos_add hsf
              have h2 := HAD.out
              have h3 := HN2.out
              rw [List.length_drop] at h1
              omega
            have hnew : Lets w (w4.setCell ⟨b, 1, none⟩ (.int .i64 ((p : Int) + (n : Int)))) b s ov stop l ((c :: r).drop n) (acc ++ t) := by
              refine HL.out.step (t := t) HB4.out hlt0 (.inr (by rw [byteCells_app]; exact HW4.out)) hsf (by rw [hpd]; rfl) ?_ rfl ?_
              · simp only [letters, lettersGo]; rw [if_neg HST.out, if_pos H38.out, HX.out]
                simp only []
                rw [lettersGo_drop]
                obtain ⟨k, rfl⟩ : ∃ k, n = k + 1 := ⟨n - 1, by omega⟩
                rfl
              · have h3 := HN2.out
                rw [List.length_drop]; omega
            go_roundw
            case rel => exact ⟨_, _, hnew⟩
            case measure => exact HL.out.less hnew (by rw [List.length_drop]; simp only [List.length_cons]; omega)
        · have e2 : (((s[p].toNat : Nat) : Int) == 38) = false := by
            rw [hg, beq_eq_false_iff_ne]; intro e; exact h38 (UInt8.toNat_inj.1 (by simpa using (by omega : c.toNat = 38)))
          have H38 := Lib.hid h38
          clear h38
          by_cases h60 : c = 60
          · have e3 : (((s[p].toNat : Nat) : Int) == 60) = true := by rw [hg, h60]; decide
            have H60 := Lib.hid h60
            clear h60 hg
            go_wp2
            go_quiet ((go_at_call 53; exact HN.out _))
            go_wp2
            go_quiet (fail)
            go_wp2_with fail
            refine (fail_any 10 p _).mono ?_
            rintro e w' ⟨rfl, rfl⟩
            go_wp2
            rw [HL.out.spec]
            have hO : letters stop (c :: r) = .bad 10 (c :: r) := by simp only [letters, lettersGo]; rw [if_neg HST.out, if_neg H38.out, if_pos (.inl H60.out)]
            rw [hO]
            exact ⟨rfl, by rw [HPP.out], (HL.out.drewN _).grown⟩
          · have e3 : (((s[p].toNat : Nat) : Int) == 60) = false := by
              rw [hg, beq_eq_false_iff_ne]; intro e; exact h60 (UInt8.toNat_inj.1 (by simpa using (by omega : c.toNat = 60)))
            have H60 := Lib.hid h60
            clear h60 hg
            cases htx : cText c
            · have HT : Hid (∀ w, Calls Try.prog 115 #[.int .u8 s[p].toNat] w fun e w' => e = .returned (.bool false) ∧ w = w') := fun w => by
                have := isText_any s[p] w
                rw [show cText s[p] = false by rw [HG.out, htx]] at this; exact this
              have HTX := Lib.hid htx
              clear htx
              go_wp2
              go_quiet ((go_at_call 53; exact HN.out _))
              go_wp2
              go_quiet (fail)
              go_wp2_with fail
              refine (HT.out _).mono ?_
              rintro e w' ⟨rfl, rfl⟩
              go_wp2_with fail
              refine (fail_any 10 p _).mono ?_
              rintro e w' ⟨rfl, rfl⟩
              go_wp2
              rw [HL.out.spec]
              have hO : letters stop (c :: r) = .bad 10 (c :: r) := by simp only [letters, lettersGo]; rw [if_neg HST.out, if_neg H38.out, if_pos (.inr HTX.out)]
              rw [hO]
              exact ⟨rfl, by rw [HPP.out], (HL.out.drewN _).grown⟩
            · have HT : Hid (∀ w, Calls Try.prog 115 #[.int .u8 s[p].toNat] w fun e w' => e = .returned (.bool true) ∧ w = w') := fun w => by
                have := isText_any s[p] w
                rw [show cText s[p] = true by rw [HG.out, htx]] at this; exact this
              have HTX := Lib.hid htx
              clear htx
              go_wp2
              go_quiet ((go_at_call 53; exact HN.out _))
              go_wp2
              go_quiet (fail)
              go_wp2_with fail
              refine (HT.out _).mono ?_
              rintro e w' ⟨rfl, rfl⟩
              go_wp2_with fail
              refine (writeByte_any w.heap.size w.heap.size (Lib.byteCells acc) s[p].toNat _ (HL.out.drewN _).own (by simp [Lib.byteCells]; omega) hsz).mono ?_
              rintro e w4 ⟨rfl, hown4, hb4⟩
              have hb4' := (belowN (Below.refl w.heap.size wr) _).trans hb4
              have hR4 := HL.out.rd.belowB hb4' hlt0
              have c1 := hR4.c1
              have f1 := hR4.f1
              rw [HPP.out] at c1
              have hlt4 := hR4.box.lt
              have HB4 := Lib.hid hb4'
              have HW4 := Lib.hid hown4
              clear hR4 hb4 hown4 hb4'
              go_wp2
              have hnew : Lets w (w4.setCell ⟨b, 1, none⟩ (.int .i64 ((p : Int) + 1))) b s ov stop l r (acc ++ [c]) := by
                refine HL.out.step (t := [c]) HB4.out hlt0 (.inr (by have h := HW4.out; rw [HG.out] at h; rw [byteCells_snoc]; exact h)) HS.out (by rw [HC.out]; rfl) ?_ rfl ?_
                · simp only [letters, lettersGo]; rw [if_neg HST.out, if_neg H38.out, if_neg (by rintro (h | h); exact H60.out h; rw [HTX.out] at h; cases h)]; rfl
                · simp only [List.length_cons, List.length_nil]; omega
              go_roundw
              case rel => exact ⟨_, _, hnew⟩
              case measure => exact HL.out.less hnew (by simp)

end Go.Proofs.Ytpchljiiappmnaa
