/- The walk of the document's reader's letters; the conditions stand in the theorem. -/
import Derived.Test.YtpchljiiappmnaaK65
import Derived.Test.YtpchljiiappmnaaK36
namespace Go.Proofs.Ytpchljiiappmnaa
open Go Go.RowKit

/-- What the document's loop over letters has done so far. -/
structure RLets (w wr : World) (b : Nat) (s : S) (stop : UInt8) (l l' acc : Bs) : Prop where
  rd : RR wr b s l' 0 0
  grown : w.grownBy wr (some b)
  spec : letters stop l = (letters stop l').map (acc ++ ·)
  len : acc.length + 4 * l'.length ≤ 4 * l.length

theorem RLets.step {w wr w4 : World} {b : Nat} {s : S} {stop : UInt8} {l l1 l2 acc t : Bs} {v : Value} (h : RLets w wr b s stop l l1 acc) (hR : RR w4 b s l1 0 0) (hg : wr.grownBy w4 (some b))
    (hsuf : l2 <:+ s.data.toList) (hv : v = .int .i64 (pos s l2 : Nat)) (hspec : letters stop l1 = (letters stop l2).map (t ++ ·)) (hlen : t.length + 4 * l2.length ≤ 4 * l1.length) :
    RLets w (w4.setCell ⟨b, 1, none⟩ v) b s stop l l2 (acc ++ t) := by
  refine ⟨hR.move hsuf hv, (h.grown.trans hg).trans (setCell_grown _ b 1 _), ?_, ?_⟩
  · rw [h.spec, hspec, map_map]
    cases letters stop l2 <;> simp [Res.map]
  · have := h.len
    rw [List.length_append]; omega
theorem RLets.less {w wr w' : World} {b : Nat} {s : S} {stop : UInt8} {l l1 l2 acc acc' : Bs} (h : RLets w wr b s stop l l1 acc) (h' : RLets w w' b s stop l l2 acc') (hlt : l2.length < l1.length) : s.size - (placeOf w' b).toNat < s.size - (placeOf wr b).toNat := by
  rw [h.rd.place, h'.rd.place]
  have := pos_add h.rd.suf
  have := pos_add h'.rd.suf
  omega

set_option maxRecDepth 100000 in
set_option maxHeartbeats 8000000 in
theorem rletters_any (b : Nat) (s : S) (stop : UInt8) (l : Bs) (w : World) (h : RR w b s l 0 0) (hs : s.size ≤ 1000000) :
    Calls Try.prog 90 #[.pointer (some ⟨b, 0, none⟩), .int .u8 stop.toNat] w (ROut (fun t => .string (bs t)) (.string ⟨#[]⟩) b s w (letters stop l)) := by
  have hll : l.length ≤ 1000000 := by have := pos_add h.suf; omega
  have hI : RLets w w b s stop l l [] := ⟨h, World.grownBy.refl _ _, by cases letters stop l <;> simp [Res.map], by simp⟩
  have HI := Lib.hid hI
  clear hI h
  go_enter Try.func90, Try.ntmps90
  go_wp2
  go_loopw [5] (fun o wr => ∃ l' acc O, o = .string O ∧ Hid (O = bs acc) ∧ RLets w wr b s stop l l' acc) (fun _ wr => s.size - (placeOf wr b).toNat)
  case atStart => exact ⟨l, [], _, rfl, rfl, HI.out⟩
  case round =>
    clear HI
    obtain ⟨l', acc, O, rfl, HO, hL⟩ := hrel
    have HL := Lib.hid hL
    have c0 := hL.rd.c0
    have c1 := hL.rd.c1
    have f1 := hL.rd.box.free 1
    have hlt := hL.rd.box.lt
    have HPL := Lib.hid hL.rd.place
    have hp := pos_add hL.rd.suf
    have hOs : O.size ≤ 4000000 := by have := hL.len; rw [HO.out, bs_size]; omega
    cases l' with
    | nil =>
      have hp' : pos s [] = s.size := pos_nil s
      rw [hp'] at c1
      clear hp hL hp'
      go_wp2
      go_quiet (fail)
      go_wp2
      go_ret
      rw [HL.out.spec]
      exact ⟨by rw [HO.out]; simp, HL.out.rd.drewN nq, HL.out.grown.trans (grownN wr nq _)⟩
    | cons c r =>
      have hpl := pos_lt hL.rd.suf
      have hg := pos_get hL.rd.suf hpl
      have HC := Lib.hid (pos_cons hL.rd.suf)
      have HS := Lib.hid (suf_tail hL.rd.suf)
      have HF := Lib.hid hL.rd.suf
      have HAD := Lib.hid hp
      have HX := Lib.hid (pos_extract hL.rd.suf)
      have hE1 := ext_one s (pos s (c :: r)) hpl
      clear hp hL
      generalize hpp : pos s (c :: r) = p at *
      have HPP := Lib.hid hpp
      clear hpp
      have hpi : (p : Int) < (s.size : Int) := by omega
      have hpb : (p : Int) + 1 ≤ 1000000 := by omega
      have d1 : decide (p < s.size) = true := by rw [decide_eq_true_iff]; exact hpl
      have w1 : IntKind.i64.wrap ((p : Int) + 1) = (p : Int) + 1 := IntWalk.i64_in _ (by omega)
      have HG := Lib.hid hg
      have HE1 : Hid (s.extract p (p + 1) = bs [c]) := by show _ = _; rw [hE1, hg]
      have hX1 : (s.extract p (p + 1)).size = 1 := by rw [HE1.out, bs_size]; rfl
      clear hE1
      by_cases hst : c = stop
      · have e1 : (((s[p].toNat : Nat) : Int) != ((stop.toNat : Nat) : Int)) = false := by rw [hg, hst]; simp
        have HST := Lib.hid hst
        clear hst hg
        go_wp2
        go_quiet (fail)
        go_wp2
        go_ret
        rw [HL.out.spec]
        have hO : letters stop (c :: r) = .ok [] (c :: r) := by rw [HST.out]; simp [letters, lettersGo]
        rw [hO]
        exact ⟨by rw [HO.out]; simp, HL.out.rd.drewN nq, HL.out.grown.trans (grownN wr nq _)⟩
      · have e1 : (((s[p].toNat : Nat) : Int) != ((stop.toNat : Nat) : Int)) = true := by
          rw [hg, bne_iff_ne]; intro e; exact hst (UInt8.toNat_inj.1 (by omega))
        have HST := Lib.hid hst
        clear hst
        by_cases h38 : c = 38
        · have e2 : (((s[p].toNat : Nat) : Int) == 38) = true := by rw [hg, h38]; decide
          have H38 := Lib.hid h38
          clear h38 hg
          have HRF : Hid (∀ w, Calls Try.prog 121 #[.string (s.extract p s.size)] w fun e w' => e = .returned (docTuple (refSpec (c :: r))) ∧ Below w.heap.size w w') := fun w => by
            have := refDoc_any (bs (c :: r)) w (by rw [bs_size]; have := HAD.out; simp only [List.length_cons] at this ⊢; omega)
            rw [bs_data, refDoc_eq] at this
            rw [HX.out]; exact this
          have hpi2 : (p : Int) ≤ (s.size : Int) := by omega
          cases hrf : refSpec (c :: r) with
          | bad x =>
            have HXX := Lib.hid hrf
            rw [hrf] at HRF
            have hx := refSpec_bad hrf
            clear hrf
            have hO : Hid (letters stop (c :: r) = .bad x (c :: r)) := by
              show _ = _
              simp only [letters, lettersGo]; rw [if_neg HST.out, if_pos H38.out, HXX.out]
            rcases hx with rfl | rfl
            all_goals
              simp only [docTuple, Int.reduceEq, reduceIte] at HRF
              go_wp2
              go_quiet (fail)
              go_wp2
              go_quiet (fail)
              go_wp2
              refine wp_world ?_
              intro W0 hW0
              have hR0 : RR W0 b s (c :: r) 0 0 := by rw [hW0]; exact HL.out.rd.drewN _
              have hG0 : Hid (wr.grownBy W0 (some b)) := by rw [hW0]; exact grownN wr _ _
              clear hW0 c0 c1 f1 hlt
              have c0 := hR0.c0
              have c1 := hR0.c1
              rw [HPP.out] at c1
              have hlt := hR0.box.lt
              have HR0 := Lib.hid hR0
              clear hR0
              have hLL := @Later.cells W0
              refine region_later (by kernel_rfl) (by kernel_rfl) ?_
              repeat (go_big_quiet_step ((go_at_call 121; exact Later.call (HRF.out _))))
              refine wpQuiet_nil ?_
              rintro _ ⟨nx, rfl⟩
              have hR1 := HR0.out.below nx.below
              have hG1 : Hid (wr.grownBy nx.at_ (some b)) := hG0.out.trans (grownOf nx.below _)
              clear hLL c0 c1 hlt
              generalize nx.at_ = W1 at *
              clear nx
              have c1 := hR1.c1
              rw [HPP.out] at c1
              have hlt := hR1.box.lt
              have HFL : Hid (∀ y, Calls Try.prog 120 #[.pointer (some ⟨b, 0, none⟩), .int .i64 y, .int .i64 p] W1 (RGo (.tuple #[]) b s (c :: r) y p W1)) := fun y => rfail_go b s (c :: r) 0 y p W1 hR1
              clear hR1
              go_wp2_with fail
              refine (HFL.out _).mono ?_
              rintro e w' ⟨rfl, hR, hG⟩
              have HR := Lib.hid hR
              have HGG := Lib.hid hG
              clear hR hG c1
              go_wp2
              go_ret
              rw [HL.out.spec, hO.out]
              exact ⟨c :: r, rfl, by rw [HPP.out]; exact HR.out, HL.out.grown.trans (hG1.out.trans HGG.out)⟩
          | ok t n =>
            have HXX := Lib.hid hrf
            rw [hrf] at HRF
            obtain ⟨hn1, hn2⟩ := refSpec_size hrf
            have htl := refSpec_len hrf
            have HN2 := Lib.hid hn2
            have hpn : (p : Int) + (n : Int) ≤ 1000000 := by have := HAD.out; omega
            have hts : (bs t).size ≤ 4 := by rw [bs_size]; exact htl
            clear hrf
            simp only [docTuple] at HRF
            obtain ⟨T, hT⟩ : ∃ T, T = bs t := ⟨_, rfl⟩
            rw [← hT] at HRF hts
            have HT := Lib.hid hT
            clear hT
            have w2 : IntKind.i64.wrap ((p : Int) + (n : Int)) = (p : Int) + (n : Int) := IntWalk.i64_in _ (by omega)
            go_wp2
            go_quiet (fail)
            go_wp2
            go_quiet (fail)
            go_wp2
            refine wp_world ?_
            intro W0 hW0
            have hR0 : RR W0 b s (c :: r) 0 0 := by rw [hW0]; exact HL.out.rd.drewN _
            have hG0 : Hid (wr.grownBy W0 (some b)) := by rw [hW0]; exact grownN wr _ _
            clear hW0 c0 c1 f1 hlt
            have c0 := hR0.c0
            have c1 := hR0.c1
            rw [HPP.out] at c1
            have hlt := hR0.box.lt
            have HR0 := Lib.hid hR0
            clear hR0
            have hLL := @Later.cells W0
            refine region_later (by kernel_rfl) (by kernel_rfl) ?_
            repeat (go_big_quiet_step ((go_at_call 121; exact Later.call (HRF.out _))))
            refine wpQuiet_nil ?_
            rintro _ ⟨nx, rfl⟩
            have hR1 := HR0.out.below nx.below
            have hG1 : Hid (wr.grownBy nx.at_ (some b)) := hG0.out.trans (grownOf nx.below _)
            clear hLL c0 c1 hlt
            generalize nx.at_ = W1 at *
            clear nx
            have c1 := hR1.c1
            rw [HPP.out] at c1
            have f1 := hR1.box.free 1
            have hlt := hR1.box.lt
            have HR1 := Lib.hid hR1
            clear hR1
            have hsum : ¬ 9223372036854775807 < O.size + T.size := by omega
            go_wp2
            have hsf : (c :: r).drop n <:+ s.data.toList := (List.drop_suffix _ _).trans HF.out
            have hpd : pos s ((c :: r).drop n) = p + n := by
              have h1 := pos_add hsf
              have h2 := HAD.out
              have h3 := HN2.out
              rw [List.length_drop] at h1
              omega
            have hnew : RLets w (W1.setCell ⟨b, 1, none⟩ (.int .i64 ((p : Int) + (n : Int)))) b s stop l ((c :: r).drop n) (acc ++ t) := by
              refine HL.out.step HR1.out hG1.out hsf (by rw [hpd]; rfl) ?_ ?_
              · simp only [letters, lettersGo]; rw [if_neg HST.out, if_pos H38.out, HXX.out]
                simp only []
                rw [lettersGo_drop]
                obtain ⟨k, rfl⟩ : ∃ k, n = k + 1 := ⟨n - 1, by omega⟩
                rfl
              · have h3 := HN2.out
                rw [List.length_drop]; omega
            go_roundw
            case rel => exact ⟨_, _, _, rfl, by show _ = _; rw [HO.out, HT.out, bs_append], hnew⟩
            case measure => exact HL.out.less hnew (by rw [List.length_drop]; simp only [List.length_cons]; omega)
        · have e2 : (((s[p].toNat : Nat) : Int) == 38) = false := by
            rw [hg, beq_eq_false_iff_ne]; intro e; exact h38 (UInt8.toNat_inj.1 (by simpa using (by omega : c.toNat = 38)))
          have H38 := Lib.hid h38
          clear h38
          have HFL : Hid (∀ (W : World), RR W b s (c :: r) 0 0 → Calls Try.prog 120 #[.pointer (some ⟨b, 0, none⟩), .int .i64 10, .int .i64 p] W (RGo (.tuple #[]) b s (c :: r) 10 p W)) := fun W hW => rfail_go b s (c :: r) 0 10 p W hW
          by_cases h60 : c = 60 ∨ cText c = false
          · have hO : Hid (letters stop (c :: r) = .bad 10 (c :: r)) := by
              show _ = _
              simp only [letters, lettersGo]; rw [if_neg HST.out, if_neg H38.out, if_pos h60]
            by_cases h6 : c = 60
            · have e3 : (((s[p].toNat : Nat) : Int) == 60) = true := by rw [hg, h6]; decide
              clear h60 h6 hg
              go_wp2
              go_quiet (fail)
              go_wp2
              go_quiet (fail)
              go_wp2_with fail
              refine (HFL.out _ (HL.out.rd.drewN _)).mono ?_
              rintro e w' ⟨rfl, hR, hG⟩
              go_wp2
              go_ret
              rw [HL.out.spec, hO.out]
              exact ⟨c :: r, rfl, by rw [HPP.out]; exact hR, HL.out.grown.trans ((grownN wr _ _).trans hG)⟩
            · have htx : cText c = false := by rcases h60 with h | h; exact absurd h h6; exact h
              have e3 : (((s[p].toNat : Nat) : Int) == 60) = false := by
                rw [hg, beq_eq_false_iff_ne]; intro e; exact h6 (UInt8.toNat_inj.1 (by simpa using (by omega : c.toNat = 60)))
              have HT : Hid (∀ w, Calls Try.prog 26 #[.int .u8 s[p].toNat, .int .i64 16] w fun e w' => e = .returned (.bool false) ∧ w = w') := fun w => by
                have := is16_any s[p] w
                rw [show cText s[p] = false by rw [HG.out, htx]] at this; exact this
              clear h60 h6 hg htx
              go_wp2
              go_quiet (fail)
              go_wp2
              go_quiet (fail)
              go_wp2_with fail
              refine (HT.out _).mono ?_
              rintro e w' ⟨rfl, rfl⟩
              go_wp2_with fail
              refine (HFL.out _ (HL.out.rd.drewN _)).mono ?_
              rintro e w' ⟨rfl, hR, hG⟩
              go_wp2
              go_ret
              rw [HL.out.spec, hO.out]
              exact ⟨c :: r, rfl, by rw [HPP.out]; exact hR, HL.out.grown.trans ((grownN wr _ _).trans hG)⟩
          · have h6 : ¬ c = 60 := fun h => h60 (.inl h)
            have htx : cText c = true := by cases h : cText c; exact absurd (.inr h) h60; rfl
            have H60 := Lib.hid h60
            have e3 : (((s[p].toNat : Nat) : Int) == 60) = false := by
              rw [hg, beq_eq_false_iff_ne]; intro e; exact h6 (UInt8.toNat_inj.1 (by simpa using (by omega : c.toNat = 60)))
            have HT : Hid (∀ w, Calls Try.prog 26 #[.int .u8 s[p].toNat, .int .i64 16] w fun e w' => e = .returned (.bool true) ∧ w = w') := fun w => by
              have := is16_any s[p] w
              rw [show cText s[p] = true by rw [HG.out, htx]] at this; exact this
            clear h60 h6 hg htx
            have hpi2 : (p : Int) ≤ (s.size : Int) := by omega
            have hpi3 : (p : Int) + 1 ≤ (s.size : Int) := by omega
            have hsum : ¬ 9223372036854775807 < O.size + 1 := by omega
            go_wp2
            go_quiet (fail)
            go_wp2
            go_quiet (fail)
            go_wp2_with fail
            refine (HT.out _).mono ?_
            rintro e w' ⟨rfl, rfl⟩
            go_wp2
            go_quiet (fail)
            go_upto_region 18 with fail
            refine wp_world ?_
            intro W9 hW9
            have hR9 : RR W9 b s (c :: r) 0 0 := by rw [hW9]; exact (HL.out.rd.drewN _).drewN _
            have hG9 : Hid (wr.grownBy W9 (some b)) := by rw [hW9]; exact (grownN wr _ _).trans (grownN _ _ _)
            clear hW9 c0 c1 f1 hlt
            have c1 := hR9.c1
            rw [HPP.out] at c1
            have f1 := hR9.box.free 1
            have hlt := hR9.box.lt
            have HR9 := Lib.hid hR9
            clear hR9
            go_wp2
            have hnew : RLets w (W9.setCell ⟨b, 1, none⟩ (.int .i64 ((p : Int) + 1))) b s stop l r (acc ++ [c]) := by
              refine HL.out.step HR9.out hG9.out HS.out (by rw [HC.out]; rfl) ?_ ?_
              · simp only [letters, lettersGo]; rw [if_neg HST.out, if_neg H38.out, if_neg H60.out]; rfl
              · simp only [List.length_cons, List.length_nil]; omega
            go_roundw
            case rel => exact ⟨_, _, _, rfl, by show _ = _; rw [HO.out, HE1.out, bs_append], hnew⟩
            case measure => exact HL.out.less hnew (by simp)

end Go.Proofs.Ytpchljiiappmnaa
