/- The walks of slices.symMergeCmpFunc (all sizes), slices.stableCmpFunc, slices.SortStableFunc, version.Sort at texts; the conditions stand in the theorems. -/
import Derived.Test.YtecffghcpknmjaaDoorJO05
import Derived.Test.YtecffghcpknmjaaDoorShelf
import Derived.Test.YtecffghcpknmjaaDoorJO01
import Derived.Test.YtecffghcpknmjaaDoorJO04

namespace Go.Proofs.YtecffghcpknmjaaDoor
open Go Go.RowKit

theorem sym_any {B g cap N : Nat} {w0 : World} {cf : S → S → Int} (hC : CmpOk cf) (hW : Weak (ltF cf)) (hN : N ≤ 1000000) : ∀ k, SymOk cf B g cap N w0 k
  | 0 => fun P U V Q a m b w hk hu _ => absurd (List.eq_nil_of_length_eq_zero (by omega)) hu
  | k + 1 => fun P U V Q a m b w hk hu hv ha hm hb hsu hsv hU hV h => by
    by_cases h1 : U.length = 1
    · obtain ⟨x, rfl⟩ := List.length_eq_one_iff.1 h1
      exact symLeft_any hC hW P x V Q hN ha hm hb (hsu x List.mem_cons_self) hsv hV w (by simpa using h)
    · by_cases h2 : V.length = 1
      · obtain ⟨x, rfl⟩ := List.length_eq_one_iff.1 h2
        exact symRight_any hC hW P U x Q hN ha hm hb h1 (hsv x List.mem_cons_self) hsu hU w (by simpa using h)
      · have a1 := List.length_pos_iff.2 hu
        have a2 := List.length_pos_iff.2 hv
        refine symBoth_any hC hW P U V Q hN ha hm hb (by omega) (by omega) hsu hsv hU hV (fun P' U' V' Q' a' m' b' w' hk' => sym_any hC hW hN k P' U' V' Q' a' m' b' w' (by omega)) w h
theorem SameE.small {cf : S → S → Int} (hW : Weak (ltF cf)) {l m : List S} (h : SameE (ltF cf) l m) (hs : AllSmall l) : AllSmall m := fun x hx => hs x (h.symm.mem hW hx)
theorem AllSmall.left {a b : List S} (h : AllSmall (a ++ b)) : AllSmall a := fun x hx => h x (List.mem_append_left _ hx)
theorem AllSmall.right {a b : List S} (h : AllSmall (a ++ b)) : AllSmall b := fun x hx => h x (List.mem_append_right _ hx)
set_option maxRecDepth 100000 in
set_option maxHeartbeats 4000000 in
theorem stable_any {B g cap N : Nat} {w0 : World} {cf : S → S → Int} (hC : CmpOk cf) (hW : Weak (ltF cf)) (l0 : List S) (hN : N ≤ 1000000) (hs0 : AllSmall l0) (w : World) (h : SF B g cap N w0 w l0) :
    Calls Tryd.prog 85 #[.slice (some ⟨g, 0, none⟩) N cap, .int .i64 N, cmpF] w fun e w' => e = .returned (.tuple #[]) ∧ ∃ M, Srt (ltF cf) M ∧ SameE (ltF cf) l0 M ∧ SF B g cap N w0 w' M := by
  have HS := Lib.hid h
  have HS0 := Lib.hid hs0
  have HC := Lib.hid hC
  have HY : Hid (∀ k, SymOk cf B g cap N w0 k) := sym_any hC hW hN
  clear h hs0 hC
  go_enter Tryd.func85, Tryd.ntmps85
  unfold cmpF
  go_wp2
  go_loopw [7, 8] (fun va vb wr => ∃ (a : Nat) (P R : List S), va = .int .i64 a ∧ vb = .int .i64 ((a : Int) + 20) ∧ a ≤ N ∧ Hid (a = P.length) ∧ Hid (Full (ltF cf) 20 P) ∧ Hid (SameE (ltF cf) l0 (P ++ R)) ∧ Hid (SF B g cap N w0 wr (P ++ R))) (fun va _ _ => N - (intOf va).toNat)
  case atStart => exact ⟨0, [], l0, rfl, rfl, Nat.zero_le _, rfl, .nil, SameE.refl _, HS⟩
  case round =>
    clear HS
    obtain ⟨a, P, R, rfl, rfl, haN, HA, HF, HE, HR⟩ := hrel
    have HL : Hid (a + R.length = N) := by
      have h1 := HR.out.len; have h2 := HA.out; change _ = _ at h2
      rw [List.length_append] at h1; show _ = _; omega
    by_cases hb : a + 20 ≤ N
    · have d1 : (a : Int) + 20 ≤ (N : Int) := by omega
      obtain ⟨X, R', rfl, hX⟩ := cut_len (l := R) (k := 20) (by have := HL.out; change _ = _ at this; omega)
      have hc := insert_any (a := a) (b := a + 20) HC.out hW P X R' hN HA.out (by omega) (HE.out.small hW HS0.out).right.left wr HR.out
      rw [show ((a + 20 : Nat) : Int) = (a : Int) + 20 by omega] at hc
      have HX := Lib.hid hX
      have wa : IntKind.i64.wrap ((a : Int) + 20 + 20) = (a : Int) + 20 + 20 := IntWalk.i64_in _ (by omega)
      clear hX
      unfold cmpF at hc
      go_wp2_with fail
      refine hc.mono ?_
      rintro e w1 ⟨rfl, M, hm1, hm2, hm3⟩
      have HM1 := Lib.hid hm1
      have HM2 := Lib.hid hm2
      have HM3 := Lib.hid hm3
      clear hm1 hm2 hm3 hc HR
      go_wp2
      go_roundw
      case rel =>
        have hml : M.length = 20 := (HM2.out.perm hW).length_eq.symm.trans HX.out
        refine ⟨a + 20, P ++ M, R', by first | rfl | go_num, by first | rfl | go_num, hb, ?_, .snoc _ _ HF.out hml HM1.out, ?_, ?_⟩
        · show _ = _; rw [List.length_append, hml, ← show a = _ from HA.out]
        · refine SameE.trans HE.out ?_
          rw [List.append_assoc]
          exact (SameE.refl P).app (HM2.out.app (SameE.refl R'))
        · show SF _ _ _ _ _ _ _; have := HM3.out; simpa using this
      case measure => simp [intOf]; omega
    · have d1 : ¬ (a : Int) + 20 ≤ (N : Int) := by omega
      have hc := insert_any (a := a) (b := N) HC.out hW P R [] hN HA.out HL.out.symm (HE.out.small hW HS0.out).right wr (by have := HR.out; simpa using this)
      unfold cmpF at hc
      have HBL : Hid (N < a + 20) := by show _ < _; omega
      clear hb
      go_wp2_with fail
      refine hc.mono ?_
      rintro e w1 ⟨rfl, M, hm1, hm2, hm3⟩
      have HM3 : Hid (SF B g cap N w0 w1 (P ++ M)) := by show SF _ _ _ _ _ _ _; simpa using hm3
      have HCH : Hid (Chunks (ltF cf) 20 (P ++ M)) := HF.out.chunks (.last _ (by
        have h0 := (hm2.perm hW).length_eq
        have h1 := HL.out; have h2 := HBL.out
        change _ = _ at h1; change _ < _ at h2
        omega) hm1)
      have HE2 : Hid (SameE (ltF cf) l0 (P ++ M)) := SameE.trans HE.out ((SameE.refl P).app hm2)
      clear hm1 hm2 hm3 hc HR HE HF HA HL HBL haN
      generalize P ++ M = l1 at *
      clear d1
      go_wp2
      go_loopw [6] (fun vs wr => ∃ (s : Nat) (l : List S), vs = .int .i64 s ∧ 20 ≤ s ∧ s ≤ 2000000 ∧ Hid (Chunks (ltF cf) s l) ∧ Hid (SameE (ltF cf) l0 l) ∧ Hid (SF B g cap N w0 wr l)) (fun vs _ => N - (intOf vs).toNat)
      case atStart => exact ⟨20, l1, rfl, Nat.le_refl _, by omega, HCH, HE2, HM3⟩
      case round =>
        clear HCH HE2 HM3
        obtain ⟨s, l, rfl, hs, hsM, HCH, HE, HR⟩ := hrel
        by_cases hsN : s < N
        · have d1 : (s : Int) < (N : Int) := by omega
          have ws : IntKind.i64.wrap (2 * (s : Int)) = 2 * (s : Int) := IntWalk.i64_in _ (by omega)
          have ws2 : IntKind.i64.wrap ((s : Int) * 2) = (s : Int) * 2 := IntWalk.i64_in _ (by omega)
          go_wp2
          go_loopw [7, 8] (fun va vb wr => ∃ (a : Nat) (P R : List S), va = .int .i64 a ∧ vb = .int .i64 ((a : Int) + 2 * (s : Int)) ∧ a ≤ N ∧ Hid (a = P.length) ∧ Hid (Full (ltF cf) (2 * s) P) ∧ Hid (Chunks (ltF cf) s R) ∧ Hid (SameE (ltF cf) l0 (P ++ R)) ∧ Hid (SF B g cap N w0 wr (P ++ R))) (fun va _ _ => N - (intOf va).toNat)
          case atStart => exact ⟨0, [], l, rfl, by simp, Nat.zero_le _, rfl, .nil, HCH, HE, HR⟩
          case round =>
            clear HCH HE HR
            obtain ⟨a, P, R, rfl, rfl, haN, HA, HF, HCH, HE, HR⟩ := hrel
            have HL : Hid (a + R.length = N) := by
              have h1 := HR.out.len; have h2 := HA.out; change _ = _ at h2
              rw [List.length_append] at h1; show _ = _; omega
            have was : IntKind.i64.wrap ((a : Int) + (s : Int)) = (a : Int) + (s : Int) := IntWalk.i64_in _ (by omega)
            have wab : IntKind.i64.wrap ((a : Int) + 2 * (s : Int) + 2 * (s : Int)) = (a : Int) + 2 * (s : Int) + 2 * (s : Int) := IntWalk.i64_in _ (by omega)
            by_cases hb : a + 2 * s ≤ N
            · have d2 : (a : Int) + 2 * (s : Int) ≤ (N : Int) := by omega
              obtain ⟨X, R1, rfl, hX, hXs, hc1⟩ := HCH.out.first (by have := HL.out; change _ = _ at this; omega)
              obtain ⟨Y, R', rfl, hY, hYs, hc2⟩ := hc1.first (by have := HL.out; change _ = _ at this; rw [List.length_append] at this; omega)
              have hsm := HE.out.small hW HS0.out
              have hc := HY.out (s + s) P X Y R' a (a + s) (a + 2 * s) wr (by omega) (fun e => by rw [e] at hX; simp at hX; omega) (fun e => by rw [e] at hY; simp at hY; omega) HA.out (by omega) (by omega) hsm.right.left hsm.right.right.left hXs hYs HR.out
              rw [show ((a + s : Nat) : Int) = (a : Int) + (s : Int) by omega, show ((a + 2 * s : Nat) : Int) = (a : Int) + 2 * (s : Int) by omega] at hc
              have HC2 := Lib.hid hc2
              have HXY : Hid (X.length + Y.length = 2 * s) := by show _ = _; omega
              clear hX hXs hc1 hY hYs hc2 hsm HCH
              unfold cmpF at hc
              go_wp2_with fail
              refine hc.mono ?_
              rintro e w2 ⟨rfl, M, hm1, hm2, hm3⟩
              have HM1 := Lib.hid hm1
              have HM2 := Lib.hid hm2
              have HM3 := Lib.hid hm3
              clear hm1 hm2 hm3 hc HR
              go_wp2
              go_roundw
              case rel =>
                have hml : M.length = 2 * s := (HM2.out.perm hW).length_eq.symm.trans (by rw [List.length_append]; exact HXY.out)
                refine ⟨a + 2 * s, P ++ M, R', by first | rfl | go_num, by first | rfl | go_num, hb, ?_, .snoc _ _ HF.out hml HM1.out, HC2, ?_, ?_⟩
                · show _ = _; rw [List.length_append, hml, ← show a = _ from HA.out]
                · refine SameE.trans HE.out ?_
                  have := (SameE.refl (lt := ltF cf) P).app (HM2.out.app (SameE.refl R'))
                  simpa using this
                · show SF _ _ _ _ _ _ _; have := HM3.out; simpa using this
              case measure => simp [intOf]; omega
            · have d2 : ¬ (a : Int) + 2 * (s : Int) ≤ (N : Int) := by omega
              by_cases hm : a + s < N
              · have d3 : (a : Int) + (s : Int) < (N : Int) := by omega
                obtain ⟨X, Y, rfl, hX, hXs, hc1⟩ := HCH.out.first (by have := HL.out; change _ = _ at this; omega)
                have hXY : a + (X.length + Y.length) = N := by have := HL.out; change _ = _ at this; rw [List.length_append] at this; exact this
                have hYs := hc1.whole (by omega)
                have hsm := HE.out.small hW HS0.out
                have hc := HY.out (s + s) P X Y [] a (a + s) N wr (by omega) (fun e => by rw [e] at hX; simp at hX; omega) (fun e => by rw [e] at hXY; simp at hXY; omega) HA.out (by omega) (by omega) hsm.right.left hsm.right.right hXs hYs (by have := HR.out; simpa using this)
                rw [show ((a + s : Nat) : Int) = (a : Int) + (s : Int) by omega] at hc
                have HXY : Hid (X.length + Y.length ≤ 2 * s) := by show _ ≤ _; omega
                clear hX hXs hc1 hXY hYs hsm HCH
                unfold cmpF at hc
                go_wp2_with fail
                refine hc.mono ?_
                rintro e w2 ⟨rfl, M, hm1, hm2, hm3⟩
                have HM3 : Hid (SF B g cap N w0 w2 (P ++ M)) := by show SF _ _ _ _ _ _ _; simpa using hm3
                have HCH : Hid (Chunks (ltF cf) (2 * s) (P ++ M)) := HF.out.chunks (.last _ (by
                  have h0 := (hm2.perm hW).length_eq
                  rw [List.length_append] at h0
                  have h1 := HXY.out
                  change _ ≤ _ at h1
                  omega) hm1)
                have HE2 : Hid (SameE (ltF cf) l0 (P ++ M)) := SameE.trans HE.out ((SameE.refl P).app hm2)
                clear hm1 hm2 hm3 hc HR HE HF HA HL
                go_wp2
                go_roundw
                case rel => exact ⟨2 * s, P ++ M, by first | rfl | go_num | (congr 1; omega), by omega, by omega, HCH, HE2, HM3⟩
                case measure => simp [intOf]; omega
              · have d3 : ¬ (a : Int) + (s : Int) < (N : Int) := by omega
                have HCH2 : Hid (Chunks (ltF cf) (2 * s) (P ++ R)) := HF.out.chunks (.last _ (by have := HL.out; change _ = _ at this; omega) (HCH.out.whole (by have := HL.out; change _ = _ at this; omega)))
                clear HF HA HL HCH
                go_wp2
                go_roundw
                case rel => exact ⟨2 * s, P ++ R, by first | rfl | go_num | (congr 1; omega), by omega, by omega, HCH2, HE, HR⟩
                case measure => simp [intOf]; omega
        · have d1 : ¬ (s : Int) < (N : Int) := by omega
          go_wp2
          go_end0
          exact ⟨rfl, l, HCH.out.whole (by have := HR.out.len; omega), HE.out, HR.out⟩
theorem sortStable_any {B g cap N : Nat} {w0 : World} {cf : S → S → Int} (hC : CmpOk cf) (hW : Weak (ltF cf)) (l0 : List S) (hN : N ≤ 1000000) (hs0 : AllSmall l0) (w : World) (h : SF B g cap N w0 w l0) :
    Calls Tryd.prog 66 #[.slice (some ⟨g, 0, none⟩) N cap, cmpF] w fun e w' => e = .returned (.tuple #[]) ∧ ∃ M, Srt (ltF cf) M ∧ SameE (ltF cf) l0 M ∧ SF B g cap N w0 w' M := by
  have HT := Lib.hid (stable_any hC hW l0 hN hs0 w h)
  clear h hs0 hC
  unfold cmpF at *
  go_enter Tryd.func66, Tryd.ntmps66
  go_wp2_with fail
  refine HT.out.mono ?_
  rintro e w1 ⟨rfl, h1⟩
  go_wp2
  go_end0
  exact ⟨rfl, h1⟩

end Go.Proofs.YtecffghcpknmjaaDoor

/- version.Sort, and what it answers: the one stable order; the conditions stand in the theorems. -/

namespace Go.Proofs.YtecffghcpknmjaaDoor
open Go Go.RowKit

theorem cmpOk_sv : CmpOk cmpSV := fun a b W ha hb => compareV_any a b W ha hb
theorem ltF_sv : ltF cmpSV = ltSV := rfl
theorem strC_flat (l : List S) : l.flatMap strC = l.map Value.string := by
  induction l with
  | nil => rfl
  | cons x l ih => rw [List.flatMap_cons, ih]; rfl
set_option maxRecDepth 100000 in
theorem insert_nil (ao : Option Addr) (c : Nat) (w : World) : Calls Tryd.prog 97 #[.slice ao 0 c, .int .i64 0, .int .i64 0, cmpF] w fun e w' => e = .returned (.tuple #[]) ∧ w = w' := by
  unfold cmpF
  go_enter Tryd.func97, Tryd.ntmps97
  go_wp2
  refine wp_loop_rounds 1 ?_
  rw [rounds_succ]
  go_wp2
  go_end0
  exact ⟨rfl, rfl⟩
set_option maxRecDepth 100000 in
theorem stable_nil (ao : Option Addr) (c : Nat) (w : World) : Calls Tryd.prog 66 #[.slice ao 0 c, cmpF] w fun e w' => e = .returned (.tuple #[]) ∧ w = w' := by
  have hc : Calls Tryd.prog 85 #[.slice ao 0 c, .int .i64 0, cmpF] w fun e w' => e = .returned (.tuple #[]) ∧ w = w' := by
    have h1 := insert_nil ao c w
    unfold cmpF at *
    go_enter Tryd.func85, Tryd.ntmps85
    go_wp2
    refine wp_loop_rounds 1 ?_
    rw [rounds_succ]
    go_wp2_with fail
    refine h1.mono ?_
    rintro e w1 ⟨rfl, rfl⟩
    go_wp2
    refine wp_loop_rounds 1 ?_
    rw [rounds_succ]
    go_wp2
    go_end0
    exact ⟨rfl, rfl⟩
  unfold cmpF at *
  go_enter Tryd.func66, Tryd.ntmps66
  go_wp2_with fail
  refine hc.mono ?_
  rintro e w1 ⟨rfl, rfl⟩
  go_wp2
  go_end0
  exact ⟨rfl, rfl⟩
/-- slices.Clone of texts that a slice reads as. -/
theorem clone_any {w : World} {v : Value} {l : List S} (h : SliceOf 1 strC w v l) (hl : l.length ≤ 1000000) : Calls Tryd.prog 36 #[v] w fun e w' => ∃ v', e = .returned v' ∧ Owns w.heap.size 9 1 strC w' v' l ∧ Below w.heap.size w w' := by
  obtain ⟨ao, cap, rfl, h2, hm, h3, h4⟩ := h
  cases l with
  | nil =>
    cases ao with
    | none => exact (Tryd.slices_Clone_string_nil 0 cap w).mono fun e w' ⟨h1, h2⟩ => by subst h2; exact ⟨_, h1, Owns.nil, Below.refl _ _⟩
    | some a => exact (Tryd.slices_Clone_string_zero a cap w).mono fun e w' ⟨v', h1, h2, _, h4⟩ => ⟨v', h1, h2, h4⟩
  | cons x r =>
    obtain ⟨b, o, rfl, hb, hc⟩ := h4 0 x rfl
    refine (Tryd.slices_Clone_string b o (x :: r).length cap (x :: r) w (Nat.le_refl _) (by omega) fun j hj => ?_).mono fun e w' ⟨v', h1, h2, _, h4⟩ => ⟨v', h1, ?_, h4⟩
    · obtain ⟨b', o', e, _, hc'⟩ := h4 j (x :: r)[j] (List.getElem?_eq_getElem hj)
      cases e
      have := hc' 0 _ rfl
      rw [Nat.mul_one, Nat.add_zero] at this
      rw [this, List.getD_eq_getElem?_getD, List.getElem?_eq_getElem hj]; rfl
    · unfold Owns
      rw [List.take_length] at h2
      rw [strC_flat]; exact h2
set_option maxRecDepth 100000 in
theorem sort_any {w : World} {v : Value} {l : List S} (h : SliceOf 1 strC w v l) (hl : l.length ≤ 1000000) (hs : AllSmall l) : Calls Tryd.prog 37 #[v] w fun e w' => ∃ v' M, e = .returned v' ∧ Owns w.heap.size 9 1 strC w' v' M ∧ Srt ltSV M ∧ SameE ltSV l M ∧ Below w.heap.size w w' := by
  have HC := Lib.hid (clone_any h hl)
  have HS := Lib.hid hs
  clear h hs
  go_enter Tryd.func37, Tryd.ntmps37
  go_wp2_with fail
  refine HC.out.mono ?_
  rintro e w1 ⟨v', rfl, hO, hB⟩
  have HO := Lib.hid hO
  have HB := Lib.hid hB
  obtain ⟨ao, c, rfl⟩ := hO.shape
  clear hO hB HC
  by_cases h0 : l = []
  · subst h0
    have hc := stable_nil ao c w1
    unfold cmpF at hc
    go_wp2_with fail
    refine hc.mono ?_
    rintro e w2 ⟨rfl, rfl⟩
    go_wp2
    go_ret
    exact ⟨_, [], rfl, HO.out, srt_nil, SameE.refl _, HB.out⟩
  · obtain ⟨g, cap, hg⟩ : ∃ g cap, (Value.slice ao l.length c) = .slice (some ⟨g, 0, none⟩) l.length cap := by
      rcases HO.out.2 with ⟨e, h1⟩ | ⟨g, cap, cur, e, h1⟩
      · exact absurd (List.eq_nil_of_length_eq_zero h1) h0
      · exact ⟨g, cap, e⟩
    cases hg
    have HG := Lib.hid (HO.out.lt g rfl)
    have hc := sortStable_any (w0 := w1) cmpOk_sv ltSV_weak l hl HS.out w1 ⟨rfl, HO.out, World.grownBy.refl _ _⟩
    unfold cmpF at hc
    clear h0
    generalize hn : l.length = n at *
    have HN := Lib.hid hn
    clear hn
    go_wp2_with fail
    refine hc.mono ?_
    rintro e w2 ⟨rfl, M, h1, h2, h3⟩
    have H1 := Lib.hid h1
    have H2 := Lib.hid h2
    have H3 := Lib.hid h3
    clear h1 h2 h3 hc
    go_wp2
    go_ret
    have h3 := H3.out.own
    rw [H3.out.len] at h3
    refine ⟨_, M, rfl, ?_, H1.out, H2.out, ?_⟩
    · exact h3
    · exact HB.out.grown H3.out.grown HB.out.size (fun j hj => by cases hj; exact HG.out.1)

end Go.Proofs.YtecffghcpknmjaaDoor

/- The walks of meta's of, and of the document's Of; the conditions stand in the theorems. -/

namespace Go.Proofs.YtecffghcpknmjaaDoor
open Go Go.RowKit

theorem small_list : ∀ (l : List S), AllSmall l → ∃ zs : List SmallS, zs.map (·.1) = l
  | [], _ => ⟨[], rfl⟩
  | x :: l, h => by
    obtain ⟨zs, e⟩ := small_list l fun y hy => h y (List.mem_cons_of_mem _ hy)
    exact ⟨⟨x, h x List.mem_cons_self⟩ :: zs, by rw [List.map_cons, e]⟩
theorem releaseV_any {w : World} {v : Value} {l : List S} (h : SliceOf 1 strC w v l) (hl : l.length ≤ 1000000) (hs : AllSmall l) : Calls Tryd.prog 35 #[v] w fun e w' => e = .returned (.string (relV l)) ∧ Below w.heap.size w w' := by
  obtain ⟨zs, rfl⟩ := small_list l hs
  obtain ⟨ao, c, rfl⟩ := h.shape
  rw [List.length_map] at h hl ⊢
  exact release_any zs ao c w h hl
def lastV (l : List S) : S := l.getLastD ⟨#[]⟩
theorem lastV_at {l : List S} {n : Nat} (h : l.length = n + 1) : l[n]? = some (lastV l) := by
  unfold lastV
  rw [List.getLastD_eq_getLast?, List.getLast?_eq_getElem?, h]
  simp [h]
theorem size_meta : (Tryd.prog.info? 31).map (·.size) = some 5 := by kernel_rfl
theorem gr_belowV {B g : Nat} {w w' w1 : World} (h : Below B w w') (hg : w'.grownBy w1 (some g)) (hB : B ≤ g) (hs : B ≤ w.heap.size) : Below B w w1 := h.grown hg (Nat.le_trans hs h.size) (fun j hj => by cases hj; exact hB)
def metaZ : List Value := [.string ⟨#[]⟩, .string ⟨#[]⟩, .slice none 0 0, .string ⟨#[]⟩, .string ⟨#[]⟩]
set_option maxRecDepth 100000 in
set_option maxHeartbeats 4000000 in
theorem metaOf_any (d : Id) (l : List S) (v : Value) (w : World) (h : SliceOf 1 strC w v l) (hl : l.length ≤ 1000000) (hs : AllSmall l) (hne : l ≠ []) :
    Calls Tryd.prog 29 #[.agg (idC d).toArray, v] w fun e w' => e = .returned (metaAg ⟨d, l, lastV l, relV l⟩ v) ∧ Below w.heap.size w w' := by
  obtain ⟨ao, c, rfl⟩ := h.shape
  have hrel : ∀ W, Below w.heap.size w W → Calls Tryd.prog 35 #[.slice ao l.length c] W fun e w' => e = .returned (.string (relV l)) ∧ Below W.heap.size W w' := fun W hb => releaseV_any (h.below hb) hl hs
  obtain ⟨n, hn⟩ : ∃ n, l.length = n + 1 := ⟨l.length - 1, by have := List.length_pos_iff.2 hne; omega⟩
  have hat := lastV_at hn
  obtain ⟨b, o, hao, hbl, hc⟩ := h.at1 (k := n) (by omega)
  rw [(List.getElem?_eq_some_iff.1 hat).2] at hc
  cases hao
  have HR := Lib.hid hrel
  clear h hs hne hrel hat
  generalize lastV l = la at *
  generalize relV l = re at *
  rw [hn] at HR ⊢
  have w1 : IntKind.i64.wrap (n : Int) = (n : Int) := IntWalk.i64_in _ (by omega)
  have lt1 : (n : Int) < (n : Int) + 1 := by omega
  clear hn hl
  unfold idC metaAg metaC
  obtain ⟨dg, da⟩ := d
  go_enter Tryd.func29, Tryd.ntmps29
  go_upto_region 1 with fail
  refine wp_world ?_
  intro W hW
  have x1 : Box W w.heap.size [.string dg, .string da] := by rw [hW]; exact (Box.new w [.string dg, .string da] _ _ rfl).alloc _
  have y1 : Box W (w.heap.size + 1) metaZ := by rw [hW]; exact Box.new _ metaZ _ _ (by simp)
  have hb : Below w.heap.size w W := by rw [hW]; exact ((Below.refl _ w).alloc (Nat.le_refl _) _).alloc (by simp) _
  clear hW
  have c1 : W.cell? ⟨b, o + n, none⟩ = some (.string la) := (hb.cell (p := ⟨b, o + n, none⟩) hbl).trans hc
  have hbl2 := Nat.lt_of_lt_of_le hbl hb.size
  have HRR : Hid (∀ z : Later W, Calls Tryd.prog 35 #[.slice (some ⟨b, o, none⟩) (n + 1) c] z.at_ fun e w'' => e = .returned (.string re) ∧ ∃ u : Later W, w'' = u.at_) := fun z => Later.call (HR.out _ (hb.trans (z.below.mono hb.size)))
  have HY := Lib.hid y1
  have HB := Lib.hid hb
  have x0 := x1.cell 0 _ rfl
  have x1' := x1.cell 1 _ rfl
  have xl := x1.lt
  have hLL := @Later.cells W
  clear x1 y1 hb hc hbl HR
  refine region_later_tail 11 (by kernel_rfl) (by kernel_rfl) ?_
  simp only [List.take_succ_cons, List.take_zero, List.drop_succ_cons, List.drop_zero]
  repeat (go_big_quiet_step ((go_at_call 35; with_reducible exact HRR.out _)))
  refine wpQuiet_nil ?_
  rintro _ ⟨nx, rfl⟩
  have HYn := Lib.hid (HY.out.below nx.below HY.out.lt)
  have HBn := Lib.hid (HB.out.trans (nx.below.mono HB.out.size))
  clear hLL x0 x1' xl c1 hbl2 HRR HY HB
  generalize nx.at_ = wn at *
  refine wpList_store_box rfl 31 (.tmp 4) (.tmp 15) rfl (w.heap.size + 1) _ [.string dg, .string da, .slice (some ⟨b, o, none⟩) (n + 1) c, .string la, .string re] rfl rfl HYn.out rfl (by kernel_rfl) (by simp [Value.oneCell']) ?_
  intro W7 v7 hg7
  have HV7 := Lib.hid v7
  have HB7 := Lib.hid (gr_belowV HBn.out hg7 (by omega) (Nat.le_refl _))
  clear v7 hg7 HYn HBn
  go_wp2
  refine bodyPost_ret (v := .agg #[.string dg, .string da, .slice (some ⟨b, o, none⟩) (n + 1) c, .string la, .string re]) (results_cell_box rfl _ _ _ [.string dg, .string da, .slice (some ⟨b, o, none⟩) (n + 1) c, .string la, .string re] rfl HV7.out Tryd.underlying31 rfl (by kernel_rfl)) rfl ?_
  exact ⟨rfl, HB7.out⟩
theorem relV_snoc (l : List S) (x : S) : relV (l ++ [x]) = if snapV x.data.toList = true then relV l else x := by
  unfold relV
  rw [List.reverse_append]
  simp only [List.reverse_cons, List.reverse_nil, List.nil_append, List.singleton_append, List.find?_cons]
  cases snapV x.data.toList <;> simp
theorem take_snoc {l : List S} {k : Nat} (h : k < l.length) : l.take (k + 1) = l.take k ++ [l[k]] := by rw [List.take_add_one, List.getElem?_eq_getElem h]; rfl
theorem lastV_snoc (l : List S) (x : S) : lastV (l ++ [x]) = x := by simp [lastV]
set_option maxRecDepth 100000 in
set_option maxHeartbeats 4000000 in
theorem refMetaOf_of (HPT : RefPartsOk) (d : Id) (l : List S) (v : Value) (w : World) (h : SliceOf 1 strC w v l) (hl : l.length ≤ 1000000) (hs : AllSmall l) :
    Calls Tryd.prog 12 #[.agg (idC d).toArray, v] w fun e w' => e = .returned (metaAg ⟨d, l, lastV l, relV l⟩ v) ∧ Below w.heap.size w w' := by
  obtain ⟨ao, c, rfl⟩ := h.shape
  have HS := Lib.hid h
  have HSN : Hid (∀ (s : S) (W : World), s ∈ l → Calls Tryd.prog 20 #[.string s] W fun e w' => e = .returned (.bool (snapV s.data.toList)) ∧ Below W.heap.size W w') := fun s W hm => refIsSnapshot_of HPT s W (hs s hm)
  have HL := Lib.hid hl
  clear h hs hl HPT
  unfold idC
  obtain ⟨dg, da⟩ := d
  have HR : Hid (∀ x : S × S, metaAg ⟨⟨dg, da⟩, l, x.1, x.2⟩ (.slice ao l.length c) = .agg #[.string dg, .string da, .slice ao l.length c, .string x.1, .string x.2]) := fun _ => rfl
  rw [HR.out (lastV l, relV l)]
  simp only
  clear HR
  go_enter Tryd.func12, Tryd.ntmps12
  go_upto_region 1 with fail
  refine wp_world ?_
  intro W hW
  have x1 : Box W w.heap.size [.string dg, .string da] := by rw [hW]; exact (Box.new w [.string dg, .string da] _ _ rfl).alloc _
  have y1 : Box W (w.heap.size + 1) metaZ := by rw [hW]; exact Box.new _ metaZ _ _ (by simp)
  have hb : Below w.heap.size w W := by rw [hW]; exact ((Below.refl _ w).alloc (Nat.le_refl _) _).alloc (by simp) _
  have hsz : W.heap.size = w.heap.size + 2 := by rw [hW]; simp
  clear hW
  have HY := Lib.hid y1
  have HB := Lib.hid hb
  have HSZ := Lib.hid hsz
  have x0 := x1.cell 0 _ rfl
  have x1' := x1.cell 1 _ rfl
  have xl := x1.lt
  clear x1 y1 hb hsz
  go_upto_region 2 with fail
  refine wp_world ?_
  intro W2 hW2
  have z1 : Box W2 (w.heap.size + 2) [.string dg, .string da, .slice ao l.length c, .string ⟨#[]⟩, .string ⟨#[]⟩] := by rw [hW2]; exact Box.new W [.string dg, .string da, .slice ao l.length c, .string ⟨#[]⟩, .string ⟨#[]⟩] _ _ HSZ.out
  have hb2 : Below W.heap.size W W2 := by rw [hW2]; exact (Below.refl _ _).alloc (Nat.le_refl _) _
  have hH : W.heap.size = w.heap.size + 2 := HSZ.out
  clear hW2
  have HY2 := Lib.hid (HY.out.below hb2 HY.out.lt)
  have HB2 := Lib.hid (HB.out.trans (hb2.mono HB.out.size))
  have HZ := Lib.hid z1
  rw [hH]
  clear z1 hb2 hH x0 x1' xl HY HB HSZ
  go_wp2
  go_loopw [13] (fun i wr => ∃ k : Nat, i = .int .i64 k ∧ k ≤ l.length ∧ Hid (Box wr (w.heap.size + 2) [.string dg, .string da, .slice ao l.length c, .string (lastV (l.take k)), .string (relV (l.take k))]) ∧ Hid (Box wr (w.heap.size + 1) metaZ) ∧ Hid (Below w.heap.size w wr)) (fun i _ => l.length - (intOf i).toNat)
  case atStart => exact ⟨0, rfl, Nat.zero_le _, HZ, HY2, HB2⟩
  case round =>
    clear HZ HY2 HB2
    obtain ⟨k, rfl, hk, HZ, HY, HB⟩ := hrel
    by_cases hlt : k < l.length
    · obtain ⟨b, o, hao, hbl, hc⟩ := (HS.out.below HB.out).at1 hlt
      cases hao
      have d1 : (k : Int) < (l.length : Int) := by omega
      have wk : IntKind.i64.wrap ((k : Int) + 1) = (k : Int) + 1 := IntWalk.i64_in _ (by have := HL.out; omega)
      have HT := Lib.hid (take_snoc hlt)
      have HSX : Hid (∀ W, Calls Tryd.prog 20 #[.string l[k]] W fun e w' => e = .returned (.bool (snapV l[k].data.toList)) ∧ Below W.heap.size W w') := fun W => HSN.out _ W (List.getElem_mem hlt)
      have HRS := Lib.hid (relV_snoc (l.take k) l[k])
      generalize l[k] = x at *
      generalize snapV x.data.toList = q at *
      have z3 := HZ.out.cell 3 _ rfl
      have zf := HZ.out.free 3
      have zl := HZ.out.lt
      go_upto_region 6 with fail
      refine wp_world ?_
      intro W3 hW3
      have HZ3 : Hid (Box W3 (w.heap.size + 2) [.string dg, .string da, .slice (some ⟨b, o, none⟩) l.length c, .string x, .string (relV (l.take k))]) := by show Box _ _ _; rw [hW3]; exact HZ.out.setOne (o := 3) rfl (by simp)
      have hg3 : wr.grownBy W3 (some (w.heap.size + 2)) := by rw [hW3]; exact setCell_grown _ _ _ _
      have HY3 := Lib.hid (HY.out.grown hg3 (by simp))
      have HB3 := Lib.hid (gr_belowV HB.out hg3 (by omega) (Nat.le_refl _))
      clear hW3 hc z3 zf zl hbl hg3 HZ HY HB
      go_wp2_with fail
      refine (HSX.out _).mono ?_
      rintro e w4 ⟨rfl, hb4⟩
      have HZ4 := Lib.hid (HZ3.out.below hb4 HZ3.out.lt)
      have HY4 := Lib.hid (HY3.out.below hb4 HY3.out.lt)
      have HB4 := Lib.hid (HB3.out.trans (hb4.mono HB3.out.size))
      clear hb4 HZ3 HY3 HB3 HSX
      cases q with
      | true =>
        go_wp2
        go_roundw
        case rel => exact ⟨k + 1, by first | rfl | go_num, hlt, (by show Box _ _ _; rw [HT.out, lastV_snoc, HRS.out]; exact HZ4.out), HY4, HB4⟩
        case measure => simp [intOf]; omega
      | false =>
        have z4 := HZ4.out.cell 4 _ rfl
        have zf := HZ4.out.free 4
        have zl := HZ4.out.lt
        go_upto_region 8 with fail
        refine wp_world ?_
        intro W5 hW5
        have HZ5 : Hid (Box W5 (w.heap.size + 2) [.string dg, .string da, .slice (some ⟨b, o, none⟩) l.length c, .string x, .string x]) := by show Box _ _ _; rw [hW5]; exact HZ4.out.setOne (o := 4) rfl (by simp)
        have hg5 : w4.grownBy W5 (some (w.heap.size + 2)) := by rw [hW5]; exact setCell_grown _ _ _ _
        have HY5 := Lib.hid (HY4.out.grown hg5 (by simp))
        have HB5 := Lib.hid (gr_belowV HB4.out hg5 (by omega) (Nat.le_refl _))
        clear hW5 z4 zf zl hg5 HZ4 HY4 HB4
        go_wp2
        go_roundw
        case rel => exact ⟨k + 1, by first | rfl | go_num, hlt, (by show Box _ _ _; rw [HT.out, lastV_snoc, HRS.out]; exact HZ5.out), HY5, HB5⟩
        case measure => simp [intOf]; omega
    · obtain rfl : k = l.length := by omega
      have d1 : ¬ (l.length : Int) < (l.length : Int) := by omega
      rw [List.take_length] at HZ
      clear hlt
      obtain ⟨la, hla⟩ : ∃ x, lastV l = x := ⟨_, rfl⟩
      obtain ⟨re, hre⟩ : ∃ x, relV l = x := ⟨_, rfl⟩
      rw [hla, hre] at HZ
      have HLA := Lib.hid hla
      have HRE := Lib.hid hre
      clear hla hre
      go_wp2_with (first | ((with_reducible show wpList _ _ _ (Oper.mk _ (Op.load 31 (.tmp 5)) _ _ _ _ :: _) _ _); refine wpList_load_box rfl 31 (.tmp 5) rfl (w.heap.size + 2) [.string dg, .string da, .slice ao l.length c, .string la, .string re] rfl HZ.out Tryd.underlying31 rfl (by kernel_rfl) ?_) | ((with_reducible show wpList _ _ _ (Oper.mk none (Op.store 31 (.tmp 4) (.tmp 25)) _ _ _ _ :: _) _ _); refine wpList_store_box rfl 31 (.tmp 4) (.tmp 25) rfl (w.heap.size + 1) _ [.string dg, .string da, .slice ao l.length c, .string la, .string re] rfl rfl HY.out rfl (by kernel_rfl) (by simp [Value.oneCell']) ?_; intro W7 v7 hg7; have HV7 := Lib.hid v7; have HB7 := Lib.hid (gr_belowV HB.out hg7 (by omega) (Nat.le_refl _)); clear v7 hg7))
      refine bodyPost_ret (v := .agg #[.string dg, .string da, .slice ao l.length c, .string la, .string re]) (results_cell_box rfl _ _ _ [.string dg, .string da, .slice ao l.length c, .string la, .string re] rfl HV7.out Tryd.underlying31 rfl (by kernel_rfl)) rfl ?_
      exact ⟨by rw [HLA.out, HRE.out], HB7.out⟩

end Go.Proofs.YtecffghcpknmjaaDoor

/- The walks of meta.May and of the document's; the conditions stand in the theorems. -/

namespace Go.Proofs.YtecffghcpknmjaaDoor
open Go Go.RowKit

def memB (l : List S) (x : S) : Bool := l.any fun y => decide (y = x)
theorem memB_iff {l : List S} {x : S} : memB l x = true ↔ x ∈ l := by unfold memB; rw [List.any_eq_true]; simp
def stepM (l : List S) (k : Nat) (v : S) : Bool := verMay v && !memB (l.take k) v && !(decide (0 < k) && decide (0 < cmpSV (l.getD (k - 1) ⟨#[]⟩) v))
def rowM (l : List S) : Nat → Nat → Bool
  | 0, _ => true
  | n + 1, k => (match l[k]? with
    | none => true
    | some v => stepM l k v) && rowM l n (k + 1)
def mayM (m : MetaD) : Bool := isIdB m.id.group && isIdB m.id.artifact && !m.vers.isEmpty && decide (m.vers.length ≤ 1024) && rowM m.vers m.vers.length 0 && decide (m.latest = lastV m.vers) && decide (m.rel = relV m.vers)
theorem rowM_step {l : List S} {k : Nat} (h : k < l.length) : rowM l (l.length - k) k = (stepM l k l[k] && rowM l (l.length - (k + 1)) (k + 1)) := by
  rw [show l.length - k = (l.length - (k + 1)) + 1 by omega]
  conv => lhs; unfold rowM
  rw [List.getElem?_eq_getElem h]
theorem rowM_end (l : List S) : rowM l (l.length - l.length) l.length = true := by rw [Nat.sub_self]; rfl
/-- The sizes that a Meta's texts have. -/
structure MetaSm (m : MetaD) : Prop where
  g : m.id.group.size ≤ 9223372036854775807
  a : m.id.artifact.size ≤ 9223372036854775807
  n : m.vers.length ≤ 1000000
  v : AllSmall m.vers
theorem containsV_any {w : World} {b o c n : Nat} {l : List S} (x : S) (h : SliceOf 1 strC w (.slice (some ⟨b, o, none⟩) l.length c) l) (hn : n ≤ l.length) (hl : l.length ≤ 1000000) (c' : Nat) :
    Calls Tryd.prog 33 #[.slice (some ⟨b, o, none⟩) n c', .string x] w fun e w' => e = .returned (.bool (memB (l.take n) x)) ∧ w = w' :=
  (Tryd.slices_Contains_string b o n c' l x w hn (by omega) (cellsOf h)).mono fun e w' ⟨h1, h2⟩ => ⟨by
    rw [h1]
    congr 2
    rw [Bool.eq_iff_iff, Lib.containsS_iff, memB_iff], h2.symm⟩
attribute [local go_sem ↓] str_beqV in
set_option maxRecDepth 100000 in
set_option maxHeartbeats 4000000 in
theorem metaMay_any (m : MetaD) (v : Value) (w : World) (h : SliceOf 1 strC w v m.vers) (hsm : MetaSm m) :
    Calls Tryd.prog 13 #[metaAg m v] w fun e w' => e = .returned (.bool (mayM m)) ∧ Below w.heap.size w w' := by
  have HG := Lib.hid hsm.g
  have HA := Lib.hid hsm.a
  have HLN := Lib.hid hsm.n
  have HSMALL := Lib.hid hsm.v
  have HS := Lib.hid h
  obtain ⟨ao, c, rfl⟩ := h.shape
  have HM : Hid (mayM m = (isIdB m.id.group && isIdB m.id.artifact && !m.vers.isEmpty && decide (m.vers.length ≤ 1024) && rowM m.vers m.vers.length 0 && decide (m.latest = lastV m.vers) && decide (m.rel = relV m.vers))) := rfl
  clear h hsm
  obtain ⟨⟨mg, ma⟩, l, la, re⟩ := m
  simp only at HG HA HLN HSMALL HS HM
  obtain ⟨MM, hMM⟩ : ∃ x, mayM ⟨⟨mg, ma⟩, l, la, re⟩ = x := ⟨_, rfl⟩
  rw [hMM] at HM ⊢
  clear hMM
  unfold metaAg metaC
  go_enter Tryd.func13, Tryd.ntmps13
  go_upto_region 1 with fail
  refine wp_world ?_
  intro W hW
  have x1 : Box W w.heap.size [.string mg, .string ma, .slice ao l.length c, .string la, .string re] := by rw [hW]; exact Box.new w [.string mg, .string ma, .slice ao l.length c, .string la, .string re] _ _ rfl
  have hb : Below w.heap.size w W := by rw [hW]; exact (Below.refl _ w).alloc (Nat.le_refl _) _
  clear hW
  have HX := Lib.hid x1
  have HB := Lib.hid hb
  clear x1 hb
  have x0 := HX.out.cell 0 _ rfl
  have x1 := HX.out.cell 1 _ rfl
  have x2 := HX.out.cell 2 _ rfl
  have x3 := HX.out.cell 3 _ rfl
  have x4 := HX.out.cell 4 _ rfl
  have xl := HX.out.lt
  go_wp2_with fail
  refine (isId_any mg _ HG.out).mono ?_
  rintro e w1 ⟨rfl, hb1⟩
  have HX1 := Lib.hid (HX.out.below hb1 HX.out.lt)
  have HB1 := Lib.hid (HB.out.trans (hb1.mono HB.out.size))
  clear x0 x1 x2 x3 x4 xl
  clear hb1 HX HB
  cases hg : isIdB mg with
  | false =>
    rw [hg] at HM
    clear hg
    go_wp2
    go_ret
    exact ⟨by rw [HM.out]; simp, HB1.out⟩
  | true =>
    rw [hg] at HM
    clear hg
    have x0 := HX1.out.cell 0 _ rfl
    have x1 := HX1.out.cell 1 _ rfl
    have x2 := HX1.out.cell 2 _ rfl
    have x3 := HX1.out.cell 3 _ rfl
    have x4 := HX1.out.cell 4 _ rfl
    have xl := HX1.out.lt
    go_wp2_with fail
    refine (isId_any ma _ HA.out).mono ?_
    rintro e w2 ⟨rfl, hb2⟩
    have HX2 := Lib.hid (HX1.out.below hb2 HX1.out.lt)
    have HB2 := Lib.hid (HB1.out.trans (hb2.mono HB1.out.size))
    clear x0 x1 x2 x3 x4 xl
    clear hb2 HX1 HB1
    have x0 := HX2.out.cell 0 _ rfl
    have x1 := HX2.out.cell 1 _ rfl
    have x2 := HX2.out.cell 2 _ rfl
    have x3 := HX2.out.cell 3 _ rfl
    have x4 := HX2.out.cell 4 _ rfl
    have xl := HX2.out.lt
    cases hg : isIdB ma with
    | false =>
      rw [hg] at HM
      clear hg
      go_wp2
      go_ret
      exact ⟨by rw [HM.out]; simp, HB2.out⟩
    | true =>
      rw [hg] at HM
      clear hg
      by_cases h0 : l.length = 0
      · have e0 : ((l.length : Int) == 0) = true := by rw [beq_iff_eq]; omega
        have e0n : (l.length == 0) = true := by rw [beq_iff_eq]; exact h0
        have HE : Hid (l.isEmpty = true) := by show _ = _; rw [List.isEmpty_iff]; exact List.eq_nil_of_length_eq_zero h0
        clear h0
        go_wp2
        go_ret
        exact ⟨by rw [HM.out, HE.out]; simp, HB2.out⟩
      · have e0 : ((l.length : Int) == 0) = false := by rw [beq_eq_false_iff_ne]; omega
        have e0n : (l.length == 0) = false := by rw [beq_eq_false_iff_ne]; exact h0
        have HE : Hid (l.isEmpty = false) := by show _ = _; rw [List.isEmpty_eq_false_iff]; intro e; rw [e] at h0; exact h0 rfl
        by_cases h1 : l.length ≤ 1024
        · have d1 : decide ((1024 : Int) < (l.length : Int)) = false := decide_eq_false (by omega)
          have d1n : decide (1024 < l.length) = false := decide_eq_false (by omega)
          have d1p : ¬ (1024 : Int) < (l.length : Int) := by omega
          have HM2 : Hid (MM = (rowM l (l.length - 0) 0 && decide (la = lastV l) && decide (re = relV l))) := by show _ = _; rw [HM.out, HE.out, decide_eq_true h1]; simp
          obtain ⟨b, o, hao, hx1, hx2⟩ := (HS.out).at1 (k := 0) (by omega)
          clear hx1 hx2
          cases hao
          have HNZ := Lib.hid h0
          have HLE := Lib.hid h1
          clear h0 h1 HM HE HG HA
          go_wp2
          clear x0 x1 x2 x3 x4 xl
          clear d1 d1n d1p e0 e0n
          go_loopw [32] (fun i wr => ∃ k : Nat, i = .int .i64 k ∧ k ≤ l.length ∧ Hid (Box wr w.heap.size [.string mg, .string ma, .slice (some ⟨b, o, none⟩) l.length c, .string la, .string re]) ∧ Hid (Below w.heap.size w wr) ∧ Hid (MM = (rowM l (l.length - k) k && decide (la = lastV l) && decide (re = relV l)))) (fun i _ => l.length - (intOf i).toNat)
          case atStart => exact ⟨0, rfl, Nat.zero_le _, HX2, HB2, HM2⟩
          case round =>
            clear HX2 HB2 HM2
            obtain ⟨k, rfl, hk, HX, HB, HM⟩ := hrel
            by_cases hlt : k < l.length
            · have hSr := HS.out.below HB.out
              obtain ⟨b', o', hao, hbl, hc⟩ := hSr.at1 hlt
              cases hao
              have HSr := Lib.hid hSr
              clear hSr
              have HSTEP := Lib.hid (rowM_step hlt)
              have HV := Lib.hid (HSMALL.out l[k] (List.getElem_mem hlt))
              have d1 : (k : Int) < (l.length : Int) := by omega
              have wk : IntKind.i64.wrap ((k : Int) + 1) = (k : Int) + 1 := IntWalk.i64_in _ (by have := HLN.out; omega)
              have HST : Hid (stepM l k l[k] = (verMay l[k] && !memB (l.take k) l[k] && !(decide (0 < k) && decide (0 < cmpSV (l.getD (k - 1) ⟨#[]⟩) l[k])))) := rfl
              generalize l[k] = x at *
              generalize stepM l k x = st at *
              rw [show rowM l (l.length - k) k = _ from HSTEP.out] at HM
              have x0 := HX.out.cell 0 _ rfl
              have x1 := HX.out.cell 1 _ rfl
              have x2 := HX.out.cell 2 _ rfl
              have x3 := HX.out.cell 3 _ rfl
              have x4 := HX.out.cell 4 _ rfl
              have xl := HX.out.lt
              go_wp2_with fail
              refine (ver_any x _ (by have := HV.out; omega)).mono ?_
              rintro e w3 ⟨rfl, hb3⟩
              have HX3 := Lib.hid (HX.out.below hb3 HX.out.lt)
              have HB3 := Lib.hid (HB.out.trans (hb3.mono HB.out.size))
              have HSr3 := Lib.hid (HSr.out.below hb3)
              clear x0 x1 x2 x3 x4 xl
              clear hb3 HX HB HSr hc hbl HSTEP
              cases hq : verMay x with
              | false =>
                rw [hq] at HST
                clear hq
                have HMF : Hid (MM = false) := by show _ = _; rw [HM.out, HST.out]; simp
                clear HM HST
                go_wp2
                go_ret
                exact ⟨by rw [HMF.out]; rfl, HB3.out⟩
              | true =>
                rw [hq] at HST
                clear hq
                have x0 := HX3.out.cell 0 _ rfl
                have x1 := HX3.out.cell 1 _ rfl
                have x2 := HX3.out.cell 2 _ rfl
                have x3 := HX3.out.cell 3 _ rfl
                have x4 := HX3.out.cell 4 _ rfl
                have xl := HX3.out.lt
                have pk1 : (0 : Int) ≤ (k : Int) := by omega
                have pk2 : (k : Int) ≤ (l.length : Int) := by omega
                have pk3 : (l.length : Int) ≤ (c : Int) := by obtain ⟨_, _, e1, e2, _⟩ := HS.out; cases e1; omega
                have HCO := Lib.hid (containsV_any x HSr3.out hk HLN.out c)
                go_wp2_with fail
                refine HCO.out.mono ?_
                rintro e w4 ⟨rfl, rfl⟩
                cases hq : memB (l.take k) x with
                | true =>
                  rw [hq] at HST
                  clear hq
                  have HMF : Hid (MM = false) := by show _ = _; rw [HM.out, HST.out]; simp
                  clear HM HST HCO
                  go_wp2
                  go_ret
                  exact ⟨by rw [HMF.out]; rfl, HB3.out⟩
                | false =>
                  rw [hq] at HST
                  clear hq HCO pk1 pk2 pk3
                  cases k with
                  | zero =>
                    have HM2 : Hid (MM = (rowM l (l.length - (0 + 1)) (0 + 1) && decide (la = lastV l) && decide (re = relV l))) := by show _ = _; rw [HM.out, HST.out]; simp
                    clear HM HST
                    go_wp2
                    go_roundw
                    case rel => exact ⟨1, rfl, by omega, HX3, HB3, HM2⟩
                    case measure => simp [intOf]; omega
                  | succ kp =>
                    have hkp : kp < l.length := by omega
                    obtain ⟨b', o', hao, hbl, hc⟩ := HSr3.out.at1 hkp
                    cases hao
                    have HV2 := Lib.hid (HSMALL.out l[kp] (List.getElem_mem hkp))
                    have HGD : Hid (l.getD (kp + 1 - 1) ⟨#[]⟩ = l[kp]) := by show _ = _; rw [Nat.add_sub_cancel, List.getD_eq_getElem?_getD, List.getElem?_eq_getElem hkp]; rfl
                    have pg1 : decide ((0 : Int) < (kp : Int) + 1) = true := decide_eq_true (by omega)
                    have pg2 : (0 : Int) < (kp : Int) + 1 := by omega
                    have pg3 : IntKind.i64.wrap ((kp : Int) + 1 - 1) = (kp : Int) := by rw [show (kp : Int) + 1 - 1 = (kp : Int) by omega]; exact IntWalk.i64_in _ (by have := HLN.out; omega)
                    have pg4 : IntKind.i64.wrap (kp : Int) = (kp : Int) := IntWalk.i64_in _ (by have := HLN.out; omega)
                    have pg5 : (kp : Int) < (l.length : Int) := by omega
                    have wk2 : IntKind.i64.wrap ((kp : Int) + 1 + 1) = (kp : Int) + 1 + 1 := IntWalk.i64_in _ (by have := HLN.out; omega)
                    have pg6 : decide (0 < kp + 1) = true := decide_eq_true (by omega)
                    rw [show l.getD (kp + 1 - 1) ⟨#[]⟩ = _ from HGD.out] at HST
                    clear HGD
                    generalize l[kp] = y at *
                    have HCMP : Hid (Calls Tryd.prog 34 #[.string y, .string x] w3 fun e w' => e = .returned (.int .i64 (cmpSV y x)) ∧ Below w3.heap.size w3 w') := compareV_any y x w3 HV2.out HV.out
                    generalize cmpSV y x = cv at *
                    go_wp2_with fail
                    refine HCMP.out.mono ?_
                    rintro e w5 ⟨rfl, hb5⟩
                    have HX5 := Lib.hid (HX3.out.below hb5 HX3.out.lt)
                    have HB5 := Lib.hid (HB3.out.trans (hb5.mono HB3.out.size))
                    clear hb5 HX3 HB3 HSr3 hc hbl HCMP pg3 pg4 pg5
                    by_cases hcv : 0 < cv
                    · have c1 : decide (0 < cv) = true := decide_eq_true hcv
                      have HMF : Hid (MM = false) := by show _ = _; rw [HM.out, HST.out, c1]; simp
                      clear HM HST
                      go_wp2
                      go_ret
                      exact ⟨by rw [HMF.out]; rfl, HB5.out⟩
                    · have c1 : decide (0 < cv) = false := decide_eq_false hcv
                      have HM2 : Hid (MM = (rowM l (l.length - (kp + 1 + 1)) (kp + 1 + 1) && decide (la = lastV l) && decide (re = relV l))) := by show _ = _; rw [HM.out, HST.out, c1]; simp
                      clear HM HST
                      go_wp2
                      go_roundw
                      case rel => exact ⟨kp + 1 + 1, by first | rfl | go_num, hlt, HX5, HB5, HM2⟩
                      case measure => simp [intOf]; omega
            · obtain rfl : k = l.length := by omega
              have d1 : ¬ (l.length : Int) < (l.length : Int) := by omega
              have HM2 : Hid (MM = (decide (la = lastV l) && decide (re = relV l))) := by show _ = _; rw [HM.out, rowM_end]; simp
              clear HM hlt hk
              obtain ⟨n, hn⟩ : ∃ n, l.length = n + 1 := ⟨l.length - 1, by have := HNZ.out; omega⟩
              have hat := lastV_at hn
              have hSr := HS.out.below HB.out
              obtain ⟨b', o', hao, hbl, hc⟩ := hSr.at1 (k := n) (by omega)
              rw [(List.getElem?_eq_some_iff.1 hat).2] at hc
              cases hao
              have HREL : Hid (∀ W, Below wr.heap.size wr W → Calls Tryd.prog 35 #[.slice (some ⟨b, o, none⟩) l.length c] W fun e w' => e = .returned (.string (relV l)) ∧ Below W.heap.size W w') := fun W hb => releaseV_any (hSr.below hb) HLN.out HSMALL.out
              clear hSr hat
              generalize lastV l = lv at *
              generalize relV l = rv at *
              generalize hq1 : decide (la = lv) = q1 at *
              generalize hq2 : decide (re = rv) = q2 at *
              rw [hn] at HREL HX ⊢
              have w1 : IntKind.i64.wrap (n : Int) = (n : Int) := IntWalk.i64_in _ (by have := HLN.out; omega)
              have lt1 : (n : Int) < (n : Int) + 1 := by omega
              have HNN := Lib.hid hn
              clear hn d1
              have x0 := HX.out.cell 0 _ rfl
              have x1 := HX.out.cell 1 _ rfl
              have x2 := HX.out.cell 2 _ rfl
              have x3 := HX.out.cell 3 _ rfl
              have x4 := HX.out.cell 4 _ rfl
              have xl := HX.out.lt
              have hLL := @Later.cells wr
              have HRR : Hid (∀ z : Later wr, Calls Tryd.prog 35 #[.slice (some ⟨b, o, none⟩) (n + 1) c] z.at_ fun e w'' => e = .returned (.string rv) ∧ ∃ u : Later wr, w'' = u.at_) := fun z => Later.call (HREL.out _ z.below)
              clear HREL
              cases q1
              · go_wp2_with fail
                refine region_later (by kernel_rfl) (by kernel_rfl) ?_
                repeat (go_big_quiet_step (fail))
                refine wpQuiet_nil ?_
                rintro _ ⟨nx, rfl⟩
                have HBn := Lib.hid (HB.out.trans (nx.below.mono HB.out.size))
                clear hLL x0 x1 x2 x3 x4 xl hc hbl HRR
                generalize nx.at_ = wn at *
                go_wp2
                go_ret
                exact ⟨by rw [HM2.out]; rfl, HBn.out⟩
              · go_wp2_with fail
                refine region_later (by kernel_rfl) (by kernel_rfl) ?_
                repeat (go_big_quiet_step ((go_at_call 35; with_reducible exact HRR.out _)))
                refine wpQuiet_nil ?_
                rintro _ ⟨nx, rfl⟩
                have HBn := Lib.hid (HB.out.trans (nx.below.mono HB.out.size))
                clear hLL x0 x1 x2 x3 x4 xl hc hbl HRR
                generalize nx.at_ = wn at *
                go_wp2
                go_ret
                exact ⟨by rw [HM2.out]; rfl, HBn.out⟩
        · have d1 : decide ((1024 : Int) < (l.length : Int)) = true := decide_eq_true (by omega)
          have d1n : decide (1024 < l.length) = true := decide_eq_true (by omega)
          have d1p : (1024 : Int) < (l.length : Int) := by omega
          have HMF : Hid (MM = false) := by show _ = _; rw [HM.out, decide_eq_false h1]; simp
          clear h0 h1
          go_wp2
          go_ret
          exact ⟨by rw [HMF.out]; rfl, HB2.out⟩

end Go.Proofs.YtecffghcpknmjaaDoor
