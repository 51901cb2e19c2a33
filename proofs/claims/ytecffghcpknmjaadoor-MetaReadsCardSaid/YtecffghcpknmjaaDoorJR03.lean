/- The walks of slices.rotateCmpFunc and slices.insertionSortCmpFunc at texts; the conditions stand in the theorems. -/
import Derived.Test.YtecffghcpknmjaaDoorJR02
import Derived.Deep.QuietTactic
import Derived.BigQuiet
namespace Go.Proofs.YtecffghcpknmjaaDoor
open Go Go.RowKit

theorem sum3 {α : Type} (a b c : List α) : (a ++ (b ++ c)).length = a.length + b.length + c.length := by rw [List.length_append, List.length_append]; omega
theorem cut_len {α : Type} {l : List α} {k : Nat} (h : k ≤ l.length) : ∃ a b, l = a ++ b ∧ a.length = k := ⟨l.take k, l.drop k, by simp, by simp; omega⟩
set_option maxRecDepth 100000 in
set_option maxHeartbeats 4000000 in
/-- Two rows side by side change places. -/
theorem rotate_any {B g cap N a m b : Nat} {w0 : World} (cm : Value) (P U V Q : List S) (hN : N ≤ 1000000) (ha : a = P.length) (hm : m = a + U.length) (hb : b = m + V.length) (hu : U ≠ []) (hv : V ≠ []) (w : World) (h : SF B g cap N w0 w (P ++ (U ++ (V ++ Q)))) :
    Calls Tryd.prog 108 #[.slice (some ⟨g, 0, none⟩) N cap, .int .i64 a, .int .i64 m, .int .i64 b, cm] w fun e w' => e = .returned (.tuple #[]) ∧ SF B g cap N w0 w' (P ++ (V ++ (U ++ Q))) := by
  have hlen := h.len
  simp only [List.length_append] at hlen
  have hul : 0 < U.length := List.length_pos_iff.2 hu
  have hvl : 0 < V.length := List.length_pos_iff.2 hv
  have HS := Lib.hid h
  obtain ⟨i0, hi0⟩ : ∃ i0, i0 = U.length := ⟨_, rfl⟩
  obtain ⟨j0, hj0⟩ : ∃ j0, j0 = V.length := ⟨_, rfl⟩
  have r1 : (m : Int) - (a : Int) = (i0 : Int) := by omega
  have r2 : (b : Int) - (m : Int) = (j0 : Int) := by omega
  have w1 : IntKind.i64.wrap ((m : Int) - (a : Int)) = (i0 : Int) := by rw [r1]; exact IntWalk.i64_in _ (by omega)
  have w2 : IntKind.i64.wrap ((b : Int) - (m : Int)) = (j0 : Int) := by rw [r2]; exact IntWalk.i64_in _ (by omega)
  have HI : Hid (i0 = U.length) := hi0
  have HJ : Hid (j0 = V.length) := hj0
  have HM : Hid (m = P.length + i0) := by show _ = _; omega
  have hm2 : m ≤ 1000000 := by omega
  have h1 : 0 < i0 := by omega
  have h2 : 0 < j0 := by omega
  clear h hu hv hlen ha hm hb hul hvl hi0 hj0 r1 r2
  go_enter Tryd.func108, Tryd.ntmps108
  go_wp2
  clear w1 w2
  go_loopw [10, 11] (fun vi vj wr => ∃ (i j : Nat) (P' X Y Q' : List S), vi = .int .i64 i ∧ vj = .int .i64 j ∧ 0 < i ∧ 0 < j ∧ Hid (X.length = i) ∧ Hid (Y.length = j) ∧ Hid (m = P'.length + i) ∧ Hid (P ++ (V ++ (U ++ Q)) = P' ++ (Y ++ (X ++ Q'))) ∧ Hid (SF B g cap N w0 wr (P' ++ (X ++ (Y ++ Q'))))) (fun vi vj _ => (intOf vi).toNat + (intOf vj).toNat)
  case atStart => exact ⟨i0, j0, P, U, V, Q, rfl, rfl, h1, h2, HI.out.symm, HJ.out.symm, HM, rfl, HS.out⟩
  case round =>
    clear HS HM HI HJ
    obtain ⟨i, j, P', X, Y, Q', rfl, rfl, hi, hj, HX, HY, HM, HG, HR⟩ := hrel
    have HL : Hid (P'.length + i + j + Q'.length = N) := by
      show _ = _
      have := HR.out.len
      simp only [List.length_append] at this
      rw [HX.out, HY.out] at this; omega
    have hsum : i + j ≤ 1000000 := by have := HL.out; omega
    have hmj : m + j ≤ 1000000 := by have h1 := HL.out; have h2 := HM.out; change _ = _ at h1; change _ = _ at h2; omega
    have him : i ≤ m := by have h2 := HM.out; change _ = _ at h2; omega
    obtain ⟨p, hp⟩ : ∃ p, p = P'.length := ⟨_, rfl⟩
    have hpm : (m : Int) - (i : Int) = (p : Int) := by have h2 := HM.out; change _ = _ at h2; omega
    have wpm : IntKind.i64.wrap ((m : Int) - (i : Int)) = (p : Int) := by rw [hpm]; exact IntWalk.i64_in _ (by omega)
    have HP := Lib.hid hp
    clear hp hpm
    by_cases hij : i = j
    · have e1 : ((i : Int) == (j : Int)) = true := by rw [beq_iff_eq]; omega
      have e2 : (i == j) = true := by rw [beq_iff_eq]; exact hij
      have hc := swapRange_any cm P' X [] Y Q' hN HP.out HX.out (HY.out.trans hij.symm) (b := m) (by have h2 := HM.out; change _ = _ at h2; simpa using h2) wr (by have := HR.out; simpa using this)
      clear hij
      go_wp2_with fail
      refine hc.mono ?_
      rintro e w9 ⟨rfl, hs⟩
      have HE : Hid (SF B g cap N w0 w9 (P ++ (V ++ (U ++ Q)))) := by show SF _ _ _ _ _ _ _; rw [HG.out]; simpa using hs
      clear hs
      go_wp2
      go_end0
      exact ⟨rfl, HE.out⟩
    · have e1 : ((i : Int) == (j : Int)) = false := by rw [beq_eq_false_iff_ne]; omega
      have e2 : (i == j) = false := by rw [beq_eq_false_iff_ne]; exact hij
      by_cases hlt : j < i
      · have d1 : decide ((i : Int) > (j : Int)) = true := decide_eq_true (by omega)
        have d2 : (j : Int) < (i : Int) := by omega
        obtain ⟨X1, X2, rfl, hX1⟩ := cut_len (l := X) (k := j) (by have := HX.out; change _ = _ at this; omega)
        obtain ⟨k, hk⟩ : ∃ k : Nat, k = i - j := ⟨_, rfl⟩
        have wk : IntKind.i64.wrap ((i : Int) - (j : Int)) = (k : Int) := by rw [show (i : Int) - (j : Int) = (k : Int) by omega]; exact IntWalk.i64_in _ (by omega)
        have HX2 : Hid (X2.length = k) := by have := HX.out; change _ = _ at this; rw [List.length_append] at this; show _ = _; omega
        have hc := swapRange_any cm P' X1 X2 Y Q' hN HP.out hX1 HY.out (b := m) (by have h2 := HM.out; have h3 := HX2.out; have h4 := HP.out; change _ = _ at h2; change _ = _ at h3; change _ = _ at h4; omega) wr (by have := HR.out; simpa using this)
        have HK := Lib.hid hk
        clear hij hk hX1
        go_wp2_with fail
        refine hc.mono ?_
        rintro e w9 ⟨rfl, hs⟩
        have HS := Lib.hid hs
        clear hs hc
        go_wp2
        go_roundw
        case rel =>
          have hk : k = i - j := HK.out
          have h3 : X2.length = k := HX2.out
          have h4 : p = P'.length := HP.out
          have h5 : m = P'.length + i := HM.out
          refine ⟨k, j, P' ++ Y, X2, X1, Q', by first | rfl | go_num, rfl, by omega, hj, h3, ?_, ?_, ?_, ?_⟩
          · have := HX.out; change _ = _ at this; rw [List.length_append] at this; show _ = _; omega
          · show _ = _; rw [List.length_append, HY.out]; omega
          · show _ = _; rw [HG.out]; simp
          · show SF _ _ _ _ _ _ _; have := HS.out; simpa using this
        case measure => have hk : k = i - j := HK.out; simp [intOf]; omega
      · have d1 : decide ((i : Int) > (j : Int)) = false := decide_eq_false (by omega)
        have d2 : ¬ (j : Int) < (i : Int) := by omega
        obtain ⟨k, hk⟩ : ∃ k : Nat, k = j - i := ⟨_, rfl⟩
        obtain ⟨Y1, Y2, rfl, hY1⟩ := cut_len (l := Y) (k := k) (by have := HY.out; change _ = _ at this; omega)
        have HY2 : Hid (Y2.length = i) := by have := HY.out; change _ = _ at this; rw [List.length_append] at this; show _ = _; omega
        have w1 : IntKind.i64.wrap ((m : Int) + (j : Int)) = (m : Int) + (j : Int) := IntWalk.i64_in _ (by omega)
        obtain ⟨q, hq⟩ : ∃ q : Nat, q = m + j - i := ⟨_, rfl⟩
        have w2 : IntKind.i64.wrap ((m : Int) + (j : Int) - (i : Int)) = (q : Int) := by rw [show (m : Int) + (j : Int) - (i : Int) = (q : Int) by omega]; exact IntWalk.i64_in _ (by omega)
        have wk : IntKind.i64.wrap ((j : Int) - (i : Int)) = (k : Int) := by rw [show (j : Int) - (i : Int) = (k : Int) by omega]; exact IntWalk.i64_in _ (by omega)
        have hc := swapRange_any cm P' X Y1 Y2 Q' hN HP.out HX.out HY2.out (b := q) (by have h2 := HM.out; have h4 := HP.out; change _ = _ at h2; change _ = _ at h4; omega) wr (by have := HR.out; simpa using this)
        have HK := Lib.hid hk
        have HY1 := Lib.hid hY1
        clear hk hY1 hq
        go_wp2_with fail
        refine hc.mono ?_
        rintro e w9 ⟨rfl, hs⟩
        have HS := Lib.hid hs
        clear hs hc
        go_wp2
        go_roundw
        case rel =>
          have hk : k = j - i := HK.out
          have h4 : p = P'.length := HP.out
          have h5 : m = P'.length + i := HM.out
          refine ⟨i, k, P', Y2, Y1, X ++ Q', rfl, by first | rfl | go_num, hi, by omega, HY2, HY1, HM, ?_, ?_⟩
          · show _ = _; rw [HG.out]; simp
          · show SF _ _ _ _ _ _ _; have := HS.out; simpa using this
        case measure => have hk : k = j - i := HK.out; simp [intOf]; omega

end Go.Proofs.YtecffghcpknmjaaDoor

/- The walk of slices.insertionSortCmpFunc at texts, the comparison being the program's own; the conditions stand in the theorems. -/

namespace Go.Proofs.YtecffghcpknmjaaDoor
open Go Go.RowKit

/-- The program's comparison of versions answers cf. -/
def CmpOk (cf : S → S → Int) : Prop := ∀ (a b : S) (W : World), a.size ≤ 900000 → b.size ≤ 900000 → Calls Tryd.prog 34 #[.string a, .string b] W fun e w' => e = .returned (.int .i64 (cf a b)) ∧ Below W.heap.size W w'
def ltF (cf : S → S → Int) (a b : S) : Bool := decide (cf a b < 0)
theorem enters_cmp : ∀ (args : Array Value) (w : World), (callFunc 34 args).run Tryd.prog w = .ok (.enter 34 args) w := fun args w => by kernel_rfl
def cmpF : Value := .func (.func 34) #[] #[]
def AllSmall (l : List S) : Prop := ∀ x ∈ l, x.size ≤ 900000
theorem swap_next {α : Type} (p : List α) (y x : α) (q : List α) {k : Nat} (hk : k = p.length) : ((p ++ y :: x :: q).set (k + 1) y).set k x = p ++ x :: y :: q := by
  subst hk
  rw [List.set_append_right _ _ (by omega), show p.length + 1 - p.length = 1 by omega, List.set_append_right _ _ (Nat.le_refl _), Nat.sub_self]
  rfl
theorem snoc_of {α : Type} {l : List α} (h : l ≠ []) : ∃ a x, l = a ++ [x] := ⟨l.dropLast, l.getLast h, (List.dropLast_concat_getLast h).symm⟩
set_option maxRecDepth 100000 in
set_option maxHeartbeats 4000000 in
theorem insert_any {B g cap N a b : Nat} {w0 : World} {cf : S → S → Int} (hC : CmpOk cf) (hW : Weak (ltF cf)) (P R0 Q : List S) (hN : N ≤ 1000000) (ha : a = P.length) (hb : b = a + R0.length) (hs : AllSmall R0) (w : World) (h : SF B g cap N w0 w (P ++ (R0 ++ Q))) :
    Calls Tryd.prog 97 #[.slice (some ⟨g, 0, none⟩) N cap, .int .i64 a, .int .i64 b, cmpF] w fun e w' => e = .returned (.tuple #[]) ∧ ∃ M, Srt (ltF cf) M ∧ SameE (ltF cf) R0 M ∧ SF B g cap N w0 w' (P ++ (M ++ Q)) := by
  have hlen := h.len
  simp only [List.length_append] at hlen
  have HS := Lib.hid h
  have HC := Lib.hid hC
  have HA := Lib.hid ha
  have HSM := Lib.hid hs
  have hbn : b ≤ 1000000 := by omega
  have hbN : b ≤ N := by omega
  have wa : IntKind.i64.wrap ((a : Int) + 1) = (a : Int) + 1 := IntWalk.i64_in _ (by omega)
  clear h hC hlen ha hs
  have hen := enters_cmp
  unfold cmpF
  cases R0 with
  | nil =>
    have d1 : ¬ (a : Int) + 1 < (b : Int) := by simp at hb; omega
    clear hb
    go_enter Tryd.func97, Tryd.ntmps97
    go_wp2
    refine wp_loop_rounds 1 ?_
    rw [rounds_succ]
    go_wp2
    go_end0
    exact ⟨rfl, [], srt_nil, SameE.refl _, HS.out⟩
  | cons x0 R1 =>
    have HBL : Hid (b = a + 1 + R1.length) := by show _ = _; rw [hb, List.length_cons]; omega
    have hab : a + 1 ≤ b := by rw [hb, List.length_cons]; omega
    clear hb
    go_enter Tryd.func97, Tryd.ntmps97
    go_wp2
    clear wa
    go_loopw [8] (fun vi wr => ∃ (i : Nat) (M0 M R : List S), vi = .int .i64 i ∧ i ≤ b ∧ a < i ∧ Hid (x0 :: R1 = M0 ++ R) ∧ Hid (i = a + M.length) ∧ Hid (Srt (ltF cf) M) ∧ Hid (SameE (ltF cf) M0 M) ∧ Hid (SF B g cap N w0 wr (P ++ (M ++ (R ++ Q))))) (fun vi _ => b - (intOf vi).toNat)
    case atStart => exact ⟨a + 1, [x0], [x0], R1, by first | rfl | go_num, hab, by omega, rfl, rfl, srt_one _, SameE.refl _, (by show SF _ _ _ _ _ _ _; simpa using HS.out)⟩
    case round =>
      clear HS
      obtain ⟨i, M0, M, R, rfl, hib, hai, HM0, HI, HSR, HSE, HR⟩ := hrel
      have HBR : Hid (M.length = M0.length) := (HSE.out.perm hW).length_eq.symm
      by_cases hlt : i < b
      · have hltz : (i : Int) < (b : Int) := by omega
        obtain ⟨x, R, rfl⟩ : ∃ x R', R = x :: R' := by
          cases R with
          | nil =>
            have h1 := congrArg List.length (show x0 :: R1 = M0 ++ [] from HM0.out)
            have h2 := HBL.out; have h3 := HI.out; have h4 := HBR.out
            change _ = _ at h2; change _ = _ at h3; change _ = _ at h4
            simp at h1; omega
          | cons x R' => exact ⟨x, R', rfl⟩
        go_wp2
        go_loopw [9] (fun vj wr2 => ∃ (j : Nat) (M1 M2 : List S), vj = .int .i64 j ∧ a ≤ j ∧ j ≤ i ∧ Hid (M = M1 ++ M2) ∧ Hid (j = a + M1.length) ∧ Hid (∀ y ∈ M2, ltF cf x y = true) ∧ Hid (SF B g cap N w0 wr2 (P ++ (M1 ++ x :: (M2 ++ (R ++ Q)))))) (fun vj _ => (intOf vj).toNat)
        case atStart => exact ⟨i, M, [], rfl, by omega, Nat.le_refl _, (by show _ = _; simp), HI, (by show ∀ _, _; simp), (by show SF _ _ _ _ _ _ _; simpa using HR.out)⟩
        case round =>
          clear HR
          obtain ⟨j, M1, M2, rfl, haj, hji, HM, HJ, HLT, HR⟩ := hrel
          have out : (∀ y ∈ M1, ltF cf x y = false) → Hid (∃ M', Srt (ltF cf) M' ∧ SameE (ltF cf) (M0 ++ [x]) M' ∧ M'.length = M.length + 1 ∧ SF B g cap N w0 wr (P ++ (M' ++ (R ++ Q)))) := fun hy => by
            have e : M = M1 ++ M2 := HM.out
            refine ⟨M1 ++ x :: M2, ins_srt hW (e ▸ HSR.out) hy HLT.out, ?_, by rw [e]; simp; omega, ?_⟩
            · refine SameE.trans (HSE.out.app (SameE.refl [x])) ?_
              rw [e]; exact ins_same hW HLT.out
            · have := HR.out; simpa using this
          have OUT := Lib.hid out
          clear out
          by_cases hja : a < j
          · obtain ⟨M3, y, rfl⟩ := snoc_of (l := M1) (fun e => by have := HJ.out; change _ = _ at this; rw [e] at this; simp at this; omega)
            obtain ⟨jp, hjp⟩ : ∃ jp, j = jp + 1 := ⟨j - 1, by omega⟩
            subst hjp
            have d1 : decide ((jp : Int) + 1 > (a : Int)) = true := decide_eq_true (by omega)
            have d2 : (a : Int) < (jp : Int) + 1 := by omega
            have d3 : decide (a < jp + 1) = true := decide_eq_true hja
            have w1 : IntKind.i64.wrap ((jp : Int) + 1 - 1) = (jp : Int) := by rw [show (jp : Int) + 1 - 1 = (jp : Int) by omega]; exact IntWalk.i64_in _ (by omega)
            have HR' : Hid (SF B g cap N w0 wr ((P ++ M3) ++ y :: ([] ++ x :: (M2 ++ (R ++ Q))))) := by show SF _ _ _ _ _ _ _; have := HR.out; simpa using this
            have hp1 : Hid (jp = (P ++ M3).length) := by show _ = _; have h1 := HA.out; have h2 := HJ.out; change _ = _ at h1; change _ = _ at h2; simp at *; omega
            have g1 := at_mid (P ++ M3) y ([] ++ x :: (M2 ++ (R ++ Q))) hp1.out
            have g2 := at_mid2 (P ++ M3) y [] x (M2 ++ (R ++ Q)) (k := jp + 1) (by have := hp1.out; change _ = _ at this; simp at *; omega)
            have c1 := (HR'.out.cell g1).1
            have f1 := (HR'.out.cell g1).2.1
            have c2 := (HR'.out.cell g2).1
            have f2 := (HR'.out.cell g2).2.1
            have gl := (HR'.out.cell g2).2.2
            have sy : y.size ≤ 900000 := HSM.out y (by rw [show x0 :: R1 = _ from HM0.out]; exact List.mem_append_left _ (HSE.out.symm.mem hW (by rw [show M = _ from HM.out]; simp)))
            have sx : x.size ≤ 900000 := HSM.out x (by rw [show x0 :: R1 = _ from HM0.out]; simp)
            have l1 : (jp : Int) + 1 < (N : Int) := by omega
            have l2 : (jp : Int) < (N : Int) := by omega
            have t1 : ((jp : Int) + 1).toNat = jp + 1 := by omega
            have p1 : (0 : Int) ≤ (jp : Int) + 1 := by omega
            have hLL := @Later.cells wr
            have HCC : Hid (∀ z : Later wr, Calls Tryd.prog 34 #[.string x, .string y] z.at_ fun e w'' => e = .returned (.int .i64 (cf x y)) ∧ ∃ u : Later wr, w'' = u.at_) := fun z => Later.call (HC.out _ _ _ sx sy)
            go_wp2_with fail
            refine region_later (by kernel_rfl) (by kernel_rfl) ?_
            repeat (go_big_quiet_step ((first | (go_at_call 34; with_reducible exact HCC.out _))))
            refine wpQuiet_nil ?_
            rintro _ ⟨nx, rfl⟩
            have HR2 : Hid (SF B g cap N w0 nx.at_ ((P ++ M3) ++ y :: x :: (M2 ++ (R ++ Q)))) := HR'.out.later nx.below
            clear hLL HCC c1 c2 f1 f2 gl sy sx HR HR'
            generalize nx.at_ = w2 at *
            have hq : ltF cf x y = decide (cf x y < 0) := rfl
            generalize decide (cf x y < 0) = q at *
            cases q with
            | true =>
              have HLY := Lib.hid hq
              clear hq OUT
              have c1 := (HR2.out.cell g1).1
              have f1 := (HR2.out.cell g1).2.1
              have c2 := (HR2.out.cell g2).1
              have f2 := (HR2.out.cell g2).2.1
              have c3 : (w2.setCell ⟨g, jp + 1, none⟩ (.string y)).cell? ⟨g, jp, none⟩ = some (.string y) := by rw [World.cell?_setCell_other _ _ _ _ (by simp only [Addr.mk.injEq, not_and, ne_eq]; omega)]; exact c1
              have HS2 : Hid (SF B g cap N w0 ((w2.setCell ⟨g, jp + 1, none⟩ (.string y)).setCell ⟨g, jp, none⟩ (.string x)).drew ((P ++ M3) ++ x :: y :: (M2 ++ (R ++ Q)))) := by
                have := HR2.out.swap g2 g1 (by omega)
                rw [swap_next _ _ _ _ hp1.out] at this
                exact this
              clear g1 g2
              go_wp2_with fail
              go_big_region
              clear c1 c2 c3 f1 f2
              generalize ((w2.setCell ⟨g, jp + 1, none⟩ (.string y)).setCell ⟨g, jp, none⟩ (.string x)).drew = w3 at *
              go_wp2
              go_roundw
              case rel =>
                refine ⟨jp, M3, y :: M2, by first | rfl | go_num, by omega, by omega, ?_, ?_, ?_, ?_⟩
                · show _ = _; rw [HM.out]; simp
                · show _ = _; have := HJ.out; change _ = _ at this; simp at this; omega
                · intro z hz
                  rcases List.mem_cons.1 hz with rfl | hz
                  · exact HLY.out
                  · exact HLT.out z hz
                · show SF _ _ _ _ _ _ _; have := HS2.out; simpa using this
              case measure => simp [intOf]
            | false =>
              have hout : Hid (∃ M', Srt (ltF cf) M' ∧ SameE (ltF cf) (M0 ++ [x]) M' ∧ M'.length = M.length + 1 ∧ SF B g cap N w0 w2 (P ++ (M' ++ (R ++ Q)))) := by
                have e : M = (M3 ++ [y]) ++ M2 := HM.out
                have hy : ∀ z ∈ M3 ++ [y], ltF cf x z = false := srt_last hW (e ▸ HSR.out : Srt (ltF cf) ((M3 ++ [y]) ++ M2)).left hq
                refine ⟨(M3 ++ [y]) ++ x :: M2, ins_srt hW (e ▸ HSR.out) hy HLT.out, ?_, by rw [e]; simp; omega, by have := HR2.out; simpa using this⟩
                refine SameE.trans (HSE.out.app (SameE.refl [x])) ?_
                rw [e]; exact ins_same hW HLT.out
              obtain ⟨M', hm1, hm2, hm3, hm4⟩ := hout.out
              have HM1 := Lib.hid hm1
              have HM2 := Lib.hid hm2
              have HM3 := Lib.hid hm3
              have HM4 := Lib.hid hm4
              clear hout hm1 hm2 hm3 hm4 hq OUT
              have w2' : IntKind.i64.wrap ((i : Int) + 1) = (i : Int) + 1 := IntWalk.i64_in _ (by omega)
              go_wp2
              go_roundw
              case rel => exact ⟨i + 1, M0 ++ [x], M', R, by first | rfl | go_num, hlt, by omega, (by show _ = _; rw [HM0.out]; simp), (by show _ = _; rw [HM3.out, HI.out]; omega), HM1, HM2, HM4⟩
              case measure => simp [intOf]; omega
          · obtain rfl : j = a := by omega
            have hM1 : M1 = [] := List.eq_nil_of_length_eq_zero (by have := HJ.out; change _ = _ at this; omega)
            have d1 : decide ((j : Int) > (j : Int)) = false := decide_eq_false (by omega)
            have d2 : ¬ (j : Int) < (j : Int) := by omega
            have d3 : decide (j < j) = false := decide_eq_false (by omega)
            obtain ⟨M', hm1, hm2, hm3, hm4⟩ := (OUT.out (fun y hy => by rw [hM1] at hy; cases hy)).out
            have HM1 := Lib.hid hm1
            have HM2 := Lib.hid hm2
            have HM3 := Lib.hid hm3
            clear hm1 hm2 hm3 OUT hM1 HR
            go_wp2_with fail
            refine region_later (by kernel_rfl) (by kernel_rfl) ?_
            repeat (go_big_quiet_step (fail))
            refine wpQuiet_nil ?_
            rintro _ ⟨nx, rfl⟩
            have HM4 := Lib.hid (hm4.later nx.below)
            clear hm4
            generalize nx.at_ = w2 at *
            have w2' : IntKind.i64.wrap ((i : Int) + 1) = (i : Int) + 1 := IntWalk.i64_in _ (by omega)
            go_wp2
            go_roundw
            case rel => exact ⟨i + 1, M0 ++ [x], M', R, by first | rfl | go_num, hlt, by omega, (by show _ = _; rw [HM0.out]; simp), (by show _ = _; rw [HM3.out, HI.out]; omega), HM1, HM2, HM4⟩
            case measure => simp [intOf]; omega
      · obtain rfl : i = b := by omega
        have hR : R = [] := List.eq_nil_of_length_eq_zero (by
          have h1 := congrArg List.length (show x0 :: R1 = M0 ++ R from HM0.out)
          have h2 := HBL.out; have h3 := HI.out; have h4 := HBR.out
          change _ = _ at h2; change _ = _ at h3; change _ = _ at h4
          rw [List.length_cons, List.length_append] at h1; omega)
        subst hR
        have d2 : ¬ (i : Int) < (i : Int) := by omega
        go_wp2
        go_end0
        exact ⟨rfl, M, HSR.out, (by rw [show x0 :: R1 = M0 ++ [] from HM0.out, List.append_nil]; exact HSE.out), HR.out⟩

end Go.Proofs.YtecffghcpknmjaaDoor

/- The walk of slices.symMergeCmpFunc at texts, the comparison being the program's own; the conditions stand in the theorems. -/

namespace Go.Proofs.YtecffghcpknmjaaDoor
open Go Go.RowKit

theorem cut_at {α : Type} {l : List α} {k : Nat} (h : k < l.length) : ∃ a x b, l = a ++ x :: b ∧ a.length = k := ⟨l.take k, l[k], l.drop (k + 1), by rw [← List.drop_eq_getElem_cons h, List.take_append_drop], by simp; omega⟩
theorem swap_next' {α : Type} (p : List α) (y x : α) (q : List α) {k : Nat} (hk : k = p.length) : ((p ++ y :: x :: q).set k x).set (k + 1) y = p ++ x :: y :: q := by
  subst hk
  rw [List.set_append_right _ _ (Nat.le_refl _), Nat.sub_self, List.set_cons_zero, List.set_append_right _ _ (by omega), show p.length + 1 - p.length = 1 by omega]
  rfl
theorem at_next {α : Type} (p : List α) (y x : α) (q : List α) {k : Nat} (hk : k = p.length) : (p ++ y :: x :: q)[k + 1]? = some x := by
  subst hk
  rw [List.getElem?_append_right (by omega), show p.length + 1 - p.length = 1 by omega]; rfl
/-- What a merge of U and V in the midst of a row leaves. -/
def Merged (cf : S → S → Int) (B g cap N : Nat) (w0 : World) (P U V Q : List S) (e : Ending) (w' : World) : Prop := e = .returned (.tuple #[]) ∧ ∃ M, Srt (ltF cf) M ∧ SameE (ltF cf) (U ++ V) M ∧ SF B g cap N w0 w' (P ++ (M ++ Q))
set_option maxRecDepth 100000 in
set_option maxHeartbeats 4000000 in
theorem symLeft_any {B g cap N a m b : Nat} {w0 : World} {cf : S → S → Int} (hC : CmpOk cf) (hW : Weak (ltF cf)) (P : List S) (x : S) (V Q : List S) (hN : N ≤ 1000000) (ha : a = P.length) (hm : m = a + 1) (hb : b = m + V.length) (hsx : x.size ≤ 900000) (hsv : AllSmall V) (hV : Srt (ltF cf) V) (w : World) (h : SF B g cap N w0 w (P ++ x :: (V ++ Q))) :
    Calls Tryd.prog 98 #[.slice (some ⟨g, 0, none⟩) N cap, .int .i64 a, .int .i64 m, .int .i64 b, cmpF] w (Merged cf B g cap N w0 P [x] V Q) := by
  have hlen := h.len
  simp only [List.length_append, List.length_cons] at hlen
  have HS := Lib.hid h
  have HC := Lib.hid hC
  have HA := Lib.hid ha
  have HM := Lib.hid hm
  have HBV : Hid (b = a + 1 + V.length) := by show _ = _; omega
  have hbN : b ≤ N := by omega
  have hmb : m ≤ b := by omega
  have haN : a < N := by omega
  have hm0 : 0 < m := by omega
  have e1 : IntKind.i64.wrap ((m : Int) - (a : Int)) = 1 := by rw [show (m : Int) - (a : Int) = 1 by omega]; exact IntWalk.i64_in _ (by omega)
  clear h hC hlen ha hb hm
  have hen := enters_cmp
  unfold cmpF
  go_enter Tryd.func98, Tryd.ntmps98
  go_wp2
  clear e1
  go_loopw [10, 11] (fun vi vj wr => ∃ (i j : Nat) (V1 V2 V3 : List S), vi = .int .i64 i ∧ vj = .int .i64 j ∧ m ≤ i ∧ i ≤ j ∧ j ≤ b ∧ Hid (V = V1 ++ (V2 ++ V3)) ∧ Hid (V1.length + m = i) ∧ Hid (V2.length + i = j) ∧ Hid (∀ v ∈ V1, ltF cf v x = true) ∧ Hid (∀ v ∈ V3, ltF cf v x = false) ∧ Hid (SF B g cap N w0 wr (P ++ x :: (V ++ Q)))) (fun vi vj _ => (intOf vj).toNat - (intOf vi).toNat)
  case atStart => exact ⟨m, b, [], V, [], rfl, rfl, Nat.le_refl _, hmb, Nat.le_refl _, (by show _ = _; simp), (by show _ = _; simp), (by show _ = _; rw [HBV.out, HM.out]; omega), (by show ∀ _, _; simp), (by show ∀ _, _; simp), HS⟩
  case round =>
    clear HS
    obtain ⟨i, j, V1, V2, V3, rfl, rfl, hmi, hij, hjb, HV, HI, HJ, HL, HG, HR⟩ := hrel
    by_cases hlt : i < j
    · obtain ⟨k, hk⟩ : ∃ k : Nat, k = (i + j) / 2 := ⟨_, rfl⟩
      have hik : i ≤ k := by omega
      have hkj : k < j := by omega
      have hkz : ((i : Int) + (j : Int)) / 2 = (k : Int) := by omega
      obtain ⟨A, v, C, rfl, hAl⟩ := cut_at (l := V2) (k := k - i) (by have := HJ.out; change _ = _ at this; omega)
      have HAl : Hid (A.length + i = k) := by show _ = _; omega
      have g1 : (P ++ x :: (V ++ Q))[k]? = some v := by
        have h1 := HV.out; have h2 := HA.out; have h3 := HI.out; have h4 := HAl.out; have h5 := HM.out
        change _ = _ at h1; change _ = _ at h2; change _ = _ at h3; change _ = _ at h4; change _ = _ at h5
        rw [h1, show P ++ x :: ((V1 ++ ((A ++ v :: C) ++ V3)) ++ Q) = (P ++ x :: (V1 ++ A)) ++ v :: (C ++ V3 ++ Q) by simp]
        exact at_mid _ _ _ (by simp; omega)
      have g2 : (P ++ x :: (V ++ Q))[a]? = some x := at_mid _ _ _ HA.out
      have sv : v.size ≤ 900000 := hsv v (by rw [show V = _ from HV.out]; simp)
      have HG1 := Lib.hid g1
      have HG2 := Lib.hid g2
      have HVS : Hid (Srt (ltF cf) (V1 ++ ((A ++ v :: C) ++ V3))) := by have := hV; rw [show V = _ from HV.out] at this; exact this
      have lk : (k : Int) < (N : Int) := by omega
      have la : (a : Int) < (N : Int) := by omega
      clear hk hAl g1 g2
      have c1 := (HR.out.cell HG1.out).1
      have c2 := (HR.out.cell HG2.out).1
      have gl := (HR.out.cell HG1.out).2.2
      have hLL := @Later.cells wr
      have HCC : Hid (∀ z : Later wr, Calls Tryd.prog 34 #[.string v, .string x] z.at_ fun e w'' => e = .returned (.int .i64 (cf v x)) ∧ ∃ u : Later wr, w'' = u.at_) := fun z => Later.call (HC.out _ _ _ sv hsx)
      go_wp2_with fail
      refine region_later (by kernel_rfl) (by kernel_rfl) ?_
      repeat (go_big_quiet_step ((first | (go_at_call 34; with_reducible exact HCC.out _))))
      refine wpQuiet_nil ?_
      rintro _ ⟨nx, rfl⟩
      have HR2 := Lib.hid (HR.out.later nx.below)
      clear hLL HCC c1 c2 gl HR 
      generalize nx.at_ = w2 at *
      have hq : ltF cf v x = decide (cf v x < 0) := rfl
      generalize decide (cf v x < 0) = q at *
      cases q with
      | true =>
        have HQ := Lib.hid hq
        have wk : IntKind.i64.wrap ((k : Int) + 1) = (k : Int) + 1 := IntWalk.i64_in _ (by omega)
        clear hq
        go_wp2
        go_roundw
        case rel =>
          refine ⟨k + 1, j, V1 ++ (A ++ [v]), C, V3, by first | rfl | go_num, rfl, by omega, by omega, hjb, ?_, ?_, ?_, ?_, HG, HR2⟩
          · show _ = _; rw [show V = _ from HV.out]; simp
          · have h3 := HI.out; have h4 := HAl.out; change _ = _ at h3; change _ = _ at h4; show _ = _; simp; omega
          · have h3 := HJ.out; have h4 := HAl.out; change _ = _ at h3; change _ = _ at h4; show _ = _; simp at h3; omega
          · intro y hy
            rcases List.mem_append.1 hy with hy | hy
            · exact HL.out y hy
            · have hs : Srt (ltF cf) (A ++ v :: C) := HVS.out.right.left
              rcases List.mem_append.1 hy with hy | hy
              · exact hW.of_lt (hs.across y hy v List.mem_cons_self) HQ.out
              · rw [List.mem_singleton.1 hy]; exact HQ.out
        case measure => simp [intOf]; omega
      | false =>
        have HQ := Lib.hid hq
        clear hq
        go_wp2
        go_roundw
        case rel =>
          refine ⟨i, k, V1, A, v :: (C ++ V3), rfl, by first | rfl | go_num, hmi, hik, by omega, ?_, HI, HAl, HL, ?_, HR2⟩
          · show _ = _; rw [show V = _ from HV.out]; simp
          · intro y hy
            rcases List.mem_cons.1 hy with rfl | hy
            · exact HQ.out
            · rcases List.mem_append.1 hy with hy | hy
              · have hs : Srt (ltF cf) (v :: C) := HVS.out.right.left.right
                exact hW.leT (HQ.out) ((List.pairwise_cons.1 hs).1 y hy)
              · exact HG.out y hy
        case measure => simp [intOf]; omega
    · obtain rfl : i = j := by omega
      have hV2 : V2 = [] := List.eq_nil_of_length_eq_zero (by have := HJ.out; change _ = _ at this; omega)
      subst hV2
      clear HJ hij hlt
      have w1 : IntKind.i64.wrap ((i : Int) - 1) = (i : Int) - 1 := IntWalk.i64_in _ (by omega)
      go_wp2
      go_loopw [13] (fun vk wr => ∃ (k : Nat) (Va Vb : List S), vk = .int .i64 k ∧ k ≤ N ∧ Hid (V1 = Va ++ Vb) ∧ Hid (k = a + Va.length) ∧ Hid (SF B g cap N w0 wr (P ++ (Va ++ x :: (Vb ++ (V3 ++ Q)))))) (fun vk _ => i - (intOf vk).toNat)
      case atStart => exact ⟨a, [], V1, rfl, by omega, rfl, rfl, (by show SF _ _ _ _ _ _ _; have := HR.out; rw [show V = _ from HV.out] at this; simpa using this)⟩
      case round =>
        clear HR
        obtain ⟨k, Va, Vb, rfl, hkN, HVab, HK, HR⟩ := hrel
        cases Vb with
        | nil =>
          have d1 : ¬ (k : Int) < (i : Int) - 1 := by
            have h1 := HVab.out; have h2 := HK.out; have h3 := HI.out; have h4 := HM.out
            change _ = _ at h1; change _ = _ at h2; change _ = _ at h3; change _ = _ at h4
            rw [h1] at h3; simp at h3; omega
          go_wp2
          go_end0
          have e : V1 = Va ++ [] := HVab.out
          rw [List.append_nil] at e
          subst e
          have hs : Srt (ltF cf) (V1 ++ V3) := by have := hV; rw [show V = _ from HV.out] at this; simpa using this
          refine ⟨rfl, V1 ++ x :: V3, ?_, ?_, (by have := HR.out; simpa using this)⟩
          · refine Srt.app hs.left (List.pairwise_cons.2 ⟨HG.out, hs.right⟩) fun y hy z hz => ?_
            rcases List.mem_cons.1 hz with rfl | hz
            · exact hW.asym _ _ (HL.out y hy)
            · exact hs.across y hy z hz
          · rw [show V = _ from HV.out]
            have := (SameE.turn hW (u := [x]) (v := V1) (fun p hp q hq => by rw [List.mem_singleton.1 hp]; exact HL.out q hq)).app (SameE.refl V3)
            simpa using this
        | cons y Vc =>
          have hki : k + 1 < i := by
            have h1 := HVab.out; have h2 := HK.out; have h3 := HI.out; have h4 := HM.out
            change _ = _ at h1; change _ = _ at h2; change _ = _ at h3; change _ = _ at h4
            rw [h1] at h3; simp at h3; omega
          have d1 : (k : Int) < (i : Int) - 1 := by omega
          have hp1 : Hid (k = (P ++ Va).length) := by show _ = _; have h1 := HA.out; have h2 := HK.out; change _ = _ at h1; change _ = _ at h2; simp; omega
          have HR' : Hid (SF B g cap N w0 wr ((P ++ Va) ++ x :: y :: (Vc ++ (V3 ++ Q)))) := by show SF _ _ _ _ _ _ _; have := HR.out; simpa using this
          have g1 := at_mid (P ++ Va) x (y :: (Vc ++ (V3 ++ Q))) hp1.out
          have g2 := at_next (P ++ Va) x y (Vc ++ (V3 ++ Q)) hp1.out
          have c1 := (HR'.out.cell g1).1
          have f1 := (HR'.out.cell g1).2.1
          have c2 := (HR'.out.cell g2).1
          have f2 := (HR'.out.cell g2).2.1
          have c3 : (wr.setCell ⟨g, k, none⟩ (.string y)).cell? ⟨g, k + 1, none⟩ = some (.string y) := by rw [World.cell?_setCell_other _ _ _ _ (by simp only [Addr.mk.injEq, not_and, ne_eq]; omega)]; exact c2
          have HS2 : Hid (SF B g cap N w0 ((wr.setCell ⟨g, k, none⟩ (.string y)).setCell ⟨g, k + 1, none⟩ (.string x)).drew ((P ++ Va) ++ y :: x :: (Vc ++ (V3 ++ Q)))) := by
            have := HR'.out.swap g1 g2 (by omega)
            rw [swap_next' _ _ _ _ hp1.out] at this
            exact this
          have lk1 : (k : Int) + 1 < (N : Int) := by omega
          have lk : (k : Int) < (N : Int) := by omega
          have wk : IntKind.i64.wrap ((k : Int) + 1) = (k : Int) + 1 := IntWalk.i64_in _ (by omega)
          have tk : ((k : Int) + 1).toNat = k + 1 := by omega
          have pk : (0 : Int) ≤ (k : Int) + 1 := by omega
          clear g1 g2 HR HR'
          go_wp2_with fail
          go_big_region
          clear c1 c2 c3 f1 f2
          generalize ((wr.setCell ⟨g, k, none⟩ (.string y)).setCell ⟨g, k + 1, none⟩ (.string x)).drew = w3 at *
          go_wp2
          go_roundw
          case rel => exact ⟨k + 1, Va ++ [y], Vc, by first | rfl | go_num, by omega, (by show _ = _; rw [show V1 = _ from HVab.out]; simp), (by show _ = _; rw [List.length_append, ← Nat.add_assoc, ← show k = _ from HK.out]; rfl), (by show SF _ _ _ _ _ _ _; have := HS2.out; simpa using this)⟩
          case measure => simp [intOf]; omega
set_option maxRecDepth 100000 in
set_option maxHeartbeats 4000000 in
theorem symRight_any {B g cap N a m b : Nat} {w0 : World} {cf : S → S → Int} (hC : CmpOk cf) (hW : Weak (ltF cf)) (P U : List S) (x : S) (Q : List S) (hN : N ≤ 1000000) (ha : a = P.length) (hm : m = a + U.length) (hb : b = m + 1) (hu : U.length ≠ 1) (hsx : x.size ≤ 900000) (hsu : AllSmall U) (hU : Srt (ltF cf) U) (w : World) (h : SF B g cap N w0 w (P ++ (U ++ x :: Q))) :
    Calls Tryd.prog 98 #[.slice (some ⟨g, 0, none⟩) N cap, .int .i64 a, .int .i64 m, .int .i64 b, cmpF] w (Merged cf B g cap N w0 P U [x] Q) := by
  have hlen := h.len
  simp only [List.length_append, List.length_cons] at hlen
  have HS := Lib.hid h
  have HC := Lib.hid hC
  have HA := Lib.hid ha
  have HM := Lib.hid hm
  have hmN : m < N := by omega
  have ham : a ≤ m := by omega
  obtain ⟨n, hn⟩ : ∃ n, n = U.length := ⟨_, rfl⟩
  have e1 : IntKind.i64.wrap ((m : Int) - (a : Int)) = (n : Int) := by rw [show (m : Int) - (a : Int) = (n : Int) by omega]; exact IntWalk.i64_in _ (by omega)
  have e2 : ((n : Int) == 1) = false := by rw [beq_eq_false_iff_ne]; omega
  have e2' : (n == 1) = false := by rw [beq_eq_false_iff_ne]; omega
  have e3 : IntKind.i64.wrap ((b : Int) - (m : Int)) = 1 := by rw [show (b : Int) - (m : Int) = 1 by omega]; exact IntWalk.i64_in _ (by omega)
  clear h hC hlen ha hb hm hn hu
  have hen := enters_cmp
  unfold cmpF
  go_enter Tryd.func98, Tryd.ntmps98
  go_wp2
  clear e1 e2 e2' e3
  go_loopw [14, 15] (fun vi vj wr => ∃ (i j : Nat) (U1 U2 U3 : List S), vi = .int .i64 i ∧ vj = .int .i64 j ∧ a ≤ i ∧ i ≤ j ∧ j ≤ m ∧ Hid (U = U1 ++ (U2 ++ U3)) ∧ Hid (U1.length + a = i) ∧ Hid (U2.length + i = j) ∧ Hid (∀ v ∈ U1, ltF cf x v = false) ∧ Hid (∀ v ∈ U3, ltF cf x v = true) ∧ Hid (SF B g cap N w0 wr (P ++ (U ++ x :: Q)))) (fun vi vj _ => (intOf vj).toNat - (intOf vi).toNat)
  case atStart => exact ⟨a, m, [], U, [], rfl, rfl, Nat.le_refl _, ham, Nat.le_refl _, (by show _ = _; simp), (by show _ = _; simp), (by show _ = _; rw [HM.out]; omega), (by show ∀ _, _; simp), (by show ∀ _, _; simp), HS⟩
  case round =>
    clear HS
    obtain ⟨i, j, U1, U2, U3, rfl, rfl, hmi, hij, hjb, HV, HI, HJ, HL, HG, HR⟩ := hrel
    by_cases hlt : i < j
    · obtain ⟨k, hk⟩ : ∃ k : Nat, k = (i + j) / 2 := ⟨_, rfl⟩
      have hik : i ≤ k := by omega
      have hkj : k < j := by omega
      have hkz : ((i : Int) + (j : Int)) / 2 = (k : Int) := by omega
      obtain ⟨A, v, C, rfl, hAl⟩ := cut_at (l := U2) (k := k - i) (by have := HJ.out; change _ = _ at this; omega)
      have HAl : Hid (A.length + i = k) := by show _ = _; omega
      have g1 : (P ++ (U ++ x :: Q))[k]? = some v := by
        have h1 := HV.out; have h2 := HA.out; have h3 := HI.out; have h4 := HAl.out
        change _ = _ at h1; change _ = _ at h2; change _ = _ at h3; change _ = _ at h4
        rw [h1, show P ++ ((U1 ++ ((A ++ v :: C) ++ U3)) ++ x :: Q) = (P ++ (U1 ++ A)) ++ v :: (C ++ U3 ++ x :: Q) by simp]
        exact at_mid _ _ _ (by simp; omega)
      have g2 : (P ++ (U ++ x :: Q))[m]? = some x := by
        rw [show P ++ (U ++ x :: Q) = (P ++ U) ++ x :: Q by simp]
        exact at_mid _ _ _ (by have h1 := HA.out; have h2 := HM.out; change _ = _ at h1; change _ = _ at h2; simp; omega)
      have sv : v.size ≤ 900000 := hsu v (by rw [show U = _ from HV.out]; simp)
      have HG1 := Lib.hid g1
      have HG2 := Lib.hid g2
      have HVS : Hid (Srt (ltF cf) (U1 ++ ((A ++ v :: C) ++ U3))) := by have := hU; rw [show U = _ from HV.out] at this; exact this
      have lk : (k : Int) < (N : Int) := by omega
      have la : (m : Int) < (N : Int) := by omega
      clear hk hAl g1 g2
      have c1 := (HR.out.cell HG2.out).1
      have c2 := (HR.out.cell HG1.out).1
      have gl := (HR.out.cell HG2.out).2.2
      have hLL := @Later.cells wr
      have HCC : Hid (∀ z : Later wr, Calls Tryd.prog 34 #[.string x, .string v] z.at_ fun e w'' => e = .returned (.int .i64 (cf x v)) ∧ ∃ u : Later wr, w'' = u.at_) := fun z => Later.call (HC.out _ _ _ hsx sv)
      go_wp2_with fail
      refine region_later (by kernel_rfl) (by kernel_rfl) ?_
      repeat (go_big_quiet_step ((first | (go_at_call 34; with_reducible exact HCC.out _))))
      refine wpQuiet_nil ?_
      rintro _ ⟨nx, rfl⟩
      have HR2 := Lib.hid (HR.out.later nx.below)
      clear hLL HCC c1 c2 gl HR 
      generalize nx.at_ = w2 at *
      have hq : ltF cf x v = decide (cf x v < 0) := rfl
      generalize decide (cf x v < 0) = q at *
      cases q with
      | false =>
        have HQ := Lib.hid hq
        have wk : IntKind.i64.wrap ((k : Int) + 1) = (k : Int) + 1 := IntWalk.i64_in _ (by omega)
        clear hq
        go_wp2
        go_roundw
        case rel =>
          refine ⟨k + 1, j, U1 ++ (A ++ [v]), C, U3, by first | rfl | go_num, rfl, by omega, by omega, hjb, ?_, ?_, ?_, ?_, HG, HR2⟩
          · show _ = _; rw [show U = _ from HV.out]; simp
          · have h3 := HI.out; have h4 := HAl.out; change _ = _ at h3; change _ = _ at h4; show _ = _; simp; omega
          · have h3 := HJ.out; have h4 := HAl.out; change _ = _ at h3; change _ = _ at h4; show _ = _; simp at h3; omega
          · intro y hy
            rcases List.mem_append.1 hy with hy | hy
            · exact HL.out y hy
            · have hs : Srt (ltF cf) (A ++ v :: C) := HVS.out.right.left
              rcases List.mem_append.1 hy with hy | hy
              · exact hW.leT (hs.across y hy v List.mem_cons_self) HQ.out
              · rw [List.mem_singleton.1 hy]; exact HQ.out
        case measure => simp [intOf]; omega
      | true =>
        have HQ := Lib.hid hq
        clear hq
        go_wp2
        go_roundw
        case rel =>
          refine ⟨i, k, U1, A, v :: (C ++ U3), rfl, by first | rfl | go_num, hmi, hik, by omega, ?_, HI, HAl, HL, ?_, HR2⟩
          · show _ = _; rw [show U = _ from HV.out]; simp
          · intro y hy
            rcases List.mem_cons.1 hy with rfl | hy
            · exact HQ.out
            · rcases List.mem_append.1 hy with hy | hy
              · have hs : Srt (ltF cf) (v :: C) := HVS.out.right.left.right
                exact hW.lt_of HQ.out ((List.pairwise_cons.1 hs).1 y hy)
              · exact HG.out y hy
        case measure => simp [intOf]; omega
    · obtain rfl : i = j := by omega
      have hV2 : U2 = [] := List.eq_nil_of_length_eq_zero (by have := HJ.out; change _ = _ at this; omega)
      subst hV2
      clear HJ hij hlt
      go_wp2
      go_loopw [17] (fun vk wr => ∃ (k : Nat) (Ua Ub : List S), vk = .int .i64 k ∧ k ≤ m ∧ Hid (U3 = Ua ++ Ub) ∧ Hid (k = i + Ua.length) ∧ Hid (SF B g cap N w0 wr (P ++ (U1 ++ (Ua ++ x :: (Ub ++ Q)))))) (fun vk _ => (intOf vk).toNat)
      case atStart =>
        refine ⟨m, U3, [], rfl, Nat.le_refl _, (by show _ = _; simp), ?_, ?_⟩
        · have h1 := HV.out; have h2 := HM.out; have h3 := HI.out
          change _ = _ at h1; change _ = _ at h2; change _ = _ at h3
          show _ = _
          rw [h1] at h2; simp at h2; omega
        · show SF _ _ _ _ _ _ _; have := HR.out; rw [show U = _ from HV.out] at this; simpa using this
      case round =>
        clear HR
        obtain ⟨k, Ua, Ub, rfl, hkN, HVab, HK, HR⟩ := hrel
        by_cases hki : i < k
        · obtain ⟨Uc, y, rfl⟩ := snoc_of (l := Ua) (fun e => by have := HK.out; change _ = _ at this; rw [e] at this; simp at this; omega)
          obtain ⟨jp, hjp⟩ : ∃ jp, k = jp + 1 := ⟨k - 1, by omega⟩
          subst hjp
          have w1 : IntKind.i64.wrap ((jp : Int) + 1 - 1) = (jp : Int) := by rw [show (jp : Int) + 1 - 1 = (jp : Int) by omega]; exact IntWalk.i64_in _ (by omega)
          have d1 : (i : Int) < (jp : Int) + 1 := by omega
          have hp1 : Hid (jp = (P ++ (U1 ++ Uc)).length) := by show _ = _; have h1 := HA.out; have h2 := HK.out; have h3 := HI.out; change _ = _ at h1; change _ = _ at h2; change _ = _ at h3; simp at *; omega
          have HR' : Hid (SF B g cap N w0 wr ((P ++ (U1 ++ Uc)) ++ y :: x :: (Ub ++ Q))) := by show SF _ _ _ _ _ _ _; have := HR.out; simpa using this
          have g1 := at_mid (P ++ (U1 ++ Uc)) y (x :: (Ub ++ Q)) hp1.out
          have g2 := at_next (P ++ (U1 ++ Uc)) y x (Ub ++ Q) hp1.out
          have c1 := (HR'.out.cell g1).1
          have f1 := (HR'.out.cell g1).2.1
          have c2 := (HR'.out.cell g2).1
          have f2 := (HR'.out.cell g2).2.1
          have c3 : (wr.setCell ⟨g, jp + 1, none⟩ (.string y)).cell? ⟨g, jp, none⟩ = some (.string y) := by rw [World.cell?_setCell_other _ _ _ _ (by simp only [Addr.mk.injEq, not_and, ne_eq]; omega)]; exact c1
          have HS2 : Hid (SF B g cap N w0 ((wr.setCell ⟨g, jp + 1, none⟩ (.string y)).setCell ⟨g, jp, none⟩ (.string x)).drew ((P ++ (U1 ++ Uc)) ++ x :: y :: (Ub ++ Q))) := by
            have := HR'.out.swap g2 g1 (by omega)
            rw [swap_next _ _ _ _ hp1.out] at this
            exact this
          have l1 : (jp : Int) + 1 < (N : Int) := by omega
          have l2 : (jp : Int) < (N : Int) := by omega
          have t1 : ((jp : Int) + 1).toNat = jp + 1 := by omega
          have p1 : (0 : Int) ≤ (jp : Int) + 1 := by omega
          clear g1 g2 HR HR'
          go_wp2_with fail
          go_big_region
          clear c1 c2 c3 f1 f2
          generalize ((wr.setCell ⟨g, jp + 1, none⟩ (.string y)).setCell ⟨g, jp, none⟩ (.string x)).drew = w3 at *
          go_wp2
          go_roundw
          case rel => exact ⟨jp, Uc, y :: Ub, by first | rfl | go_num, by omega, (by show _ = _; rw [show U3 = _ from HVab.out]; simp), (by have h2 := HK.out; change _ = _ at h2; show _ = _; simp at h2; omega), (by show SF _ _ _ _ _ _ _; have := HS2.out; simpa using this)⟩
          case measure => simp [intOf]
        · have d1 : ¬ (i : Int) < (k : Int) := by omega
          have hUa : Ua = [] := List.eq_nil_of_length_eq_zero (by have := HK.out; change _ = _ at this; omega)
          subst hUa
          go_wp2
          go_end0
          have e : U3 = [] ++ Ub := HVab.out
          rw [List.nil_append] at e
          subst e
          have hs : Srt (ltF cf) (U1 ++ U3) := by have := hU; rw [show U = _ from HV.out] at this; simpa using this
          refine ⟨rfl, U1 ++ x :: U3, ins_srt hW hs HL.out HG.out, ?_, (by have := HR.out; simpa using this)⟩
          rw [show U = _ from HV.out]
          have := ins_same hW (m1 := U1) HG.out
          simpa using this

end Go.Proofs.YtecffghcpknmjaaDoor
