/- The walk of slices.symMergeCmpFunc at texts, the comparison being the program's own; the conditions stand in the theorems. -/
import Derived.Test.YtecffghcpknmjaaDoorJO04
import Derived.Deep.CutRange

namespace Go.Proofs.YtecffghcpknmjaaDoor
open Go Go.RowKit

theorem cut_at {α : Type} {l : List α} {k : Nat} (h : k < l.length) : ∃ a x b, l = a ++ x :: b ∧ a.length = k := ⟨l.take k, l[k], l.drop (k + 1), by rw [← List.drop_eq_getElem_cons h, List.take_append_drop], by simp; omega⟩
theorem swap_next' {α : Type} (p : List α) (y x : α) (q : List α) {k : Nat} (hk : k = p.length) : ((p ++ y :: x :: q).set k x).set (k + 1) y = p ++ x :: y :: q := by
  subst hk
  rw [List.set_append_right _ _ (Nat.le_refl _), Nat.sub_self, List.set_cons_zero, List.set_append_right _ _ (by omega), show p.length + 1 - p.length = 1 by omega]
  rfl
theorem at_next {α : Type} (p : List α) (y x : α) (q : List α) {k : Nat} (hk : k = p.length) : (p ++ y :: x :: q)[k + 1]? = some x := by
  subst hk
  rw [List.getElem?_append_right (by omega), show p.length + 1 - p.length = 1 by omega]; rfl
/-- What a merge of U and V in the midst of a row leaves. -/
def Merged (cf : S → S → Int) (B g cap N : Nat) (w0 : World) (P U V Q : List S) (e : Ending) (w' : World) : Prop := e = .returned (.tuple #[]) ∧ ∃ M, Srt (ltF cf) M ∧ SameE (ltF cf) (U ++ V) M ∧ SF B g cap N w0 w' (P ++ (M ++ Q))
set_option maxRecDepth 100000 in
set_option maxHeartbeats 4000000 in
theorem symLeft_any {B g cap N a m b : Nat} {w0 : World} {cf : S → S → Int} (hC : CmpOk cf) (hW : Weak (ltF cf)) (P : List S) (x : S) (V Q : List S) (hN : N ≤ 1000000) (ha : a = P.length) (hm : m = a + 1) (hb : b = m + V.length) (hsx : x.size ≤ 900000) (hsv : AllSmall V) (hV : Srt (ltF cf) V) (w : World) (h : SF B g cap N w0 w (P ++ x :: (V ++ Q))) :
    Calls Tryd.prog 98 #[.slice (some ⟨g, 0, none⟩) N cap, .int .i64 a, .int .i64 m, .int .i64 b, cmpF] w (Merged cf B g cap N w0 P [x] V Q) := by
  have hlen := h.len
  simp only [List.length_append, List.length_cons] at hlen
  have HS := Lib.hid h
  have HC := Lib.hid hC
  have HA := Lib.hid ha
  have HM := Lib.hid hm
  have HBV : Hid (b = a + 1 + V.length) := by show _ = _; omega
  have hbN : b ≤ N := by omega
  have hmb : m ≤ b := by omega
  have haN : a < N := by omega
  have hm0 : 0 < m := by omega
  have e1 : IntKind.i64.wrap ((m : Int) - (a : Int)) = 1 := by rw [show (m : Int) - (a : Int) = 1 by omega]; exact IntWalk.i64_in _ (by omega)
  clear h hC hlen ha hb hm
  have hen := enters_cmp
  unfold cmpF
  go_enter Tryd.func98, Tryd.ntmps98
  go_wp2
  clear e1
  go_loopw [10, 11] (fun vi vj wr => ∃ (i j : Nat) (V1 V2 V3 : List S), vi = .int .i64 i ∧ vj = .int .i64 j ∧ m ≤ i ∧ i ≤ j ∧ j ≤ b ∧ Hid (V = V1 ++ (V2 ++ V3)) ∧ Hid (V1.length + m = i) ∧ Hid (V2.length + i = j) ∧ Hid (∀ v ∈ V1, ltF cf v x = true) ∧ Hid (∀ v ∈ V3, ltF cf v x = false) ∧ Hid (SF B g cap N w0 wr (P ++ x :: (V ++ Q)))) (fun vi vj _ => (intOf vj).toNat - (intOf vi).toNat)
  case atStart => exact ⟨m, b, [], V, [], rfl, rfl, Nat.le_refl _, hmb, Nat.le_refl _, (by show _ = _; simp), (by show _ = _; simp), (by show _ = _; rw [HBV.out, HM.out]; omega), (by show ∀ _, _; simp), (by show ∀ _, _; simp), HS⟩
  case round =>
    clear HS
    obtain ⟨i, j, V1, V2, V3, rfl, rfl, hmi, hij, hjb, HV, HI, HJ, HL, HG, HR⟩ := hrel
    by_cases hlt : i < j
    · obtain ⟨k, hk⟩ : ∃ k : Nat, k = (i + j) / 2 := ⟨_, rfl⟩
      have hik : i ≤ k := by omega
      have hkj : k < j := by omega
      have hkz : ((i : Int) + (j : Int)) / 2 = (k : Int) := by omega
      obtain ⟨A, v, C, rfl, hAl⟩ := cut_at (l := V2) (k := k - i) (by have := HJ.out; change _ = _ at this; omega)
      have HAl : Hid (A.length + i = k) := by show _ = _; omega
      have g1 : (P ++ x :: (V ++ Q))[k]? = some v := by
        have h1 := HV.out; have h2 := HA.out; have h3 := HI.out; have h4 := HAl.out; have h5 := HM.out
        change _ = _ at h1; change _ = _ at h2; change _ = _ at h3; change _ = _ at h4; change _ = _ at h5
        rw [h1, show P ++ x :: ((V1 ++ ((A ++ v :: C) ++ V3)) ++ Q) = (P ++ x :: (V1 ++ A)) ++ v :: (C ++ V3 ++ Q) by simp]
        exact at_mid _ _ _ (by simp; omega)
      have g2 : (P ++ x :: (V ++ Q))[a]? = some x := at_mid _ _ _ HA.out
      have sv : v.size ≤ 900000 := hsv v (by rw [show V = _ from HV.out]; simp)
      have HG1 := Lib.hid g1
      have HG2 := Lib.hid g2
      have HVS : Hid (Srt (ltF cf) (V1 ++ ((A ++ v :: C) ++ V3))) := by have := hV; rw [show V = _ from HV.out] at this; exact this
      have lk : (k : Int) < (N : Int) := by omega
      have la : (a : Int) < (N : Int) := by omega
      clear hk hAl g1 g2
      have c1 := (HR.out.cell HG1.out).1
      have c2 := (HR.out.cell HG2.out).1
      have gl := (HR.out.cell HG1.out).2.2
      have hLL := @Later.cells wr
      have HCC : Hid (∀ z : Later wr, Calls Tryd.prog 34 #[.string v, .string x] z.at_ fun e w'' => e = .returned (.int .i64 (cf v x)) ∧ ∃ u : Later wr, w'' = u.at_) := fun z => Later.call (HC.out _ _ _ sv hsx)
      go_wp2_with fail
      refine region_later (by kernel_rfl) (by kernel_rfl) ?_
      repeat (go_big_quiet_step ((first | (go_at_call 34; with_reducible exact HCC.out _))))
      refine wpQuiet_nil ?_
      rintro _ ⟨nx, rfl⟩
      have HR2 := Lib.hid (HR.out.later nx.below)
      clear hLL HCC c1 c2 gl HR 
      generalize nx.at_ = w2 at *
      have hq : ltF cf v x = decide (cf v x < 0) := rfl
      generalize decide (cf v x < 0) = q at *
      cases q with
      | true =>
        have HQ := Lib.hid hq
        have wk : IntKind.i64.wrap ((k : Int) + 1) = (k : Int) + 1 := IntWalk.i64_in _ (by omega)
        clear hq
        go_wp2
        go_roundw
        case rel =>
          refine ⟨k + 1, j, V1 ++ (A ++ [v]), C, V3, by first | rfl | go_num, rfl, by omega, by omega, hjb, ?_, ?_, ?_, ?_, HG, HR2⟩
          · show _ = _; rw [show V = _ from HV.out]; simp
          · have h3 := HI.out; have h4 := HAl.out; change _ = _ at h3; change _ = _ at h4; show _ = _; simp; omega
          · have h3 := HJ.out; have h4 := HAl.out; change _ = _ at h3; change _ = _ at h4; show _ = _; simp at h3; omega
          · intro y hy
            rcases List.mem_append.1 hy with hy | hy
            · exact HL.out y hy
            · have hs : Srt (ltF cf) (A ++ v :: C) := HVS.out.right.left
              rcases List.mem_append.1 hy with hy | hy
              · exact hW.of_lt (hs.across y hy v List.mem_cons_self) HQ.out
              · rw [List.mem_singleton.1 hy]; exact HQ.out
        case measure => simp [intOf]; omega
      | false =>
        have HQ := Lib.hid hq
        clear hq
        go_wp2
        go_roundw
        case rel =>
          refine ⟨i, k, V1, A, v :: (C ++ V3), rfl, by first | rfl | go_num, hmi, hik, by omega, ?_, HI, HAl, HL, ?_, HR2⟩
          · show _ = _; rw [show V = _ from HV.out]; simp
          · intro y hy
            rcases List.mem_cons.1 hy with rfl | hy
            · exact HQ.out
            · rcases List.mem_append.1 hy with hy | hy
              · have hs : Srt (ltF cf) (v :: C) := HVS.out.right.left.right
                exact hW.leT (HQ.out) ((List.pairwise_cons.1 hs).1 y hy)
              · exact HG.out y hy
        case measure => simp [intOf]; omega
    · obtain rfl : i = j := by omega
      have hV2 : V2 = [] := List.eq_nil_of_length_eq_zero (by have := HJ.out; change _ = _ at this; omega)
      subst hV2
      clear HJ hij hlt
      have w1 : IntKind.i64.wrap ((i : Int) - 1) = (i : Int) - 1 := IntWalk.i64_in _ (by omega)
      go_wp2
      go_loopw [13] (fun vk wr => ∃ (k : Nat) (Va Vb : List S), vk = .int .i64 k ∧ k ≤ N ∧ Hid (V1 = Va ++ Vb) ∧ Hid (k = a + Va.length) ∧ Hid (SF B g cap N w0 wr (P ++ (Va ++ x :: (Vb ++ (V3 ++ Q)))))) (fun vk _ => i - (intOf vk).toNat)
      case atStart => exact ⟨a, [], V1, rfl, by omega, rfl, rfl, (by show SF _ _ _ _ _ _ _; have := HR.out; rw [show V = _ from HV.out] at this; simpa using this)⟩
      case round =>
        clear HR
        obtain ⟨k, Va, Vb, rfl, hkN, HVab, HK, HR⟩ := hrel
        cases Vb with
        | nil =>
          have d1 : ¬ (k : Int) < (i : Int) - 1 := by
            have h1 := HVab.out; have h2 := HK.out; have h3 := HI.out; have h4 := HM.out
            change _ = _ at h1; change _ = _ at h2; change _ = _ at h3; change _ = _ at h4
            rw [h1] at h3; simp at h3; omega
          go_wp2
          go_end0
          have e : V1 = Va ++ [] := HVab.out
          rw [List.append_nil] at e
          subst e
          have hs : Srt (ltF cf) (V1 ++ V3) := by have := hV; rw [show V = _ from HV.out] at this; simpa using this
          refine ⟨rfl, V1 ++ x :: V3, ?_, ?_, (by have := HR.out; simpa using this)⟩
          · refine Srt.app hs.left (List.pairwise_cons.2 ⟨HG.out, hs.right⟩) fun y hy z hz => ?_
            rcases List.mem_cons.1 hz with rfl | hz
            · exact hW.asym _ _ (HL.out y hy)
            · exact hs.across y hy z hz
          · rw [show V = _ from HV.out]
            have := (SameE.turn hW (u := [x]) (v := V1) (fun p hp q hq => by rw [List.mem_singleton.1 hp]; exact HL.out q hq)).app (SameE.refl V3)
            simpa using this
        | cons y Vc =>
          have hki : k + 1 < i := by
            have h1 := HVab.out; have h2 := HK.out; have h3 := HI.out; have h4 := HM.out
            change _ = _ at h1; change _ = _ at h2; change _ = _ at h3; change _ = _ at h4
            rw [h1] at h3; simp at h3; omega
          have d1 : (k : Int) < (i : Int) - 1 := by omega
          have hp1 : Hid (k = (P ++ Va).length) := by show _ = _; have h1 := HA.out; have h2 := HK.out; change _ = _ at h1; change _ = _ at h2; simp; omega
          have HR' : Hid (SF B g cap N w0 wr ((P ++ Va) ++ x :: y :: (Vc ++ (V3 ++ Q)))) := by show SF _ _ _ _ _ _ _; have := HR.out; simpa using this
          have g1 := at_mid (P ++ Va) x (y :: (Vc ++ (V3 ++ Q))) hp1.out
          have g2 := at_next (P ++ Va) x y (Vc ++ (V3 ++ Q)) hp1.out
          have c1 := (HR'.out.cell g1).1
          have f1 := (HR'.out.cell g1).2.1
          have c2 := (HR'.out.cell g2).1
          have f2 := (HR'.out.cell g2).2.1
          have c3 : (wr.setCell ⟨g, k, none⟩ (.string y)).cell? ⟨g, k + 1, none⟩ = some (.string y) := by rw [World.cell?_setCell_other _ _ _ _ (by simp only [Addr.mk.injEq, not_and, ne_eq]; omega)]; exact c2
          have HS2 : Hid (SF B g cap N w0 ((wr.setCell ⟨g, k, none⟩ (.string y)).setCell ⟨g, k + 1, none⟩ (.string x)).drew ((P ++ Va) ++ y :: x :: (Vc ++ (V3 ++ Q)))) := by
            have := HR'.out.swap g1 g2 (by omega)
            rw [swap_next' _ _ _ _ hp1.out] at this
            exact this
          have lk1 : (k : Int) + 1 < (N : Int) := by omega
          have lk : (k : Int) < (N : Int) := by omega
          have wk : IntKind.i64.wrap ((k : Int) + 1) = (k : Int) + 1 := IntWalk.i64_in _ (by omega)
          have tk : ((k : Int) + 1).toNat = k + 1 := by omega
          have pk : (0 : Int) ≤ (k : Int) + 1 := by omega
          clear g1 g2 HR HR'
          go_wp2_with fail
          go_big_region
          clear c1 c2 c3 f1 f2
          generalize ((wr.setCell ⟨g, k, none⟩ (.string y)).setCell ⟨g, k + 1, none⟩ (.string x)).drew = w3 at *
          go_wp2
          go_roundw
          case rel => exact ⟨k + 1, Va ++ [y], Vc, by first | rfl | go_num, by omega, (by show _ = _; rw [show V1 = _ from HVab.out]; simp), (by show _ = _; rw [List.length_append, ← Nat.add_assoc, ← show k = _ from HK.out]; rfl), (by show SF _ _ _ _ _ _ _; have := HS2.out; simpa using this)⟩
          case measure => simp [intOf]; omega
set_option maxRecDepth 100000 in
set_option maxHeartbeats 4000000 in
theorem symRight_any {B g cap N a m b : Nat} {w0 : World} {cf : S → S → Int} (hC : CmpOk cf) (hW : Weak (ltF cf)) (P U : List S) (x : S) (Q : List S) (hN : N ≤ 1000000) (ha : a = P.length) (hm : m = a + U.length) (hb : b = m + 1) (hu : U.length ≠ 1) (hsx : x.size ≤ 900000) (hsu : AllSmall U) (hU : Srt (ltF cf) U) (w : World) (h : SF B g cap N w0 w (P ++ (U ++ x :: Q))) :
    Calls Tryd.prog 98 #[.slice (some ⟨g, 0, none⟩) N cap, .int .i64 a, .int .i64 m, .int .i64 b, cmpF] w (Merged cf B g cap N w0 P U [x] Q) := by
  have hlen := h.len
  simp only [List.length_append, List.length_cons] at hlen
  have HS := Lib.hid h
  have HC := Lib.hid hC
  have HA := Lib.hid ha
  have HM := Lib.hid hm
  have hmN : m < N := by omega
  have ham : a ≤ m := by omega
  obtain ⟨n, hn⟩ : ∃ n, n = U.length := ⟨_, rfl⟩
  have e1 : IntKind.i64.wrap ((m : Int) - (a : Int)) = (n : Int) := by rw [show (m : Int) - (a : Int) = (n : Int) by omega]; exact IntWalk.i64_in _ (by omega)
  have e2 : ((n : Int) == 1) = false := by rw [beq_eq_false_iff_ne]; omega
  have e2' : (n == 1) = false := by rw [beq_eq_false_iff_ne]; omega
  have e3 : IntKind.i64.wrap ((b : Int) - (m : Int)) = 1 := by rw [show (b : Int) - (m : Int) = 1 by omega]; exact IntWalk.i64_in _ (by omega)
  clear h hC hlen ha hb hm hn hu
  have hen := enters_cmp
  unfold cmpF
  go_enter Tryd.func98, Tryd.ntmps98
  go_wp2
  clear e1 e2 e2' e3
  go_loopw [14, 15] (fun vi vj wr => ∃ (i j : Nat) (U1 U2 U3 : List S), vi = .int .i64 i ∧ vj = .int .i64 j ∧ a ≤ i ∧ i ≤ j ∧ j ≤ m ∧ Hid (U = U1 ++ (U2 ++ U3)) ∧ Hid (U1.length + a = i) ∧ Hid (U2.length + i = j) ∧ Hid (∀ v ∈ U1, ltF cf x v = false) ∧ Hid (∀ v ∈ U3, ltF cf x v = true) ∧ Hid (SF B g cap N w0 wr (P ++ (U ++ x :: Q)))) (fun vi vj _ => (intOf vj).toNat - (intOf vi).toNat)
  case atStart => exact ⟨a, m, [], U, [], rfl, rfl, Nat.le_refl _, ham, Nat.le_refl _, (by show _ = _; simp), (by show _ = _; simp), (by show _ = _; rw [HM.out]; omega), (by show ∀ _, _; simp), (by show ∀ _, _; simp), HS⟩
  case round =>
    clear HS
    obtain ⟨i, j, U1, U2, U3, rfl, rfl, hmi, hij, hjb, HV, HI, HJ, HL, HG, HR⟩ := hrel
    by_cases hlt : i < j
    · obtain ⟨k, hk⟩ : ∃ k : Nat, k = (i + j) / 2 := ⟨_, rfl⟩
      have hik : i ≤ k := by omega
      have hkj : k < j := by omega
      have hkz : ((i : Int) + (j : Int)) / 2 = (k : Int) := by omega
      obtain ⟨A, v, C, rfl, hAl⟩ := cut_at (l := U2) (k := k - i) (by have := HJ.out; change _ = _ at this; omega)
      have HAl : Hid (A.length + i = k) := by show _ = _; omega
      have g1 : (P ++ (U ++ x :: Q))[k]? = some v := by
        have h1 := HV.out; have h2 := HA.out; have h3 := HI.out; have h4 := HAl.out
        change _ = _ at h1; change _ = _ at h2; change _ = _ at h3; change _ = _ at h4
        rw [h1, show P ++ ((U1 ++ ((A ++ v :: C) ++ U3)) ++ x :: Q) = (P ++ (U1 ++ A)) ++ v :: (C ++ U3 ++ x :: Q) by simp]
        exact at_mid _ _ _ (by simp; omega)
      have g2 : (P ++ (U ++ x :: Q))[m]? = some x := by
        rw [show P ++ (U ++ x :: Q) = (P ++ U) ++ x :: Q by simp]
        exact at_mid _ _ _ (by have h1 := HA.out; have h2 := HM.out; change _ = _ at h1; change _ = _ at h2; simp; omega)
      have sv : v.size ≤ 900000 := hsu v (by rw [show U = _ from HV.out]; simp)
      have HG1 := Lib.hid g1
      have HG2 := Lib.hid g2
      have HVS : Hid (Srt (ltF cf) (U1 ++ ((A ++ v :: C) ++ U3))) := by have := hU; rw [show U = _ from HV.out] at this; exact this
      have lk : (k : Int) < (N : Int) := by omega
      have la : (m : Int) < (N : Int) := by omega
      clear hk hAl g1 g2
      have c1 := (HR.out.cell HG2.out).1
      have c2 := (HR.out.cell HG1.out).1
      have gl := (HR.out.cell HG2.out).2.2
      have hLL := @Later.cells wr
      have HCC : Hid (∀ z : Later wr, Calls Tryd.prog 34 #[.string x, .string v] z.at_ fun e w'' => e = .returned (.int .i64 (cf x v)) ∧ ∃ u : Later wr, w'' = u.at_) := fun z => Later.call (HC.out _ _ _ hsx sv)
      go_wp2_with fail
      refine region_later (by kernel_rfl) (by kernel_rfl) ?_
      repeat (go_big_quiet_step ((first | (go_at_call 34; with_reducible exact HCC.out _))))
      refine wpQuiet_nil ?_
      rintro _ ⟨nx, rfl⟩
      have HR2 := Lib.hid (HR.out.later nx.below)
      clear hLL HCC c1 c2 gl HR 
      generalize nx.at_ = w2 at *
      have hq : ltF cf x v = decide (cf x v < 0) := rfl
      generalize decide (cf x v < 0) = q at *
      cases q with
      | false =>
        have HQ := Lib.hid hq
        have wk : IntKind.i64.wrap ((k : Int) + 1) = (k : Int) + 1 := IntWalk.i64_in _ (by omega)
        clear hq
        go_wp2
        go_roundw
        case rel =>
          refine ⟨k + 1, j, U1 ++ (A ++ [v]), C, U3, by first | rfl | go_num, rfl, by omega, by omega, hjb, ?_, ?_, ?_, ?_, HG, HR2⟩
          · show _ = _; rw [show U = _ from HV.out]; simp
          · have h3 := HI.out; have h4 := HAl.out; change _ = _ at h3; change _ = _ at h4; show _ = _; simp; omega
          · have h3 := HJ.out; have h4 := HAl.out; change _ = _ at h3; change _ = _ at h4; show _ = _; simp at h3; omega
          · intro y hy
            rcases List.mem_append.1 hy with hy | hy
            · exact HL.out y hy
            · have hs : Srt (ltF cf) (A ++ v :: C) := HVS.out.right.left
              rcases List.mem_append.1 hy with hy | hy
              · exact hW.leT (hs.across y hy v List.mem_cons_self) HQ.out
              · rw [List.mem_singleton.1 hy]; exact HQ.out
        case measure => simp [intOf]; omega
      | true =>
        have HQ := Lib.hid hq
        clear hq
        go_wp2
        go_roundw
        case rel =>
          refine ⟨i, k, U1, A, v :: (C ++ U3), rfl, by first | rfl | go_num, hmi, hik, by omega, ?_, HI, HAl, HL, ?_, HR2⟩
          · show _ = _; rw [show U = _ from HV.out]; simp
          · intro y hy
            rcases List.mem_cons.1 hy with rfl | hy
            · exact HQ.out
            · rcases List.mem_append.1 hy with hy | hy
              · have hs : Srt (ltF cf) (v :: C) := HVS.out.right.left.right
                exact hW.lt_of HQ.out ((List.pairwise_cons.1 hs).1 y hy)
              · exact HG.out y hy
        case measure => simp [intOf]; omega
    · obtain rfl : i = j := by omega
      have hV2 : U2 = [] := List.eq_nil_of_length_eq_zero (by have := HJ.out; change _ = _ at this; omega)
      subst hV2
      clear HJ hij hlt
      go_wp2
      go_loopw [17] (fun vk wr => ∃ (k : Nat) (Ua Ub : List S), vk = .int .i64 k ∧ k ≤ m ∧ Hid (U3 = Ua ++ Ub) ∧ Hid (k = i + Ua.length) ∧ Hid (SF B g cap N w0 wr (P ++ (U1 ++ (Ua ++ x :: (Ub ++ Q)))))) (fun vk _ => (intOf vk).toNat)
      case atStart =>
        refine ⟨m, U3, [], rfl, Nat.le_refl _, (by show _ = _; simp), ?_, ?_⟩
        · have h1 := HV.out; have h2 := HM.out; have h3 := HI.out
          change _ = _ at h1; change _ = _ at h2; change _ = _ at h3
          show _ = _
          rw [h1] at h2; simp at h2; omega
        · show SF _ _ _ _ _ _ _; have := HR.out; rw [show U = _ from HV.out] at this; simpa using this
      case round =>
        clear HR
        obtain ⟨k, Ua, Ub, rfl, hkN, HVab, HK, HR⟩ := hrel
        by_cases hki : i < k
        · obtain ⟨Uc, y, rfl⟩ := snoc_of (l := Ua) (fun e => by have := HK.out; change _ = _ at this; rw [e] at this; simp at this; omega)
          obtain ⟨jp, hjp⟩ : ∃ jp, k = jp + 1 := ⟨k - 1, by omega⟩
          subst hjp
          have w1 : IntKind.i64.wrap ((jp : Int) + 1 - 1) = (jp : Int) := by rw [show (jp : Int) + 1 - 1 = (jp : Int) by omega]; exact IntWalk.i64_in _ (by omega)
          have d1 : (i : Int) < (jp : Int) + 1 := by omega
          have hp1 : Hid (jp = (P ++ (U1 ++ Uc)).length) := by show _ = _; have h1 := HA.out; have h2 := HK.out; have h3 := HI.out; change _ = _ at h1; change _ = _ at h2; change _ = _ at h3; simp at *; omega
          have HR' : Hid (SF B g cap N w0 wr ((P ++ (U1 ++ Uc)) ++ y :: x :: (Ub ++ Q))) := by show SF _ _ _ _ _ _ _; have := HR.out; simpa using this
          have g1 := at_mid (P ++ (U1 ++ Uc)) y (x :: (Ub ++ Q)) hp1.out
          have g2 := at_next (P ++ (U1 ++ Uc)) y x (Ub ++ Q) hp1.out
          have c1 := (HR'.out.cell g1).1
          have f1 := (HR'.out.cell g1).2.1
          have c2 := (HR'.out.cell g2).1
          have f2 := (HR'.out.cell g2).2.1
          have c3 : (wr.setCell ⟨g, jp + 1, none⟩ (.string y)).cell? ⟨g, jp, none⟩ = some (.string y) := by rw [World.cell?_setCell_other _ _ _ _ (by simp only [Addr.mk.injEq, not_and, ne_eq]; omega)]; exact c1
          have HS2 : Hid (SF B g cap N w0 ((wr.setCell ⟨g, jp + 1, none⟩ (.string y)).setCell ⟨g, jp, none⟩ (.string x)).drew ((P ++ (U1 ++ Uc)) ++ x :: y :: (Ub ++ Q))) := by
            have := HR'.out.swap g2 g1 (by omega)
            rw [swap_next _ _ _ _ hp1.out] at this
            exact this
          have l1 : (jp : Int) + 1 < (N : Int) := by omega
          have l2 : (jp : Int) < (N : Int) := by omega
          have t1 : ((jp : Int) + 1).toNat = jp + 1 := by omega
          have p1 : (0 : Int) ≤ (jp : Int) + 1 := by omega
          clear g1 g2 HR HR'
          go_wp2_with fail
          go_big_region
          clear c1 c2 c3 f1 f2
          generalize ((wr.setCell ⟨g, jp + 1, none⟩ (.string y)).setCell ⟨g, jp, none⟩ (.string x)).drew = w3 at *
          go_wp2
          go_roundw
          case rel => exact ⟨jp, Uc, y :: Ub, by first | rfl | go_num, by omega, (by show _ = _; rw [show U3 = _ from HVab.out]; simp), (by have h2 := HK.out; change _ = _ at h2; show _ = _; simp at h2; omega), (by show SF _ _ _ _ _ _ _; have := HS2.out; simpa using this)⟩
          case measure => simp [intOf]
        · have d1 : ¬ (i : Int) < (k : Int) := by omega
          have hUa : Ua = [] := List.eq_nil_of_length_eq_zero (by have := HK.out; change _ = _ at this; omega)
          subst hUa
          go_wp2
          go_end0
          have e : U3 = [] ++ Ub := HVab.out
          rw [List.nil_append] at e
          subst e
          have hs : Srt (ltF cf) (U1 ++ U3) := by have := hU; rw [show U = _ from HV.out] at this; simpa using this
          refine ⟨rfl, U1 ++ x :: U3, ins_srt hW hs HL.out HG.out, ?_, (by have := HR.out; simpa using this)⟩
          rw [show U = _ from HV.out]
          have := ins_same hW (m1 := U1) HG.out
          simpa using this

end Go.Proofs.YtecffghcpknmjaaDoor

/- The walk of slices.symMergeCmpFunc at texts, in general; the conditions stand in the theorems. -/
namespace Go.Proofs.YtecffghcpknmjaaDoor
open Go Go.RowKit

/-- The contract of a merge of at most k texts. -/
def SymOk (cf : S → S → Int) (B g cap N : Nat) (w0 : World) (k : Nat) : Prop := ∀ (P U V Q : List S) (a m b : Nat) (w : World), U.length + V.length ≤ k → U ≠ [] → V ≠ [] → a = P.length → m = a + U.length → b = m + V.length → AllSmall U → AllSmall V → Srt (ltF cf) U → Srt (ltF cf) V →
  SF B g cap N w0 w (P ++ (U ++ (V ++ Q))) → Calls Tryd.prog 98 #[.slice (some ⟨g, 0, none⟩) N cap, .int .i64 a, .int .i64 m, .int .i64 b, cmpF] w (Merged cf B g cap N w0 P U V Q)
set_option maxRecDepth 100000 in
set_option maxHeartbeats 4000000 in
theorem symBoth_any {B g cap N a m b : Nat} {w0 : World} {cf : S → S → Int} (hC : CmpOk cf) (hW : Weak (ltF cf)) (P U V Q : List S) (hN : N ≤ 1000000) (ha : a = P.length) (hm : m = a + U.length) (hb : b = m + V.length) (hu : 2 ≤ U.length) (hv : 2 ≤ V.length) (hsu : AllSmall U) (hsv : AllSmall V) (hU : Srt (ltF cf) U) (hV : Srt (ltF cf) V)
    (hI : SymOk cf B g cap N w0 (U.length + V.length - 1)) (w : World) (h : SF B g cap N w0 w (P ++ (U ++ (V ++ Q)))) :
    Calls Tryd.prog 98 #[.slice (some ⟨g, 0, none⟩) N cap, .int .i64 a, .int .i64 m, .int .i64 b, cmpF] w (Merged cf B g cap N w0 P U V Q) := by
  have hlen := h.len
  simp only [List.length_append] at hlen
  have HS := Lib.hid h
  have HC := Lib.hid hC
  have HI := Lib.hid hI
  have HA := Lib.hid ha
  have HM := Lib.hid hm
  have HB := Lib.hid hb
  obtain ⟨nu, hnu⟩ : ∃ n, n = U.length := ⟨_, rfl⟩
  obtain ⟨nv, hnv⟩ : ∃ n, n = V.length := ⟨_, rfl⟩
  have e1 : IntKind.i64.wrap ((m : Int) - (a : Int)) = (nu : Int) := by rw [show (m : Int) - (a : Int) = (nu : Int) by omega]; exact IntWalk.i64_in _ (by omega)
  have e2 : ((nu : Int) == 1) = false := by rw [beq_eq_false_iff_ne]; omega
  have e2' : (nu == 1) = false := by rw [beq_eq_false_iff_ne]; omega
  have e3 : IntKind.i64.wrap ((b : Int) - (m : Int)) = (nv : Int) := by rw [show (b : Int) - (m : Int) = (nv : Int) by omega]; exact IntWalk.i64_in _ (by omega)
  have e4 : ((nv : Int) == 1) = false := by rw [beq_eq_false_iff_ne]; omega
  have e4' : (nv == 1) = false := by rw [beq_eq_false_iff_ne]; omega
  obtain ⟨d, hd⟩ : ∃ d : Nat, d = (a + b) / 2 := ⟨_, rfl⟩
  have hdz : ((a : Int) + (b : Int)) / 2 = (d : Int) := by omega
  have hbN : b ≤ N := by omega
  have had : a + 2 ≤ d := by omega
  have hdb : d + 2 ≤ b := by omega
  have ham : a + 2 ≤ m := by omega
  have hmb : m + 2 ≤ b := by omega
  have hab2 : 2 * d ≤ a + b := by omega
  have hab3 : a + b ≤ 2 * d + 1 := by omega
  obtain ⟨n, hn⟩ : ∃ n : Nat, n = d + m := ⟨_, rfl⟩
  have wn : IntKind.i64.wrap ((d : Int) + (m : Int)) = (n : Int) := by rw [show (d : Int) + (m : Int) = (n : Int) by omega]; exact IntWalk.i64_in _ (by omega)
  have wnb : IntKind.i64.wrap ((n : Int) - (b : Int)) = (n : Int) - (b : Int) := IntWalk.i64_in _ (by omega)
  have wn1 : IntKind.i64.wrap ((n : Int) - 1) = (n : Int) - 1 := IntWalk.i64_in _ (by omega)
  have hn2 : 2 ≤ n := by omega
  obtain ⟨s0, r0, hs0, hcase⟩ : ∃ s0 r0 : Nat, (s0 ≤ r0 ∧ r0 ≤ d ∧ r0 ≤ m ∧ a ≤ s0) ∧ ((d < m ∧ s0 + b = n ∧ r0 = d) ∨ (¬ d < m ∧ s0 = a ∧ r0 = m)) := by
    by_cases c : d < m
    · exact ⟨n - b, d, ⟨by omega, by omega, by omega, by omega⟩, .inl ⟨c, by omega, rfl⟩⟩
    · exact ⟨a, m, ⟨by omega, by omega, by omega, by omega⟩, .inr ⟨c, rfl, rfl⟩⟩
  obtain ⟨hsr, hrd, hrm, has⟩ := hs0
  have HCS := Lib.hid hcase
  have HD := Lib.hid hd
  have HN2 := Lib.hid hn
  have hq : (d : Int) < (m : Int) ↔ d < m := by omega
  clear h hC hI hlen ha hb hm hu hv hnu hnv hd hn hcase
  have hen := enters_cmp
  unfold cmpF
  go_enter Tryd.func98, Tryd.ntmps98
  go_upto_if 140 with fail
  clear e1 e2 e2' e3 e4 e4' hdz wn
  go_cut [20, 21] from 140 to 146 (fun x y wx => x = .int .i64 s0 ∧ y = .int .i64 r0 ∧ wx = w)
  case first =>
    rcases HCS.out with ⟨c1, c2, c3⟩ | ⟨c1, c2, c3⟩
    · have d1 : (d : Int) < (m : Int) := by omega
      have d2 : (n : Int) - (b : Int) = (s0 : Int) := by omega
      have HX := Lib.hid c3
      clear c2 c3
      go_wp2
      go_meet
      case rel => exact ⟨rfl, by rw [show r0 = d from HX.out], rfl⟩
    · have d1 : ¬ (d : Int) < (m : Int) := by omega
      have HX := Lib.hid c2
      have HY := Lib.hid c3
      clear c2 c3
      go_wp2
      go_meet
      case rel => exact ⟨by rw [show s0 = a from HX.out], by rw [show r0 = m from HY.out], rfl⟩
  case rest =>
    obtain ⟨rfl, rfl, rfl⟩ := hcut
    go_wp2
    clear wn1
    go_loopw [20, 21] (fun vi vj wr => ∃ (i j : Nat), vi = .int .i64 i ∧ vj = .int .i64 j ∧ s0 ≤ i ∧ i ≤ j ∧ j ≤ r0 ∧ Hid (i = s0 ∨ ∃ x y, a < i ∧ U[i - 1 - a]? = some x ∧ V[d - i]? = some y ∧ ltF cf y x = false) ∧ Hid (j = r0 ∨ ∃ x y, U[j - a]? = some x ∧ V[d - 1 - j]? = some y ∧ ltF cf y x = true) ∧ Hid (SF B g cap N w0 wr (P ++ (U ++ (V ++ Q))))) (fun vi vj _ => (intOf vj).toNat - (intOf vi).toNat)
    case atStart => exact ⟨s0, r0, rfl, rfl, Nat.le_refl _, hsr, Nat.le_refl _, .inl rfl, .inl rfl, HS⟩
    case round =>
      clear HS
      obtain ⟨i, j, rfl, rfl, hsi, hij, hjr, HL, HG, HR⟩ := hrel
      have hid : i ≤ d := by omega
      by_cases hlt : i < j
      · obtain ⟨k, hk⟩ : ∃ k : Nat, k = (i + j) / 2 := ⟨_, rfl⟩
        have hik : i ≤ k := by omega
        have hkj : k < j := by omega
        have hkz : ((i : Int) + (j : Int)) / 2 = (k : Int) := by omega
        have hdn : d + m = n := HN2.out.symm
        obtain ⟨p, hp⟩ : ∃ p : Nat, p + k + 1 = n := ⟨n - 1 - k, by omega⟩
        have wp : IntKind.i64.wrap ((n : Int) - 1 - (k : Int)) = (p : Int) := by rw [show (n : Int) - 1 - (k : Int) = (p : Int) by omega]; exact IntWalk.i64_in _ (by omega)
        have hku : k - a < U.length := by have h2 := HM.out; change _ = _ at h2; omega
        have hpv : d - 1 - k < V.length := by have h1 := HB.out; have h2 := HM.out; have h3 := HCS.out; change _ = _ at h1; change _ = _ at h2; omega
        obtain ⟨u, hu⟩ : ∃ u, U[k - a]? = some u := ⟨_, List.getElem?_eq_getElem hku⟩
        obtain ⟨v, hv⟩ : ∃ v, V[d - 1 - k]? = some v := ⟨_, List.getElem?_eq_getElem hpv⟩
        have HG1 : Hid ((P ++ (U ++ (V ++ Q)))[k]? = some u) := by
          show _ = _
          have h1 := HA.out; change _ = _ at h1
          rw [List.getElem?_append_right (by omega), List.getElem?_append_left (by omega), ← h1]; exact hu
        have HG2 : Hid ((P ++ (U ++ (V ++ Q)))[p]? = some v) := by
          show _ = _
          have h1 := HA.out; have h2 := HM.out; change _ = _ at h1; change _ = _ at h2
          rw [List.getElem?_append_right (by omega), List.getElem?_append_right (by omega), List.getElem?_append_left (by omega), show p - P.length - U.length = d - 1 - k by omega]; exact hv
        have su : u.size ≤ 900000 := hsu u (List.mem_of_getElem? hu)
        have sv : v.size ≤ 900000 := hsv v (List.mem_of_getElem? hv)
        have HU := Lib.hid hu
        have HV := Lib.hid hv
        have lk : (k : Int) < (N : Int) := by omega
        have lp : (p : Int) < (N : Int) := by have h1 := HB.out; have h2 := HM.out; change _ = _ at h1; change _ = _ at h2; omega
        clear hk hp hdn hku hpv hu hv
        have c1 := (HR.out.cell HG2.out).1
        have c2 := (HR.out.cell HG1.out).1
        have gl := (HR.out.cell HG2.out).2.2
        have hLL := @Later.cells wr
        have HCC : Hid (∀ z : Later wr, Calls Tryd.prog 34 #[.string v, .string u] z.at_ fun e w'' => e = .returned (.int .i64 (cf v u)) ∧ ∃ u : Later wr, w'' = u.at_) := fun z => Later.call (HC.out _ _ _ sv su)
        go_wp2_with fail
        refine region_later (by kernel_rfl) (by kernel_rfl) ?_
        repeat (go_big_quiet_step ((first | (go_at_call 34; with_reducible exact HCC.out _))))
        refine wpQuiet_nil ?_
        rintro _ ⟨nx, rfl⟩
        have HR2 := Lib.hid (HR.out.later nx.below)
        clear hLL HCC c1 c2 gl HR 
        generalize nx.at_ = w2 at *
        have hq : ltF cf v u = decide (cf v u < 0) := rfl
        generalize decide (cf v u < 0) = q at *
        cases q with
        | false =>
          have HQ := Lib.hid hq
          have wk : IntKind.i64.wrap ((k : Int) + 1) = (k : Int) + 1 := IntWalk.i64_in _ (by omega)
          clear hq
          go_wp2
          go_roundw
          case rel => exact ⟨k + 1, j, by first | rfl | go_num, rfl, by omega, by omega, hjr, (.inr ⟨u, v, by omega, by rw [Nat.add_sub_cancel]; exact HU.out, by rw [show d - (k + 1) = d - 1 - k by omega]; exact HV.out, HQ.out⟩), HG, HR2⟩
          case measure => simp [intOf]; omega
        | true =>
          have HQ := Lib.hid hq
          clear hq
          go_wp2
          go_roundw
          case rel => exact ⟨i, k, rfl, by first | rfl | go_num, hsi, hik, by omega, HL, (.inr ⟨u, v, HU.out, HV.out, HQ.out⟩), HR2⟩
          case measure => simp [intOf]; omega
      · obtain rfl : i = j := by omega
        have hnd : n = d + m := HN2.out
        obtain ⟨en, hen2⟩ : ∃ en : Nat, en + i = n := ⟨n - i, by omega⟩
        have wen : IntKind.i64.wrap ((n : Int) - (i : Int)) = (en : Int) := by rw [show (n : Int) - (i : Int) = (en : Int) by omega]; exact IntWalk.i64_in _ (by omega)
        have hmU : m = a + U.length := HM.out
        have hbV : b = m + V.length := HB.out
        have hiu : i - a ≤ U.length := by omega
        have hjv : d - i ≤ V.length := by have := HCS.out; omega
        obtain ⟨hh1, hh2⟩ := halves hW hU hV hiu hjv (fun x y hx hj hy => by
            rcases HG.out with e | ⟨x', y', a1, a2, a3⟩
            · exfalso
              rcases HCS.out with ⟨c1, c2, c3⟩ | ⟨c1, c2, c3⟩
              · omega
              · have := (List.getElem?_eq_some_iff.1 hx).1; omega
            · rw [hx] at a1; cases a1
              rw [show d - i - 1 = d - 1 - i by omega] at hy
              rw [hy] at a2; cases a2
              exact a3) (fun x y hi hx hy => by
            rcases HL.out with e | ⟨x', y', a0, a1, a2, a3⟩
            · exfalso
              rcases HCS.out with ⟨c1, c2, c3⟩ | ⟨c1, c2, c3⟩
              · have := (List.getElem?_eq_some_iff.1 hy).1; omega
              · omega
            · rw [show i - 1 - a = i - a - 1 by omega, hx] at a1; cases a1
              rw [hy] at a2; cases a2
              exact a3)
        obtain ⟨U1, hU1⟩ : ∃ l, l = U.take (i - a) := ⟨_, rfl⟩
        obtain ⟨U2, hU2⟩ : ∃ l, l = U.drop (i - a) := ⟨_, rfl⟩
        obtain ⟨V1, hV1⟩ : ∃ l, l = V.take (d - i) := ⟨_, rfl⟩
        obtain ⟨V2, hV2⟩ : ∃ l, l = V.drop (d - i) := ⟨_, rfl⟩
        have eU : U = U1 ++ U2 := by rw [hU1, hU2, List.take_append_drop]
        have eV : V = V1 ++ V2 := by rw [hV1, hV2, List.take_append_drop]
        have lU1 : U1.length = i - a := by rw [hU1, List.length_take]; omega
        have lU2 : U2.length = m - i := by rw [hU2, List.length_drop]; omega
        have lV1 : V1.length = d - i := by rw [hV1, List.length_take]; omega
        have lV2 : V2.length = b - en := by rw [hV2, List.length_drop]; omega
        rw [← hU2, ← hV1] at hh1
        rw [← hU1, ← hV2] at hh2
        clear hU1 hU2 hV1 hV2 HL HG hlt hij
        have HH1 := Lib.hid hh1
        have HH2 := Lib.hid hh2
        subst eU eV
        have LU1 := Lib.hid lU1
        have LU2 := Lib.hid lU2
        have LV1 := Lib.hid lV1
        have LV2 := Lib.hid lV2
        have eim : ((i : Int) < (m : Int)) = (U2 ≠ []) := by
          rw [eq_iff_iff]
          constructor
          · intro h e; rw [e] at lU2; simp at lU2; omega
          · intro h; have := List.length_pos_iff.2 h; omega
        have hmn : m ≤ en := by omega
        have hde : d ≤ en := by omega
        have heb : en ≤ b := by omega
        have hai : a ≤ i := by omega
        have HEN := Lib.hid hen2
        clear eim hh1 hh2 lU1 lU2 lV1 lV2 hmU hbV hnd hen2 hiu hjv
        obtain ⟨q1, hq1⟩ : ∃ q1 : Bool, (q1 = true ↔ i < m ∧ m < en) := ⟨decide (i < m ∧ m < en), by simp⟩
        go_upto_region 39 with fail
        go_cut [185] from 178 to 184 (fun x wx => x = .bool q1 ∧ wr = wx)
        case first =>
          by_cases b1 : i < m
          · have d1 : decide ((i : Int) < (m : Int)) = true := decide_eq_true (by omega)
            have d1n : decide (i < m) = true := decide_eq_true b1
            have d1p : (i : Int) < (m : Int) := by omega
            by_cases b2 : m < en
            · have d2 : decide ((m : Int) < (en : Int)) = true := decide_eq_true (by omega)
              have d2n : decide (m < en) = true := decide_eq_true b2
              have d2p : (m : Int) < (en : Int) := by omega
              obtain rfl : q1 = true := hq1.2 ⟨b1, b2⟩
              go_wp2
              go_meet
              case rel => exact ⟨rfl, rfl⟩
            · have d2 : decide ((m : Int) < (en : Int)) = false := decide_eq_false (by omega)
              have d2n : decide (m < en) = false := decide_eq_false b2
              have d2p : ¬ (m : Int) < (en : Int) := by omega
              obtain rfl : q1 = false := by cases q1 with | false => rfl | true => exact absurd (hq1.1 rfl).2 b2
              go_wp2
              go_meet
              case rel => exact ⟨rfl, rfl⟩
          · have d1 : decide ((i : Int) < (m : Int)) = false := decide_eq_false (by omega)
            have d1n : decide (i < m) = false := decide_eq_false b1
            have d1p : ¬ (i : Int) < (m : Int) := by omega
            obtain rfl : q1 = false := by cases q1 with | false => rfl | true => exact absurd (hq1.1 rfl).1 b1
            go_wp2
            go_meet
            case rel => exact ⟨rfl, rfl⟩
        case rest =>
        obtain ⟨rfl, rfl⟩ := hcut
        have HR0 : Hid (SF B g cap N w0 wr (P ++ (U1 ++ (U2 ++ (V1 ++ (V2 ++ Q)))))) := by show SF _ _ _ _ _ _ _; have := HR.out; simpa using this
        clear HR
        go_upto_if 185 with fail
        go_cut [] from 186 to 191 (fun wx => Hid (SF B g cap N w0 wx (P ++ (U1 ++ (V1 ++ (U2 ++ (V2 ++ Q)))))))
        case first =>
          cases q1 with
          | true =>
            have h12 := hq1.1 rfl
            have hn1 : U2 ≠ [] := fun e => by have := LU2.out; change _ = _ at this; rw [e] at this; simp at this; omega
            have hn2 : V1 ≠ [] := fun e => by have := LV1.out; have h3 := HEN.out; have h4 := HN2.out; change _ = _ at this; change _ = _ at h3; change _ = _ at h4; rw [e] at this; simp at this; omega
            have hc := rotate_any (.func (.func 34) #[] #[]) (P ++ U1) U2 V1 (V2 ++ Q) (a := i) (m := m) (b := en) hN (by have h1 := HA.out; have h2 := LU1.out; change _ = _ at h1; change _ = _ at h2; rw [List.length_append]; omega) (by have h2 := LU2.out; change _ = _ at h2; omega) (by have h2 := LV1.out; have h3 := HEN.out; have h4 := HN2.out; change _ = _ at h2; change _ = _ at h3; change _ = _ at h4; omega) hn1 hn2 wr (by have := HR0.out; simpa using this)
            clear hn1 hn2 hq1
            go_wp2_with fail
            refine hc.mono ?_
            rintro e w9 ⟨rfl, hs⟩
            have HS9 : Hid (SF B g cap N w0 w9 (P ++ (U1 ++ (V1 ++ (U2 ++ (V2 ++ Q)))))) := by show SF _ _ _ _ _ _ _; simpa using hs
            clear hs hc
            go_wp2
            go_meet
            case rel => exact HS9
          | false =>
            have h12 : U2 = [] ∨ V1 = [] := by
              by_cases c : i < m
              · right
                refine List.eq_nil_of_length_eq_zero ?_
                have h1 : ¬ m < en := fun h => by have := hq1.2 ⟨c, h⟩; cases this
                have h2 := LV1.out; have h3 := HEN.out; have h4 := HN2.out; change _ = _ at h2; change _ = _ at h3; change _ = _ at h4; omega
              · left
                refine List.eq_nil_of_length_eq_zero ?_
                have h2 := LU2.out; change _ = _ at h2; omega
            have HS9 : Hid (SF B g cap N w0 wr (P ++ (U1 ++ (V1 ++ (U2 ++ (V2 ++ Q)))))) := by
              show SF _ _ _ _ _ _ _
              have := HR0.out
              rcases h12 with e | e
              · rw [e] at this ⊢; simpa using this
              · rw [e] at this ⊢; simpa using this
            clear h12 hq1
            go_wp2
            go_meet
            case rel => exact HS9
        case rest =>
        have HS1 := hcut
        clear hcut HR0 hq1
        obtain ⟨w1, hw1⟩ : ∃ W, W = wc := ⟨_, rfl⟩
        rw [← hw1] at HS1
        subst hw1
        obtain ⟨q2, hq2⟩ : ∃ q2 : Bool, (q2 = true ↔ a < i ∧ i < d) := ⟨decide (a < i ∧ i < d), by simp⟩
        go_upto_region 41 with fail
        go_cut [199] from 192 to 198 (fun x wx => x = .bool q2 ∧ w1 = wx)
        case first =>
          by_cases b1 : a < i
          · have d1 : decide ((a : Int) < (i : Int)) = true := decide_eq_true (by omega)
            have d1n : decide (a < i) = true := decide_eq_true b1
            have d1p : (a : Int) < (i : Int) := by omega
            by_cases b2 : i < d
            · have d2 : decide ((i : Int) < (d : Int)) = true := decide_eq_true (by omega)
              have d2n : decide (i < d) = true := decide_eq_true b2
              have d2p : (i : Int) < (d : Int) := by omega
              obtain rfl : q2 = true := hq2.2 ⟨b1, b2⟩
              go_wp2
              go_meet
              case rel => exact ⟨rfl, rfl⟩
            · have d2 : decide ((i : Int) < (d : Int)) = false := decide_eq_false (by omega)
              have d2n : decide (i < d) = false := decide_eq_false b2
              have d2p : ¬ (i : Int) < (d : Int) := by omega
              obtain rfl : q2 = false := by cases q2 with | false => rfl | true => exact absurd (hq2.1 rfl).2 b2
              go_wp2
              go_meet
              case rel => exact ⟨rfl, rfl⟩
          · have d1 : decide ((a : Int) < (i : Int)) = false := decide_eq_false (by omega)
            have d1n : decide (a < i) = false := decide_eq_false b1
            have d1p : ¬ (a : Int) < (i : Int) := by omega
            obtain rfl : q2 = false := by cases q2 with | false => rfl | true => exact absurd (hq2.1 rfl).1 b1
            go_wp2
            go_meet
            case rel => exact ⟨rfl, rfl⟩
        case rest =>
        obtain ⟨rfl, rfl⟩ := hcut
        go_upto_if 199 with fail
        go_cut [] from 200 to 205 (fun wx => Hid (∃ M1, Srt (ltF cf) M1 ∧ SameE (ltF cf) (U1 ++ V1) M1 ∧ SF B g cap N w0 wx (P ++ (M1 ++ (U2 ++ (V2 ++ Q))))))
        case first =>
          cases q2 with
          | true =>
            have h12 := hq2.1 rfl
            have hn1 : U1 ≠ [] := fun e => by have := LU1.out; change _ = _ at this; rw [e] at this; simp at this; omega
            have hn2 : V1 ≠ [] := fun e => by have := LV1.out; change _ = _ at this; rw [e] at this; simp at this; omega
            have hc := HI.out P U1 V1 (U2 ++ (V2 ++ Q)) a i d w1 (by
              have h1 := LU1.out; have h2 := LU2.out; have h3 := LV1.out; have h4 := HM.out; have h5 := HB.out
              change _ = _ at h1; change _ = _ at h2; change _ = _ at h3; change _ = _ at h4; change _ = _ at h5
              rw [List.length_append] at h4 h5 ⊢; rw [List.length_append]; omega) hn1 hn2 HA.out (by have h1 := LU1.out; change _ = _ at h1; omega) (by have h1 := LV1.out; change _ = _ at h1; omega) (fun x hx => hsu x (List.mem_append_left _ hx)) (fun x hx => hsv x (List.mem_append_left _ hx)) hU.left hV.left HS1.out
            clear hn1 hn2 hq2
            go_wp2_with fail
            refine hc.mono ?_
            rintro e w9 ⟨rfl, hs⟩
            have HS9 : Hid (∃ M1, Srt (ltF cf) M1 ∧ SameE (ltF cf) (U1 ++ V1) M1 ∧ SF B g cap N w0 w9 (P ++ (M1 ++ (U2 ++ (V2 ++ Q))))) := hs
            clear hs hc
            go_wp2
            go_meet
            case rel => exact HS9
          | false =>
            have h12 : U1 = [] ∨ V1 = [] := by
              by_cases c : a < i
              · right
                refine List.eq_nil_of_length_eq_zero ?_
                have h1 : ¬ i < d := fun h => by have := hq2.2 ⟨c, h⟩; cases this
                have h2 := LV1.out; change _ = _ at h2; omega
              · left
                refine List.eq_nil_of_length_eq_zero ?_
                have h2 := LU1.out; change _ = _ at h2; omega
            have HS9 : Hid (∃ M1, Srt (ltF cf) M1 ∧ SameE (ltF cf) (U1 ++ V1) M1 ∧ SF B g cap N w0 w1 (P ++ (M1 ++ (U2 ++ (V2 ++ Q))))) := by
              refine ⟨U1 ++ V1, ?_, SameE.refl _, by have := HS1.out; simpa using this⟩
              rcases h12 with e | e
              · rw [e]; simpa using hV.left
              · rw [e]; simpa using hU.left
            clear h12 hq2
            go_wp2
            go_meet
            case rel => exact HS9
        case rest =>
        obtain ⟨M1, hs1, he1, hr1⟩ := hcut.out
        have LM1 : Hid (M1.length = d - a) := by
          have h0 := (he1.perm hW).length_eq
          have h1 := LU1.out; have h3 := LV1.out
          change _ = _ at h1; change _ = _ at h3
          show _ = _
          rw [← h0, List.length_append]; omega
        have HS2 := Lib.hid hr1
        have HM1 := Lib.hid hs1
        have HE1 := Lib.hid he1
        clear hcut HS1 hq2 hs1 he1 hr1
        obtain ⟨w2, hw2⟩ : ∃ W, W = wc := ⟨_, rfl⟩
        rw [← hw2] at HS2
        subst hw2
        obtain ⟨q3, hq3⟩ : ∃ q3 : Bool, (q3 = true ↔ d < en ∧ en < b) := ⟨decide (d < en ∧ en < b), by simp⟩
        go_upto_region 43 with fail
        go_cut [213] from 206 to 212 (fun x wx => x = .bool q3 ∧ w2 = wx)
        case first =>
          by_cases b1 : d < en
          · have d1 : decide ((d : Int) < (en : Int)) = true := decide_eq_true (by omega)
            have d1n : decide (d < en) = true := decide_eq_true b1
            have d1p : (d : Int) < (en : Int) := by omega
            by_cases b2 : en < b
            · have d2 : decide ((en : Int) < (b : Int)) = true := decide_eq_true (by omega)
              have d2n : decide (en < b) = true := decide_eq_true b2
              have d2p : (en : Int) < (b : Int) := by omega
              obtain rfl : q3 = true := hq3.2 ⟨b1, b2⟩
              go_wp2
              go_meet
              case rel => exact ⟨rfl, rfl⟩
            · have d2 : decide ((en : Int) < (b : Int)) = false := decide_eq_false (by omega)
              have d2n : decide (en < b) = false := decide_eq_false b2
              have d2p : ¬ (en : Int) < (b : Int) := by omega
              obtain rfl : q3 = false := by cases q3 with | false => rfl | true => exact absurd (hq3.1 rfl).2 b2
              go_wp2
              go_meet
              case rel => exact ⟨rfl, rfl⟩
          · have d1 : decide ((d : Int) < (en : Int)) = false := decide_eq_false (by omega)
            have d1n : decide (d < en) = false := decide_eq_false b1
            have d1p : ¬ (d : Int) < (en : Int) := by omega
            obtain rfl : q3 = false := by cases q3 with | false => rfl | true => exact absurd (hq3.1 rfl).1 b1
            go_wp2
            go_meet
            case rel => exact ⟨rfl, rfl⟩
        case rest =>
        obtain ⟨rfl, rfl⟩ := hcut
        have hjoin : ∀ (M2 : List S) (W : World), Srt (ltF cf) M2 → SameE (ltF cf) (U2 ++ V2) M2 → SF B g cap N w0 W (P ++ (M1 ++ (M2 ++ Q))) → Merged cf B g cap N w0 P (U1 ++ U2) (V1 ++ V2) Q (.returned (.tuple #[])) W := fun M2 W s2 e2 hR => by
          obtain ⟨j1, j2⟩ := halves_join hW hU hV HH1.out HH2.out HM1.out s2 HE1.out e2
          exact ⟨rfl, M1 ++ M2, j1, j2, by simpa using hR⟩
        have HJ := Lib.hid hjoin
        clear hjoin
        cases q3 with
        | true =>
          have h12 := hq3.1 rfl
          have hn1 : U2 ≠ [] := fun e => by have := LU2.out; have h3 := HEN.out; have h4 := HN2.out; change _ = _ at this; change _ = _ at h3; change _ = _ at h4; rw [e] at this; simp at this; omega
          have hn2 : V2 ≠ [] := fun e => by have := LV2.out; change _ = _ at this; rw [e] at this; simp at this; omega
          have hc := HI.out (P ++ M1) U2 V2 Q d en b w2 (by
              have h1 := LU1.out; have h2 := LV2.out; have h3 := LV1.out; have h4 := HM.out; have h5 := HB.out
              change _ = _ at h1; change _ = _ at h2; change _ = _ at h3; change _ = _ at h4; change _ = _ at h5
              rw [List.length_append] at h4 h5 ⊢; rw [List.length_append]; omega) hn1 hn2 (by have h1 := LM1.out; have h2 := HA.out; change _ = _ at h1; change _ = _ at h2; rw [List.length_append]; omega) (by have h1 := LU2.out; have h3 := HEN.out; have h4 := HN2.out; change _ = _ at h1; change _ = _ at h3; change _ = _ at h4; omega) (by have h1 := LV2.out; change _ = _ at h1; omega) (fun x hx => hsu x (List.mem_append_right _ hx)) (fun x hx => hsv x (List.mem_append_right _ hx)) hU.right hV.right (by have := HS2.out; simpa using this)
          clear hn1 hn2 hq3
          go_wp2_with fail
          refine hc.mono ?_
          rintro e w9 ⟨rfl, M2, s2, e2, r2⟩
          have HZ := Lib.hid (HJ.out M2 w9 s2 e2 (by simpa using r2))
          clear hc s2 e2 r2
          go_wp2
          go_end0
          exact HZ.out
        | false =>
          have h12 : U2 = [] ∨ V2 = [] := by
            by_cases c : d < en
            · right
              refine List.eq_nil_of_length_eq_zero ?_
              have h1 : ¬ en < b := fun h => by have := hq3.2 ⟨c, h⟩; cases this
              have h2 := LV2.out; change _ = _ at h2; omega
            · left
              refine List.eq_nil_of_length_eq_zero ?_
              have h2 := LU2.out; have h3 := HEN.out; have h4 := HN2.out; change _ = _ at h2; change _ = _ at h3; change _ = _ at h4; omega
          have HZ := Lib.hid (HJ.out (U2 ++ V2) w2 (by
            rcases h12 with e | e
            · rw [e]; simpa using hV.right
            · rw [e]; simpa using hU.right) (SameE.refl _) (by have := HS2.out; simpa using this))
          clear h12 hq3
          go_wp2
          go_end0
          exact HZ.out

end Go.Proofs.YtecffghcpknmjaaDoor
