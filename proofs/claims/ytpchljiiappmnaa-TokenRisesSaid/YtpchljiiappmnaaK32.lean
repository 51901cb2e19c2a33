/- The walk of the law TokenRises; its condition stands in the theorem. -/
import Derived.Test.YtpchljiiappmnaaK31
namespace Go.Proofs.Ytpchljiiappmnaa
open Go Go.RowKit

/-- What the walk asks of one token: its place, and how it begins. -/
structure TokAt (s : S) (acc : List (Tk × Bs)) (k : Nat) (t : Tk) (o : Nat) : Prop where
  lt : o < s.size
  first : k = 0 → o = 0
  kind : decide (t.kind = 4) = (!(s.data.toList[o]? == some 60) || (decide (o + 9 ≤ s.size) && decide ((s.extract o (o + 9)).data.toList = sData)))

theorem take9 (l : Bs) : sData.isPrefixOf l = (decide (9 ≤ l.length) && decide (l.take 9 = sData)) := by
  rw [Bool.eq_iff_iff, List.isPrefixOf_iff_prefix, List.prefix_iff_eq_take]
  simp only [Bool.and_eq_true, decide_eq_true_eq]
  constructor
  · intro h
    refine ⟨?_, by rw [← h.symm]; rfl⟩
    have := congrArg List.length h
    rw [List.length_take] at this
    simp [sData] at this; omega
  · rintro ⟨-, h⟩
    exact h.symm

theorem tokAt {s : S} {acc : List (Tk × Bs)} (hF : Falls s.data.toList acc []) (hC : Cuts acc) (h0 : ∃ t, acc[0]? = some (t, s.data.toList)) {k : Nat} {t : Tk} {r : Bs} (hk : acc[k]? = some (t, r)) : TokAt s acc k t (pos s r) := by
  have hm := List.mem_of_getElem? hk
  obtain ⟨-, h2, h3⟩ := hF.2 _ hm
  obtain ⟨hne, first, r', ht⟩ := hC _ hm
  simp only at h2 h3 hne ht
  have hp : pos s r + r.length = s.size := pos_add h3
  have hd := pos_drop h3
  refine ⟨by simp at h2; omega, fun e => ?_, ?_⟩
  · subst e
    obtain ⟨t0, h0⟩ := h0
    rw [hk] at h0
    cases h0
    unfold pos; rw [size_data]; omega
  · rw [tokenR_kind ht hne]
    unfold textStart
    have e1 : s.data.toList[pos s r]? = r.head? := by
      have := congrArg List.head? hd
      rw [← this, List.head?_drop]
    rw [e1, take9, Lib.extract_data, hd, Nat.add_sub_cancel_left]
    congr 2
    rw [decide_eq_decide]
    omega

theorem rise {s : S} {acc : List (Tk × Bs)} (hF : Falls s.data.toList acc []) {j k : Nat} (hjk : j < k) {p q : Tk × Bs} (hj : acc[j]? = some p) (hk : acc[k]? = some q) : pos s p.2 < pos s q.2 := by
  obtain ⟨hj1, rfl⟩ := List.getElem?_eq_some_iff.1 hj
  obtain ⟨hk1, rfl⟩ := List.getElem?_eq_some_iff.1 hk
  have h1 := (List.pairwise_iff_getElem.1 hF.1 j k hj1 hk1 hjk).2
  obtain ⟨-, -, h3⟩ := hF.2 _ (List.getElem_mem hj1)
  obtain ⟨-, -, h4⟩ := hF.2 _ (List.getElem_mem hk1)
  have := pos_add h3
  have := pos_add h4
  omega

theorem rise_ge {s : S} {acc : List (Tk × Bs)} (hF : Falls s.data.toList acc []) (k : Nat) (q : Tk × Bs) (hk : acc[k]? = some q) : k ≤ pos s q.2 := by
  induction k generalizing q with
  | zero => exact Nat.zero_le _
  | succ k ih =>
    have hlt := (List.getElem?_eq_some_iff.1 hk).1
    have h1 := ih acc[k] (List.getElem?_eq_getElem (by omega))
    have h2 := rise hF (Nat.lt_succ_self k) (List.getElem?_eq_getElem (by omega)) hk
    omega

set_option maxRecDepth 100000 in
set_option maxHeartbeats 8000000 in
theorem rises_any (s0 : S) (m : Int) (w : World) (hm : w.cell? ⟨0, 0, none⟩ = some (.int .i64 m)) :
    Calls Try.prog 4 #[.string s0] w fun e w' => e = .returned (.bool true) ∧ Below w.heap.size w w' := by
  have hw0 : 0 < w.heap.size := World.block_lt_of_cell? w _ hm
  have HM := Lib.hid hm
  clear hm
  have hs := cutS_size s0
  have HCUT := Lib.hid (fun w => cut_any s0 w)
  generalize cutS s0 = s at *
  have hs65 : s.size ≤ 65536 := by omega
  cases hall : allR s.data.toList with
  | bad x r =>
    have hA := all_bad s m w hs65 HM.out hall
    have HA := Lib.hid hA
    have hx0 : (x != 0) = true := by rw [bne_iff_ne]; exact allR_bad_ne hall
    clear hA hall
    go_enter Try.func4, Try.ntmps4
    go_wp2_with fail
    refine (HCUT.out _).mono ?_
    rintro e w' ⟨rfl, rfl⟩
    go_wp2_with fail
    refine HA.out.mono ?_
    intro e w1 hO
    obtain ⟨rfl, hb1⟩ := hO
    unfold placeV
    generalize (lineCol (s.data.toList.take (pos s r))).1 = li at *
    generalize (lineCol (s.data.toList.take (pos s r))).2 = co at *
    generalize pos s r = o at *
    go_wp2_with fail
    refine Calls.world ?_
    intro W hW
    have hB : Below w.heap.size w W := by rw [hW]; exact hb1.alloc hb1.size _
    clear hW hb1
    refine (lives_any m W ((hB.cell hw0).trans HM.out)).mono ?_
    rintro e w2 ⟨rfl, hb2⟩
    go_wp2
    go_ret
    exact ⟨rfl, hB.trans (hb2.mono hB.size)⟩
  | ok acc r =>
    have hA := all_ok s m w hs65 HM.out hall
    have HA := Lib.hid hA
    obtain ⟨hF, -, hC, h0, h1⟩ := allR_facts hall
    have HT : Hid (∀ k t r, acc[k]? = some (t, r) → TokAt s acc k t (pos s r)) := fun k t r hk => by
      refine tokAt hF hC (h1 ?_) hk
      intro e
      rw [h0 e] at hk
      cases hk
    have HR : Hid (∀ j k, ∀ p q : Tk × Bs, j < k → acc[j]? = some p → acc[k]? = some q → pos s p.2 < pos s q.2) := fun j k p q hjk hj hk => rise hF hjk hj hk
    have HG : Hid (∀ k (q : Tk × Bs), acc[k]? = some q → k ≤ pos s q.2) := fun k q hk => rise_ge hF k q hk
    have HE : Hid (acc.length = 0 ↔ s.size = 0) := by
      show _ ↔ _
      rw [← size_data]
      constructor
      · intro e
        by_cases h : s.data.toList = []
        · rw [h]; rfl
        · obtain ⟨t, ht⟩ := h1 h
          rw [List.eq_nil_of_length_eq_zero e] at ht
          cases ht
      · intro e
        rw [h0 (List.eq_nil_of_length_eq_zero e)]; rfl
    clear hA hall hF hC h0 h1
    go_enter Try.func4, Try.ntmps4
    go_wp2_with fail
    refine (HCUT.out _).mono ?_
    rintro e w' ⟨rfl, rfl⟩
    go_wp2_with fail
    refine HA.out.mono ?_
    intro e w1 hO
    obtain ⟨ov, L, rfl, hT, hb1⟩ := hO
    obtain ⟨ao, cap, rfl⟩ := hT.own.shape
    have HL := Lib.hid hT.len
    have HTS := Lib.hid hT
    have HB1 := Lib.hid hb1
    clear hT hb1
    have hE : (!(((L.length : Nat) : Int) == 0) == s.toList.isEmpty) = false := by
      rw [empty_data]
      by_cases h : s.size = 0
      · have := HE.out.2 h
        rw [HL.out, this, h]; rfl
      · have h2 : ¬ acc.length = 0 := fun e => h (HE.out.1 e)
        have h3 : (((L.length : Nat) : Int) == 0) = false := by rw [beq_eq_false_iff_ne, HL.out]; omega
        rw [h3]; simp [h]
    unfold zeroPlace
    go_wp2_with fail
    clear hE
    refine wp_world ?_
    intro W hW
    have hB : Below w1.heap.size w1 W := by rw [hW]; exact (Below.refl _ _).alloc (Nat.le_refl _) _
    clear hW
    have HB := Lib.hid hB
    have hW0 : 0 < W.heap.size := Nat.lt_of_lt_of_le hw0 (Nat.le_trans HB1.out.size hB.size)
    have HMW : Hid (W.cell? ⟨0, 0, none⟩ = some (.int .i64 m)) := (hB.cell (by exact Nat.lt_of_lt_of_le hw0 HB1.out.size)).trans ((HB1.out.cell (by exact hw0)).trans HM.out)
    have hw1le : w1.heap.size ≤ W.heap.size := hB.size
    have hwle : w.heap.size ≤ W.heap.size := Nat.le_trans HB1.out.size hB.size
    clear hB
    go_loopw [6, 7, 8, 9, 29] (fun _ _ _ _ i wr => ∃ k : Nat, i = .int .i64 k ∧ k ≤ L.length ∧ Below W.heap.size W wr) (fun _ _ _ _ i _ => L.length - (intOf i).toNat)
    case atStart => exact ⟨0, rfl, Nat.zero_le _, Below.refl _ _⟩
    case round =>
      obtain ⟨k, rfl, hk, hb⟩ := hrel
      have HK := Lib.hid hb
      have hwr := hb.size
      clear hb
      by_cases hlt : k < L.length
      · have hltI : (k : Int) < (L.length : Int) := by omega
        obtain ⟨t, rr, hg⟩ : ∃ t rr, acc[k]? = some (t, rr) := ⟨_, _, List.getElem?_eq_getElem (by rw [← HL.out]; exact hlt)⟩
        obtain ⟨g, o, cap', av, e, hg1, c0, c1, c2, c3, c4, c5, c6, ha⟩ := HTS.out.at hg
        obtain ⟨aa, capa, rfl⟩ := ha.shape
        clear ha
        simp only [Value.slice.injEq] at e
        obtain ⟨rfl, -, rfl⟩ := e
        have hgW : g < W.heap.size := Nat.lt_of_lt_of_le hg1 hw1le
        have tr : ∀ j v, w1.cell? ⟨g, j, none⟩ = some v → wr.cell? ⟨g, j, none⟩ = some v := fun j v hc => (HK.out.cell (by exact hgW)).trans ((HB.out.cell (by exact hg1)).trans hc)
        have d0 := tr _ _ c0
        have d1 := tr _ _ c1
        have d2 := tr _ _ c2
        have d3 := tr _ _ c3
        have d4 := tr _ _ c4
        have d5 := tr _ _ c5
        have d6 := tr _ _ c6
        have HTR := Lib.hid tr
        have hgr : g < wr.heap.size := Nat.lt_of_lt_of_le hgW hwr
        clear c0 c1 c2 c3 c4 c5 c6 tr
        have hta := HT.out _ _ _ hg
        have HREF := Lib.hid (fun w => refAt_any s (pos s rr) w (Nat.le_of_lt hta.lt) (by omega))
        have hlo := hta.lt
        have hklo : k ≤ pos s rr := HG.out k (t, rr) hg
        have hfirst : k = 0 → pos s rr = 0 := hta.first
        have HKD := Lib.hid hta.kind
        have hprev : Hid (∀ j t0 r0, j < k → acc[j]? = some (t0, r0) → pos s r0 < pos s rr) := fun j t0 r0 hj h0 => HR.out j k (t0, r0) (t, rr) hj h0 hg
        clear hta
        generalize (lineCol (s.data.toList.take (pos s rr))).1 = li at *
        generalize (lineCol (s.data.toList.take (pos s rr))).2 = co at *
        generalize pos s rr = off at *
        go_wp2_with fail
        refine Calls.world ?_
        intro W2 hW2
        have x2 : Box W2 wr.heap.size [.int .i64 t.kind, .string (bs t.name), .slice aa t.attrs.length capa, .string (bs t.text), .int .i64 off, .int .i64 li, .int .i64 co] := by rw [hW2]; exact Box.new wr _ _ _ rfl
        have hb2 : Below wr.heap.size wr W2 := by rw [hW2]; exact (Below.refl _ _).alloc (Nat.le_refl _) _
        clear hW2
        refine (HREF.out W2).mono ?_
        rintro e w' ⟨rfl, rfl⟩
        have y0 := x2.cell 0 _ rfl
        have y4 := x2.cell 4 _ rfl
        have y5 := x2.cell 5 _ rfl
        have y6 := x2.cell 6 _ rfl
        have ly := x2.lt
        have HB2 := Lib.hid hb2
        have hge : decide (s.size ≤ off) = false := by rw [decide_eq_false_iff_not]; omega
        clear d0 d1 d2 d3 d4 d5 d6 x2 hb2
        have hc : k = 0 ∨ ∃ j, k = j + 1 := by cases k; exact .inl rfl; exact .inr ⟨_, rfl⟩
        rcases hc with hc | ⟨j, hc⟩
        case' inl =>
          have e1 : ((k : Int) == 0) = true := by rw [hc]; rfl
          have e2 : ((off : Int) != 0) = false := by rw [hfirst hc]; rfl
          have e3 : decide (0 < k) = false := by rw [hc]; rfl
          clear hfirst hc
          go_wp2
          go_quiet (fail)
        case' inr =>
          have e1 : ((k : Int) == 0) = false := by rw [beq_eq_false_iff_ne]; omega
          have e3 : decide (0 < k) = true := by rw [decide_eq_true_eq]; omega
          have e4 : IntKind.i64.wrap ((k : Int) - 1) = (j : Int) := by rw [IntWalk.i64_in _ (by omega)]; omega
          have hj : j < L.length := by omega
          obtain ⟨t0, r0, hg0⟩ : ∃ t rr, acc[j]? = some (t, rr) := ⟨_, _, List.getElem?_eq_getElem (by rw [← HL.out]; exact hj)⟩
          have hpr := hprev.out j t0 r0 (by omega) hg0
          obtain ⟨g0, o0, cap0, av0, e, -, -, -, -, -, c4, -⟩ := HTS.out.at hg0
          simp only [Value.slice.injEq, Option.some.injEq, Addr.mk.injEq] at e
          obtain ⟨⟨rfl, rfl, -⟩, -, -⟩ := e
          have z4 := (HB2.out.cell (p := ⟨g, o + j * 7 + 4, none⟩) (by exact hgr)).trans (HTR.out _ _ c4)
          have e5 : decide (off ≤ pos s r0) = false := by rw [decide_eq_false_iff_not]; omega
          have hji : ¬ (j : Int) < 0 := by omega
          have hjl : (j : Int) < (L.length : Int) := by omega
          clear c4 hpr hg0 hfirst hc
          go_wp2
          go_quiet (fail)
        all_goals
          clear hge e1 e3
          obtain ⟨q, hq⟩ : ∃ q, q = off + 9 := ⟨_, rfl⟩
          have wq : IntKind.i64.wrap ((off : Int) + 9) = (q : Int) := by rw [IntWalk.i64_in _ (by omega)]; omega
          have hoff : s.data.toList[off]? = some s[off] := by rw [List.getElem?_eq_getElem (by rw [size_data]; exact hlo)]; rfl
          have hkd := HKD.out
          rw [hoff, ← hq] at hkd
          have hI : (off : Int) < (s.size : Int) := by omega
          by_cases h60 : s[off] = 60
          · have g1 : (((s[off].toNat : Nat) : Int) != 60) = false := by rw [h60]; rfl
            by_cases hqs : q ≤ s.size
            · have g2 : decide (q ≤ s.size) = true := decide_eq_true hqs
              have hqi : (q : Int) ≤ (s.size : Int) := by omega
              have hoq : (off : Int) ≤ (q : Int) := by omega
              by_cases hx : (s.extract off q).data.toList = sData
              · have g3 : ((s.extract off q).toList == [60, 33, 91, 67, 68, 65, 84, 65, 91]) = true := by rw [str_lit]; exact decide_eq_true hx
                have g4 : (t.kind == 4) = true := by
                  rw [h60, decide_eq_true hx, g2] at hkd
                  simpa using hkd
                clear hkd hx g2 hoff h60 hq HKD
                go_wp2
                go_quiet (fail)
                go_wp2
                go_round
                case rel => exact ⟨k + 1, by go_num, by omega, belowN (HK.out.trans (HB2.out.mono hwr)) _⟩
                case measure => simp [intOf]; omega
              · have g3 : ((s.extract off q).toList == [60, 33, 91, 67, 68, 65, 84, 65, 91]) = false := by rw [str_lit]; exact decide_eq_false hx
                have g4 : (t.kind == 4) = false := by
                  rw [h60, decide_eq_false hx] at hkd
                  simpa using hkd
                clear hkd hx g2 hoff h60 hq HKD
                go_wp2
                go_quiet (fail)
                go_wp2
                go_round
                case rel => exact ⟨k + 1, by go_num, by omega, belowN (HK.out.trans (HB2.out.mono hwr)) _⟩
                case measure => simp [intOf]; omega
            · have g2 : decide (q ≤ s.size) = false := decide_eq_false hqs
              have g4 : (t.kind == 4) = false := by
                rw [h60, g2] at hkd
                simpa using hkd
              clear hkd hoff h60 hq HKD hqs
              go_wp2
              go_quiet (fail)
              go_wp2
              go_round
              case rel => exact ⟨k + 1, by go_num, by omega, belowN (HK.out.trans (HB2.out.mono hwr)) _⟩
              case measure => simp [intOf]; omega
          · have g1 : (((s[off].toNat : Nat) : Int) != 60) = true := by
              rw [bne_iff_ne]; intro e; exact h60 (UInt8.toNat_inj.1 (by simpa using (by omega : s[off].toNat = 60)))
            have g4 : (t.kind == 4) = true := by
              rw [show (some s[off] == some (60 : UInt8)) = false by simpa using h60] at hkd
              simpa using hkd
            clear hkd hoff h60 hq HKD
            go_wp2
            go_quiet (fail)
            go_wp2
            go_round
            case rel => exact ⟨k + 1, by go_num, by omega, belowN (HK.out.trans (HB2.out.mono hwr)) _⟩
            case measure => simp [intOf]; omega
      · have hltI : ¬ (k : Int) < (L.length : Int) := by omega
        go_wp2_with fail
        refine (lives_any m wr ((HK.out.cell (by exact hW0)).trans HMW.out)).mono ?_
        rintro e w2 ⟨rfl, hb2⟩
        have HX := Lib.hid ((HB1.out.trans (HB.out.mono HB1.out.size)).trans (HK.out.mono hwle))
        have HX2 := Lib.hid (HX.out.trans (hb2.mono HX.out.size))
        clear hb2
        go_wp2
        go_ret
        exact ⟨rfl, HX2.out⟩

end Go.Proofs.Ytpchljiiappmnaa
