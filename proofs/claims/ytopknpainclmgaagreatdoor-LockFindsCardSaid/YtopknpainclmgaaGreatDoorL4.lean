/- Walks: which locks may be, the program's and the document's; the conditions stand in the theorems. -/
import Derived.Test.YtopknpainclmgaaGreatDoorL3

namespace Go.Proofs.YtopknpainclmgaaGreatDoor
open Go Go.RowKit

def lockSm (l : Lock) : Prop := gavSm l.root ∧ ∀ p ∈ l.pins, pinSm p
theorem rises_left : ∀ {l m : List Key}, rises (l ++ m) = true → rises l = true
  | [], _, _ => rfl
  | [_], _, _ => rfl
  | a :: b :: l, m, h => by
    simp only [List.cons_append, rises, Bool.and_eq_true] at h ⊢
    exact ⟨h.1, rises_left (l := b :: l) (m := m) (by simpa using h.2)⟩
theorem rises_snoc : ∀ (l : List Key) (x y : Key), rises (l ++ [x, y]) = (rises (l ++ [x]) && decide (cmpK x y = -1))
  | [], x, y => by simp [rises]
  | [a], x, y => by simp [rises]
  | a :: b :: l, x, y => by
    have := rises_snoc (b :: l) x y
    simp only [List.cons_append, rises] at this ⊢
    rw [this, Bool.and_assoc]
def pinsOk (ps : List Pin) : Bool := ps.all pinMay && rises (ps.map (·.key))
theorem pinsOk_left {l m : List Pin} (h : pinsOk (l ++ m) = true) : pinsOk l = true := by
  simp only [pinsOk, Bool.and_eq_true, List.all_append, List.map_append] at h ⊢
  exact ⟨h.1.1, rises_left h.2⟩
theorem pinsOk_first {ps : List Pin} (h : 0 < ps.length) (hp : pinMay ps[0] = true) : pinsOk (ps.take 1) = true := by
  cases ps with
  | nil => simp at h
  | cons p ps => simpa [pinsOk, rises] using hp
theorem pinsOk_step {ps : List Pin} {k : Nat} (h : k + 1 < ps.length) (h0 : pinsOk (ps.take (k + 1)) = true) (hp : pinMay ps[k + 1] = true) (hc : cmpK ps[k].key ps[k + 1].key = -1) : pinsOk (ps.take (k + 1 + 1)) = true := by
  rw [List.take_succ_eq_append_getElem h]
  rw [List.take_succ_eq_append_getElem (by omega)] at h0 ⊢
  simp only [pinsOk, Bool.and_eq_true, List.all_append, List.map_append, List.map_cons, List.map_nil, List.append_assoc, List.cons_append, List.nil_append] at h0 ⊢
  refine ⟨⟨h0.1.1, by have := h0.1.2; simp at this ⊢; exact ⟨this, hp⟩⟩, ?_⟩
  rw [rises_snoc, h0.2, hc]; rfl
theorem pinsOk_no1 {ps : List Pin} {k : Nat} (h : k < ps.length) (hp : pinMay ps[k] = false) : pinsOk ps = false := by
  have : ps.all pinMay = false := by rw [List.all_eq_false]; exact ⟨ps[k], List.getElem_mem h, by rw [hp]; simp⟩
  simp [pinsOk, this]
theorem pinsOk_no2 {ps : List Pin} {k : Nat} (h : k + 1 < ps.length) (hc : cmpK ps[k].key ps[k + 1].key ≠ -1) : pinsOk ps = false := by
  cases hh : pinsOk ps
  · rfl
  · exfalso
    have h1 : ps = ps.take k ++ [ps[k], ps[k + 1]] ++ ps.drop (k + 1 + 1) := by
      conv => lhs; rw [← List.take_append_drop (k + 1 + 1) ps]
      rw [List.take_succ_eq_append_getElem h, List.take_succ_eq_append_getElem (by omega)]
      simp
    rw [h1] at hh
    have h2 := pinsOk_left hh
    simp only [pinsOk, Bool.and_eq_true, List.map_append, List.map_cons, List.map_nil] at h2
    rw [rises_snoc, Bool.and_eq_true, decide_eq_true_eq] at h2
    exact hc h2.2.2
theorem lockMay_eq (l : Lock) : lockMay l = (pinsOk l.pins && gavMay l.root && decide (l.pins.length ≤ 4096)) := rfl
theorem mayPin_l {W : World} (p : Pin) (x : Later W) (h : pinSm p) (b : Bool) (hb : pinMay p = b) : Calls Tryz.prog 37 #[.agg #[.string p.key.group, .string p.key.artifact, .string p.key.type, .string p.key.classifier, .string p.version, .int .i64 p.scope]] x.at_ fun e w'' => e = .returned (.bool b) ∧ ∃ y : Later W, w'' = y.at_ := by
  subst hb; exact Later.call (mayPin_any p x.at_ h)
theorem compare_l {W : World} (a b : Key) (x : Later W) (c : Int) (hc : cmpK a b = c) : Calls Tryz.prog 21 #[.agg #[.string a.group, .string a.artifact, .string a.type, .string a.classifier], .agg #[.string b.group, .string b.artifact, .string b.type, .string b.classifier]] x.at_ fun e w'' => e = .returned (.int .i64 c) ∧ ∃ y : Later W, w'' = y.at_ := by
  subst hc; exact Later.call (compare_any a b x.at_)
set_option maxRecDepth 100000 in
set_option maxHeartbeats 8000000 in
theorem lockMay_any (l : Lock) (v : Value) (w : World) (h : SliceOf 6 pinC w v l.pins) (hs : lockSm l) : Calls Tryz.prog 14 #[.agg #[.string l.root.group, .string l.root.artifact, .string l.root.version, v]] w fun e w' => e = .returned (.bool (lockMay l)) ∧ Below w.heap.size w w' := by
  obtain ⟨ao, cap, rfl, hl1, hl2, -⟩ := id h
  have hlb : l.pins.length ≤ 9223372036854775807 := by unfold maxLen at hl2; omega
  have HS := Lib.hid hs
  have H := Lib.hid h
  clear h hs hl1 hl2
  go_enter Tryz.func14, Tryz.ntmps14
  go_wp2
  refine wp_world ?_
  intro W hW
  have x0 : Box W w.heap.size [.string l.root.group, .string l.root.artifact, .string l.root.version, .slice ao l.pins.length cap] := by rw [hW]; exact Box.new w _ _ _ rfl
  have hB : Below w.heap.size w W := by rw [hW]; exact (Below.refl _ _).alloc (Nat.le_refl _) _
  clear hW
  have X0 := Lib.hid x0
  have HB := Lib.hid hB
  have HSL := Lib.hid (H.out.below hB)
  clear x0 hB
  go_loopw [3, 4, 8] (fun _ _ i wr => ∃ k : Nat, k ≤ l.pins.length ∧ i = .int .i64 k ∧ Below W.heap.size W wr ∧ Hid (pinsOk (l.pins.take k) = true)) (fun _ _ i _ => l.pins.length - (intOf i).toNat)
  case atStart => exact ⟨0, Nat.zero_le _, rfl, Below.refl _ _, rfl⟩
  case round =>
    obtain ⟨k, hk, rfl, hb, HOK⟩ := hrel
    have HBR := Lib.hid hb
    have hszr := hb.size
    have x0 := X0.out.below hb X0.out.lt
    by_cases hlt : k < l.pins.length
    · have hltI : (k : Int) < (l.pins.length : Int) := by omega
      obtain ⟨bb, oo, rfl, hbl, hcell⟩ := (HSL.out.below hb).at hlt
      have g0 : wr.cell? ⟨bb, oo + k * 6, none⟩ = some (.string l.pins[k].key.group) := by simpa using hcell 0 _ rfl
      have g1 : wr.cell? ⟨bb, oo + k * 6 + 1, none⟩ = some (.string l.pins[k].key.artifact) := hcell 1 _ rfl
      have g2 : wr.cell? ⟨bb, oo + k * 6 + 2, none⟩ = some (.string l.pins[k].key.type) := hcell 2 _ rfl
      have g3 : wr.cell? ⟨bb, oo + k * 6 + 3, none⟩ = some (.string l.pins[k].key.classifier) := hcell 3 _ rfl
      have g4 : wr.cell? ⟨bb, oo + k * 6 + 4, none⟩ = some (.string l.pins[k].version) := hcell 4 _ rfl
      have g5 : wr.cell? ⟨bb, oo + k * 6 + 5, none⟩ = some (.int .i64 l.pins[k].scope) := hcell 5 _ rfl
      have HSP : Hid (pinSm l.pins[k]) := HS.out.2 _ (List.getElem_mem hlt)
      have HNO1 : Hid (pinMay l.pins[k] = false → pinsOk l.pins = false) := fun h => pinsOk_no1 hlt h
      have HST : Hid (∀ j (h : k = j + 1), pinMay l.pins[k] = true → cmpK (l.pins[j]'(by omega)).key l.pins[k].key = -1 → pinsOk (l.pins.take (k + 1)) = true) := fun j h hp hc => by subst h; exact pinsOk_step hlt HOK.out hp hc
      have HNO2 : Hid (∀ j (h : k = j + 1), cmpK (l.pins[j]'(by omega)).key l.pins[k].key ≠ -1 → pinsOk l.pins = false) := fun j h hc => by subst h; exact pinsOk_no2 hlt hc
      have HF1 : Hid (k = 0 → pinMay l.pins[k] = true → pinsOk (l.pins.take (k + 1)) = true) := fun h hp => by subst h; exact pinsOk_first hlt hp
      have HSLR := Lib.hid (HSL.out.below hb)
      clear hcell hb
      generalize l.pins[k] = p at *
      have X0R := Lib.hid x0
      clear x0
      go_upto_region 4 with fail
      refine wp_world ?_
      intro W1 hW1
      have x4 : Box W1 wr.heap.size [.string p.key.group, .string p.key.artifact, .string p.key.type, .string p.key.classifier, .string p.version, .int .i64 p.scope] := by rw [hW1]; exact Box.new wr _ _ _ rfl
      have hb1 : Below wr.heap.size wr W1 := by rw [hW1]; exact (Below.refl _ _).alloc (Nat.le_refl _) _
      clear hW1 g0 g1 g2 g3 g4 g5
      have x0 := X0R.out.below hb1 X0R.out.lt
      have c3 := x0.cell 3 _ rfl
      have l0 := x0.lt
      have d0 := x4.cell 0 _ rfl
      have d1 := x4.cell 1 _ rfl
      have d2 := x4.cell 2 _ rfl
      have d3 := x4.cell 3 _ rfl
      have d4 := x4.cell 4 _ rfl
      have d5 := x4.cell 5 _ rfl
      have l4 := x4.lt
      have HB1 := Lib.hid hb1
      have hs1 := hb1.size
      clear x0 x4 hb1
      have hLL := @Later.cells W1
      cases hp : pinMay p
      · have HP := Lib.hid (fun (x : Later W1) => mayPin_l p x HSP.out false hp)
        have HR : Hid (pinsOk l.pins = false) := HNO1.out hp
        clear hp
        refine region_later (by kernel_rfl) (by kernel_rfl) ?_
        repeat (go_big_quiet_step ((go_at_call 37; exact HP.out _)))
        refine wpQuiet_nil ?_
        rintro _ ⟨nx, rfl⟩
        have HZ : Hid (Below w.heap.size w nx.at_) := HB.out.trans ((HBR.out.mono HB.out.size).trans ((HB1.out.mono (Nat.le_trans HB.out.size hszr)).trans (nx.below.mono (Nat.le_trans (Nat.le_trans HB.out.size hszr) hs1))))
        clear hLL
        generalize nx.at_ = wn at *
        go_wp2
        go_ret
        exact ⟨ret_bool (by rw [lockMay_eq, HR.out]; rfl), HZ.out⟩
      · have HP := Lib.hid (fun (x : Later W1) => mayPin_l p x HSP.out true hp)
        have HPT := Lib.hid hp
        clear hp
        by_cases hk0 : k = 0
        · have dk : decide ((0 : Int) < (k : Int)) = false := by rw [decide_eq_false_iff_not]; omega
          have dkN : decide (0 < k) = false := by rw [decide_eq_false_iff_not]; omega
          have HOK2 : Hid (pinsOk (l.pins.take (k + 1)) = true) := HF1.out hk0 HPT.out
          clear hk0
          refine region_later (by kernel_rfl) (by kernel_rfl) ?_
          repeat (go_big_quiet_step ((go_at_call 37; exact HP.out _)))
          refine wpQuiet_nil ?_
          rintro _ ⟨nx, rfl⟩
          have HZ : Hid (Below W.heap.size W nx.at_) := HBR.out.trans ((HB1.out.mono hszr).trans (nx.below.mono (Nat.le_trans hszr hs1)))
          clear hLL
          generalize nx.at_ = wn at *
          go_wp2
          go_roundw
          case rel => exact ⟨k + 1, by omega, by go_num, HZ.out, HOK2⟩
          case measure => simp [intOf]; omega
        · obtain ⟨j, hj⟩ : ∃ j, k = j + 1 := ⟨k - 1, by omega⟩
          have dk : decide ((0 : Int) < (k : Int)) = true := by rw [decide_eq_true_iff]; omega
          have dkN : decide (0 < k) = true := by rw [decide_eq_true_iff]; omega
          have hjl : j < l.pins.length := by omega
          have hjI : (j : Int) < (l.pins.length : Int) := by omega
          have wj : IntKind.i64.wrap ((k : Int) - 1) = (j : Int) := by rw [show (k : Int) - 1 = (j : Int) by omega]; exact IntWalk.i64_in _ (by omega)
          have hcj := HSLR.out
          obtain ⟨bb', oo', hbe, -, hcell⟩ := hcj.at hjl
          simp only [Option.some.injEq, Addr.mk.injEq] at hbe
          obtain ⟨rfl, rfl, -⟩ := hbe
          have tr : ∀ o v, wr.cell? ⟨bb, o, none⟩ = some v → W1.cell? ⟨bb, o, none⟩ = some v := fun o v h => (HB1.out.cell (by exact hbl)).trans h
          have q0 : W1.cell? ⟨bb, oo + j * 6, none⟩ = some (.string l.pins[j].key.group) := tr _ _ (by simpa using hcell 0 _ rfl)
          have q1 : W1.cell? ⟨bb, oo + j * 6 + 1, none⟩ = some (.string l.pins[j].key.artifact) := tr _ _ (hcell 1 _ rfl)
          have q2 : W1.cell? ⟨bb, oo + j * 6 + 2, none⟩ = some (.string l.pins[j].key.type) := tr _ _ (hcell 2 _ rfl)
          have q3 : W1.cell? ⟨bb, oo + j * 6 + 3, none⟩ = some (.string l.pins[j].key.classifier) := tr _ _ (hcell 3 _ rfl)
          have hbl1 : bb < W1.heap.size := Nat.lt_of_lt_of_le hbl hs1
          have HST2 : Hid (cmpK l.pins[j].key p.key = -1 → pinsOk (l.pins.take (k + 1)) = true) := HST.out j hj HPT.out
          have HNO3 : Hid (cmpK l.pins[j].key p.key ≠ -1 → pinsOk l.pins = false) := HNO2.out j hj
          clear tr hcell hcj hk0 hj HST HNO2 HF1 HNO1
          generalize l.pins[j] = q at *
          obtain ⟨c, hc⟩ : ∃ c, c = cmpK q.key p.key := ⟨_, rfl⟩
          have HC := Lib.hid (fun (x : Later W1) => compare_l q.key p.key x c hc.symm)
          rw [← hc] at HST2 HNO3
          have hcr : c = -1 ∨ c = 0 ∨ c = 1 := by rw [hc]; exact cmpK_range _ _
          have HCR := Lib.hid hcr
          clear hc hcr
          by_cases hc1 : c = -1
          · have e1 : decide ((0 : Int) ≤ c) = false := by rw [decide_eq_false_iff_not]; omega
            have e2 : (c != -1) = false := by rw [hc1]; rfl
            have HOK2 := Lib.hid (HST2.out hc1)
            clear hc1
            refine region_later (by kernel_rfl) (by kernel_rfl) ?_
            repeat (go_big_quiet_step (first | (go_at_call 37; exact HP.out _) | (go_at_call 21; exact HC.out _)))
            refine wpQuiet_nil ?_
            rintro _ ⟨nx, rfl⟩
            have HZ : Hid (Below W.heap.size W nx.at_) := HBR.out.trans ((HB1.out.mono hszr).trans (nx.below.mono (Nat.le_trans hszr hs1)))
            clear hLL
            generalize nx.at_ = wn at *
            go_wp2
            go_roundw
            case rel => exact ⟨k + 1, by omega, by go_num, HZ.out, HOK2⟩
            case measure => simp [intOf]; omega
          · have e1 : decide ((0 : Int) ≤ c) = true := by rw [decide_eq_true_iff]; rcases HCR.out with h | h | h <;> omega
            have e2 : (c != -1) = true := by rw [bne_iff_ne]; exact hc1
            have HR : Hid (pinsOk l.pins = false) := HNO3.out hc1
            clear hc1
            refine region_later (by kernel_rfl) (by kernel_rfl) ?_
            repeat (go_big_quiet_step (first | (go_at_call 37; exact HP.out _) | (go_at_call 21; exact HC.out _)))
            refine wpQuiet_nil ?_
            rintro _ ⟨nx, rfl⟩
            have HZ : Hid (Below w.heap.size w nx.at_) := HB.out.trans ((HBR.out.mono HB.out.size).trans ((HB1.out.mono (Nat.le_trans HB.out.size hszr)).trans (nx.below.mono (Nat.le_trans (Nat.le_trans HB.out.size hszr) hs1))))
            clear hLL
            generalize nx.at_ = wn at *
            go_wp2
            go_ret
            exact ⟨ret_bool (by rw [lockMay_eq, HR.out]; rfl), HZ.out⟩
    · obtain rfl : k = l.pins.length := by omega
      have HOKA : Hid (pinsOk l.pins = true) := by have := HOK.out; rwa [List.take_length] at this

      have c0 := x0.cell 0 _ rfl
      have c1 := x0.cell 1 _ rfl
      have c2 := x0.cell 2 _ rfl
      have c3 := x0.cell 3 _ rfl
      have l0 := x0.lt
      have X0R := Lib.hid x0
      clear x0 hb
      go_wp2_with fail
      refine (mayGav_any l.root _ HS.out.1).mono ?_
      rintro e wg ⟨rfl, hbg⟩
      have x1 := X0R.out.below hbg X0R.out.lt
      have HZ : Hid (Below w.heap.size w wg) := HB.out.trans ((HBR.out.mono HB.out.size).trans (hbg.mono (Nat.le_trans HB.out.size hszr)))
      clear c0 c1 c2 c3 l0 hbg
      have c3 := x1.cell 3 _ rfl
      have l0 := x1.lt
      clear x1
      cases hg : gavMay l.root
      · have HG := Lib.hid hg
        clear hg
        go_wp2
        go_ret
        exact ⟨ret_bool (by rw [lockMay_eq, HOKA.out, HG.out]; rfl), HZ.out⟩
      · have HG := Lib.hid hg
        clear hg
        by_cases hln : l.pins.length ≤ 4096
        · have HLN := Lib.hid hln
          go_wp2
          go_ret
          exact ⟨ret_bool (by rw [lockMay_eq, HOKA.out, HG.out, decide_eq_true HLN.out] <;> (first | rfl | (simp; omega))), HZ.out⟩
        · have HLN := Lib.hid hln
          go_wp2
          go_ret
          exact ⟨ret_bool (by rw [lockMay_eq, HOKA.out, HG.out, decide_eq_false (show ¬ l.pins.length ≤ 4096 by have := HLN.out; omega)] <;> (first | rfl | (simp; omega))), HZ.out⟩

end Go.Proofs.YtopknpainclmgaaGreatDoor
