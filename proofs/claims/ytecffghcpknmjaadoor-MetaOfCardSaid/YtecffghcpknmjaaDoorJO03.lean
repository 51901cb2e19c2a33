/- The walk of the document's Compare; the conditions stand in the theorem. -/
import Derived.Test.YtecffghcpknmjaaDoorV9
import Derived.Test.YtecffghcpknmjaaDoorJO02
import Derived.Test.YtecffghcpknmjaaDoorJO01
import Derived.Test.YtecffghcpknmjaaDoorSB
import Derived.Deep.CutRange
import Derived.Laws.EntriesVeiled
import Derived.RangeFuncNested
import Derived.RangeFuncBound
import Derived.RangeFuncCalls
import Derived.RangeFuncLeaves
import Derived.RangeFuncBox
import Derived.Shelf.Abstract
import Derived.WalkKit
import Derived.OwnWalkIn
import Derived.TacticsInMore
import Derived.LoopNIn
import Derived.LoopIn
namespace Go.Proofs.YtecffghcpknmjaaDoor
open Go Go.RowKit

theorem bytesLessV : ∀ l m : Bs, Op.bytesLess l m = decide (Lib.compareBytes l m = -1)
  | [], [] => rfl
  | [], _ :: _ => rfl
  | _ :: _, [] => rfl
  | x :: l, y :: m => by
    simp only [Op.bytesLess, Lib.compareBytes]
    by_cases h1 : x < y
    · simp [h1]
    · by_cases h2 : y < x
      · have h3 : ¬ x = y := by intro e; subst e; exact h1 h2
        simp [h1, h2, h3]
      · have : x = y := by rw [UInt8.lt_iff_toNat_lt] at h1 h2; exact UInt8.toNat_inj.1 (by omega)
        subst this
        simp [bytesLessV l m]
theorem cmpV_ne (p q : PartV) (h : rankV p ≠ rankV q) : cmpV p q = if rankV p < rankV q then -1 else 1 := by
  unfold cmpV sgnV
  by_cases h1 : rankV p < rankV q
  · simp [h1]
  · have h2 : rankV q < rankV p := by omega
    simp [h1, h2]
theorem sgnV_self (a : Int) : sgnV a a = 0 := by unfold sgnV; simp
theorem cmpV_lo (p q : PartV) (h : rankV p = rankV q) (h7 : rankV p < 7) : cmpV p q = 0 := by
  unfold cmpV
  rw [h, sgnV_self, if_neg (by simp), if_neg (by omega), if_neg (by omega)]
theorem cmpV_eq (p q : PartV) (h : rankV p = rankV q) (ht : p.text = q.text) : cmpV p q = 0 := by
  unfold cmpV
  rw [h, sgnV_self, if_neg (by simp), ht, sgnV_self, cmpB_refl]
  simp
theorem cmpV_len (p q : PartV) (h : rankV p = rankV q) (h7 : 7 < rankV p) (hl : p.text.length ≠ q.text.length) : cmpV p q = if p.text.length < q.text.length then -1 else 1 := by
  unfold cmpV
  rw [h] at h7
  rw [h, sgnV_self, if_neg (by simp), if_neg (by omega), if_pos h7]
  unfold sgnV
  by_cases h1 : p.text.length < q.text.length
  · simp [h1]
  · have h2 : q.text.length < p.text.length := by omega
    simp [h1, h2]
theorem cmpV_txt (p q : PartV) (h : rankV p = rankV q) (h7 : 7 ≤ rankV p) (hl : 7 < rankV p → p.text.length = q.text.length) (ht : p.text ≠ q.text) : cmpV p q = if Op.bytesLess p.text q.text = true then -1 else 1 := by
  have hc : cmpV p q = Lib.compareBytes p.text q.text := by
    unfold cmpV
    by_cases h8 : 7 < rankV p
    · rw [hl h8, sgnV_self]; rw [h] at h8; rw [h, sgnV_self, if_neg (by simp), if_neg (by omega), if_pos h8, if_neg (by simp)]
    · have : rankV q = 7 := by omega
      rw [h, sgnV_self, if_neg (by simp), if_pos this]
  rw [hc, bytesLessV]
  rcases cmpB_range p.text q.text with e | e | e
  · rw [e]; rfl
  · exact absurd (cmpB_eq e) ht
  · rw [e]; rfl
theorem atV_ga {T : Bs} {k : Nat} : (atV (partsV T) k).number = false → (atV (partsV T) k).text ≠ wGa := by
  unfold atV
  cases h : (partsV T)[k]? with
  | none => intro h2; cases h2
  | some p => exact partsV_ga (List.mem_of_getElem? h)
theorem rankV_le (p : PartV) : rankV p ≤ 9 := by
  unfold rankV
  split
  · split
    · omega
    · split <;> omega
  · cases h : wordsV.findIdx? (fun w => decide (p.text = w)) with
    | none => simp
    | some i => have := (List.findIdx?_eq_some_iff_findIdx_eq.1 h).1; change i < 7 at this; simp; omega
/-- The document's Parts answers the parts (V10). -/
def RefPartsOk : Prop := ∀ (s : S) (w : World), s.size ≤ 900000 → Calls Tryd.prog 40 #[.string s] w fun e w' => ∃ v, e = .returned v ∧ Owns w.heap.size 70 3 docC w' v (partsV s.data.toList) ∧ Below w.heap.size w w'
set_option maxRecDepth 100000 in
set_option maxHeartbeats 16000000 in
theorem refCompareV_of (HPT : RefPartsOk) (a b : S) (w : World) (ha : a.size ≤ 900000) (hb : b.size ≤ 900000) : Calls Tryd.prog 18 #[.string a, .string b] w fun e w' => e = .returned (.int .i64 (compareV a.data.toList b.data.toList)) ∧ Below w.heap.size w w' := by
  have HPA := Lib.hid (HPT a w ha)
  have HPB : Hid (∀ W, Calls Tryd.prog 40 #[.string b] W fun e w' => ∃ v, e = .returned v ∧ Owns W.heap.size 70 3 docC w' v (partsV b.data.toList) ∧ Below W.heap.size W w') := fun W => HPT b W hb
  have HLA : Hid ((partsV a.data.toList).length ≤ 1000000) := partsV_len a ha
  have HLB : Hid ((partsV b.data.toList).length ≤ 1000000) := partsV_len b hb
  have HCV : Hid (compareV a.data.toList b.data.toList = cmpFrom (partsV a.data.toList) (partsV b.data.toList) (max (partsV a.data.toList).length (partsV b.data.toList).length) 0) := rfl
  have HGA : Hid (∀ k, (atV (partsV a.data.toList) k).number = false → (atV (partsV a.data.toList) k).text ≠ wGa) := fun _ => atV_ga
  have HGB : Hid (∀ k, (atV (partsV b.data.toList) k).number = false → (atV (partsV b.data.toList) k).text ≠ wGa) := fun _ => atV_ga
  clear ha hb HPT
  go_enter Tryd.func18, Tryd.ntmps18
  go_wp2_with fail
  refine HPA.out.mono ?_
  rintro e w1 ⟨v1, rfl, hp1, hb1⟩
  obtain ⟨ao, ac, rfl⟩ := hp1.shape
  have HS1 := Lib.hid (hp1.slice docC_len)
  have HB1 := Lib.hid hb1
  clear hp1 hb1 HPA
  go_wp2_with fail
  refine (HPB.out w1).mono ?_
  rintro e w2 ⟨v2, rfl, hp2, hb2⟩
  obtain ⟨bo, bc, rfl⟩ := hp2.shape
  have HS2 := Lib.hid (hp2.slice docC_len)
  have HS3 := Lib.hid (HS1.out.below hb2)
  have HB2 := Lib.hid (HB1.out.trans (hb2.mono HB1.out.size))
  clear hp2 hb2 HPB HS1 HB1
  generalize partsV a.data.toList = l at *
  generalize partsV b.data.toList = m at *
  obtain ⟨N, hN⟩ : ∃ N : Nat, N = max l.length m.length := ⟨_, rfl⟩
  have HNM := Lib.hid hN
  have HNB : Hid (N ≤ 1000000) := by have := HLA.out; have := HLB.out; show _ ≤ _; omega
  rw [← hN] at HCV
  clear hN
  go_wp2
  go_loopw [7] (fun i wr => ∃ k : Nat, i = .int .i64 k ∧ k ≤ N ∧ Hid (Below w2.heap.size w2 wr) ∧ Hid (compareV a.data.toList b.data.toList = cmpFrom l m (N - k) k)) (fun i _ => N - (intOf i).toNat)
  case atStart => exact ⟨0, rfl, Nat.zero_le _, Below.refl _ _, HCV⟩
  case round =>
    clear HCV
    obtain ⟨k, rfl, hk, HB, HC⟩ := hrel
    obtain ⟨qa, hqa⟩ : ∃ q : Bool, decide (k < l.length) = q := ⟨_, rfl⟩
    obtain ⟨qb, hqb⟩ : ∃ q : Bool, decide (k < m.length) = q := ⟨_, rfl⟩
    have hqaz : decide ((k : Int) < (l.length : Int)) = qa := by rw [← hqa]; congr 1; rw [eq_iff_iff]; omega
    have hqbz : decide ((k : Int) < (m.length : Int)) = qb := by rw [← hqb]; congr 1; rw [eq_iff_iff]; omega
    have HQA := Lib.hid hqa
    have HQB := Lib.hid hqb
    go_upto_region 3 with fail
    go_cut [23] from 14 to 22 (fun x wx => x = .bool (qa || qb) ∧ wr = wx)
    case first =>
      cases qa
      · cases qb
        · go_wp2
          go_meet
          case rel => exact ⟨rfl, rfl⟩
        · go_wp2
          go_meet
          case rel => exact ⟨rfl, rfl⟩
      · go_wp2
        go_meet
        case rel => exact ⟨rfl, rfl⟩
    case rest =>
    obtain ⟨rfl, rfl⟩ := hcut
    by_cases hlt : k < N
    · have hor : (qa || qb) = true := by
        have h1 := HQA.out; have h2 := HQB.out; have h3 := HNM.out
        change _ = _ at h1; change _ = _ at h2; change _ = _ at h3
        rw [← h1, ← h2, Bool.or_eq_true, decide_eq_true_iff, decide_eq_true_iff]; omega
      have wk : IntKind.i64.wrap ((k : Int) + 1) = (k : Int) + 1 := IntWalk.i64_in _ (by have := HNB.out; omega)
      have HC2 : Hid (compareV a.data.toList b.data.toList = if cmpV (atV l k) (atV m k) ≠ 0 then cmpV (atV l k) (atV m k) else cmpFrom l m (N - (k + 1)) (k + 1)) := by
        show _ = _
        rw [HC.out, show N - k = (N - (k + 1)) + 1 by omega]; rfl
      have HAa : Hid (∀ (h : k < l.length), atV l k = l[k]) := fun h => by unfold atV; rw [List.getElem?_eq_getElem h]; rfl
      have HAb : Hid (∀ (h : k < m.length), atV m k = m[k]) := fun h => by unfold atV; rw [List.getElem?_eq_getElem h]; rfl
      have HNa : Hid (¬ k < l.length → atV l k = nullV) := fun h => atV_out (by omega)
      have HNb : Hid (¬ k < m.length → atV m k = nullV) := fun h => atV_out (by omega)
      clear HC
      have HRX : Hid (∀ W, Calls Tryd.prog 41 #[.agg (docC (atV l k)).toArray] W fun e w' => e = .returned (.int .i64 (rankV (atV l k))) ∧ Below W.heap.size W w') := fun W => refRank_any _ (HGA.out k) W
      have HRY : Hid (∀ W, Calls Tryd.prog 41 #[.agg (docC (atV m k)).toArray] W fun e w' => e = .returned (.int .i64 (rankV (atV m k))) ∧ Below W.heap.size W w') := fun W => refRank_any _ (HGB.out k) W
      have HSa := Lib.hid (HS3.out.below HB.out)
      have HSb := Lib.hid (HS2.out.below HB.out)
      generalize hax : atV l k = x at *
      generalize hay : atV m k = y at *
      have HK1 := cmpV_ne x y
      have HK2 := cmpV_lo x y
      have HK3 := cmpV_eq x y
      have HK4 := cmpV_len x y
      have HK5 := cmpV_txt x y
      have hrx := rankV_le x
      have hry := rankV_le y
      generalize hcv : cmpV x y = cv at *
      generalize rankV x = rx at *
      generalize rankV y = ry at *
      replace HK1 := Lib.hid HK1
      replace HK2 := Lib.hid HK2
      replace HK3 := Lib.hid HK3
      replace HK4 := Lib.hid HK4
      replace HK5 := Lib.hid HK5
      clear hax hay hcv
      rw [hor]
      go_upto_region 6 with fail
      refine wp_world ?_
      intro W hW
      obtain ⟨B, hB⟩ : ∃ B, wr.heap.size = B := ⟨_, rfl⟩
      have BX : Hid (Box W B [.bool false, .bool false, .string ⟨#[]⟩]) := by show Box _ _ _; rw [hW]; exact (Box.new wr [.bool false, .bool false, .string ⟨#[]⟩] _ _ hB).alloc _
      have BY : Hid (Box W (B + 1) [.bool false, .bool false, .string ⟨#[]⟩]) := by show Box _ _ _; rw [hW]; exact Box.new _ [.bool false, .bool false, .string ⟨#[]⟩] _ _ (by simp [hB])
      have hbw : Below wr.heap.size wr W := by rw [hW]; exact ((Below.refl _ wr).alloc (Nat.le_refl _) _).alloc (by simp) _
      have BB : Hid (Below w2.heap.size w2 W) := HB.out.trans (hbw.mono HB.out.size)
      have HBl : Hid (w2.heap.size ≤ B) := by show _ ≤ _; rw [← hB]; exact HB.out.size
      replace HSa := Lib.hid (HSa.out.below hbw)
      replace HSb := Lib.hid (HSb.out.below hbw)
      rw [hB]
      clear hW hbw hB HB
      go_upto_if 31 with fail
      go_cut [] from 32 to 35 (fun wx => Hid (Box wx B (docC x) ∧ Box wx (B + 1) [.bool false, .bool false, .string ⟨#[]⟩] ∧ Below w2.heap.size w2 wx))
      case first =>
        cases qa with
        | true =>
          obtain ⟨b', o, hao, hbl, hc⟩ := HSa.out.at (show k < l.length from of_decide_eq_true HQA.out)
          cases hao
          rw [← HAa.out (of_decide_eq_true HQA.out)] at hc
          have c0 := hc 0 _ rfl
          have c1 := hc 1 _ rfl
          have c2 := hc 2 _ rfl
          rw [Nat.add_zero] at c0
          have hkl : (k : Int) < (l.length : Int) := by have := of_decide_eq_true HQA.out; omega
          clear hc
          go_wp2_with ((with_reducible show wpList _ _ _ (Oper.mk none (Op.store 70 (.tmp 8) (.tmp 35)) _ _ _ _ :: _) _ _); refine wpList_store_box rfl 70 (.tmp 8) (.tmp 35) rfl B _ (docC x) rfl rfl BX.out rfl (by kernel_rfl) (docC_one x) ?_; intro W7 v7 hg7; have HZ7 : Hid (Box W7 B (docC x) ∧ Box W7 (B + 1) [.bool false, .bool false, .string ⟨#[]⟩] ∧ Below w2.heap.size w2 W7) := ⟨v7, BY.out.grown hg7 (by simp), BB.out.grown hg7 BB.out.size (fun j hj => by cases hj; exact HBl.out)⟩)
          go_meet
          case rel => exact HZ7
        | false =>
          have hx : x = nullV := HNa.out (of_decide_eq_false HQA.out)
          have HZ7 : Hid (Box W B (docC x) ∧ Box W (B + 1) [.bool false, .bool false, .string ⟨#[]⟩] ∧ Below w2.heap.size w2 W) := by
            refine ⟨?_, BY.out, BB.out⟩
            rw [hx]; exact BX.out
          clear hx
          go_wp2
          go_meet
          case rel => exact HZ7
      case rest =>
      have BX := Lib.hid hcut.out.1
      have BY := Lib.hid hcut.out.2.1
      have BB := Lib.hid hcut.out.2.2
      clear hcut
      replace HSb : Hid (SliceOf 3 docC wc (.slice bo m.length bc) m) := HS2.out.below BB.out
      clear HSa
      generalize wc = W4 at *
      go_upto_if 39 with fail
      go_cut [] from 40 to 43 (fun wx => Hid (Box wx B (docC x) ∧ Box wx (B + 1) (docC y) ∧ Below w2.heap.size w2 wx))
      case first =>
        cases qb with
        | true =>
          obtain ⟨b', o, hao, hbl, hc⟩ := HSb.out.at (show k < m.length from of_decide_eq_true HQB.out)
          cases hao
          rw [← HAb.out (of_decide_eq_true HQB.out)] at hc
          have c0 := hc 0 _ rfl
          have c1 := hc 1 _ rfl
          have c2 := hc 2 _ rfl
          rw [Nat.add_zero] at c0
          have hkl : (k : Int) < (m.length : Int) := by have := of_decide_eq_true HQB.out; omega
          clear hc
          go_wp2_with ((with_reducible show wpList _ _ _ (Oper.mk none (Op.store 70 (.tmp 9) (.tmp 43)) _ _ _ _ :: _) _ _); refine wpList_store_box rfl 70 (.tmp 9) (.tmp 43) rfl (B + 1) _ (docC y) rfl rfl BY.out rfl (by kernel_rfl) (docC_one y) ?_; intro W7 v7 hg7; have HZ7 : Hid (Box W7 B (docC x) ∧ Box W7 (B + 1) (docC y) ∧ Below w2.heap.size w2 W7) := ⟨BX.out.grown hg7 (by simp), v7, BB.out.grown hg7 BB.out.size (fun j hj => by cases hj; exact Nat.le_succ_of_le HBl.out)⟩)
          go_meet
          case rel => exact HZ7
        | false =>
          have hx : y = nullV := HNb.out (of_decide_eq_false HQB.out)
          have HZ7 : Hid (Box W4 B (docC x) ∧ Box W4 (B + 1) (docC y) ∧ Below w2.heap.size w2 W4) := by
            refine ⟨BX.out, ?_, BB.out⟩
            rw [hx]; exact BY.out
          clear hx
          go_wp2
          go_meet
          case rel => exact HZ7
      case rest =>
      have BX := Lib.hid hcut.out.1
      have BY := Lib.hid hcut.out.2.1
      have BB := Lib.hid hcut.out.2.2
      clear hcut
      clear HSb HAa HAb HNa HNb hqaz hqbz hqa hqb
      generalize wc = W5 at *
      have x0 := BX.out.cell 0 _ rfl
      have x1 := BX.out.cell 1 _ rfl
      have x2 := BX.out.cell 2 _ rfl
      have xl := BX.out.lt
      have y0 := BY.out.cell 0 _ rfl
      have y1 := BY.out.cell 1 _ rfl
      have y2 := BY.out.cell 2 _ rfl
      have yl := BY.out.lt
      have hLL := @Later.cells W5
      have HPX : Hid (∀ z : Later W5, Calls Tryd.prog 41 #[.agg #[.bool (!x.number), .bool x.hyphen, .string (bs x.text)]] z.at_ fun e w'' => e = .returned (.int .i64 rx) ∧ ∃ u : Later W5, w'' = u.at_) := fun z => Later.call (HRX.out _)
      have HPY : Hid (∀ z : Later W5, Calls Tryd.prog 41 #[.agg #[.bool (!y.number), .bool y.hyphen, .string (bs y.text)]] z.at_ fun e w'' => e = .returned (.int .i64 ry) ∧ ∃ u : Later W5, w'' = u.at_) := fun z => Later.call (HRY.out _)
      go_upto_region 10 with fail
      refine region_later (by kernel_rfl) (by kernel_rfl) ?_
      repeat (go_big_quiet_step ((go_at_call 41; first | (with_reducible exact HPX.out _) | (with_reducible exact HPY.out _))))
      refine wpQuiet_nil ?_
      rintro _ ⟨nx, rfl⟩
      have H2X := Lib.hid (BX.out.below nx.below BX.out.lt)
      have H2Y := Lib.hid (BY.out.below nx.below BY.out.lt)
      have H2B := Lib.hid (BB.out.trans (nx.below.mono BB.out.size))
      clear hLL HPX HPY x0 x1 x2 xl y0 y1 y2 yl BX BY BB
      have BX := H2X
      have BY := H2Y
      have BB := H2B
      clear H2X H2Y H2B
      generalize nx.at_ = W6 at *
      by_cases hrr : rx = ry
      · have e1 : ((rx : Int) == (ry : Int)) = true := by rw [beq_iff_eq]; omega
        have e1n : (rx == ry) = true := by rw [beq_iff_eq]; exact hrr
        have HRR := Lib.hid hrr
        clear hrr
        have x0 := BX.out.cell 0 _ rfl
        have x1 := BX.out.cell 1 _ rfl
        have x2 := BX.out.cell 2 _ rfl
        have xl := BX.out.lt
        have y0 := BY.out.cell 0 _ rfl
        have y1 := BY.out.cell 1 _ rfl
        have y2 := BY.out.cell 2 _ rfl
        have yl := BY.out.lt
        have HP1 : Hid (Calls Tryd.prog 41 #[.agg #[.bool (!x.number), .bool x.hyphen, .string (bs x.text)]] W6 fun e w' => e = .returned (.int .i64 rx) ∧ Below W6.heap.size W6 w') := HRX.out W6
        go_wp2_with fail
        refine HP1.out.mono ?_
        rintro e wq ⟨rfl, hbq⟩
        have H2X := Lib.hid (BX.out.below hbq BX.out.lt)
        have H2Y := Lib.hid (BY.out.below hbq BY.out.lt)
        have H2B := Lib.hid (BB.out.trans (hbq.mono BB.out.size))
        clear HP1 x0 x1 x2 xl y0 y1 y2 yl BX BY BB
        have BX := H2X
        have BY := H2Y
        have BB := H2B
        clear H2X H2Y H2B
        generalize wq = W7 at *
        by_cases h7 : rx < 7
        · have d1 : decide ((rx : Int) < 7) = true := decide_eq_true (by omega)
          have d1n : decide (rx < 7) = true := decide_eq_true h7
          have d1p : (rx : Int) < 7 := by omega
          have HC3 : Hid (compareV a.data.toList b.data.toList = cmpFrom l m (N - (k + 1)) (k + 1)) := by show _ = _; rw [HC2.out, if_neg (by rw [HK2.out HRR.out h7]; simp)]
          clear HC2
          go_wp2
          go_roundw
          case rel => exact ⟨k + 1, by first | rfl | go_num, hlt, BB, HC3⟩
          case measure => simp [intOf]; omega
        · have d1 : decide ((rx : Int) < 7) = false := decide_eq_false (by omega)
          have d1n : decide (rx < 7) = false := decide_eq_false h7
          have d1p : ¬ (rx : Int) < 7 := by omega
          have x0 := BX.out.cell 0 _ rfl
          have x1 := BX.out.cell 1 _ rfl
          have x2 := BX.out.cell 2 _ rfl
          have xl := BX.out.lt
          have y0 := BY.out.cell 0 _ rfl
          have y1 := BY.out.cell 1 _ rfl
          have y2 := BY.out.cell 2 _ rfl
          have yl := BY.out.lt
          by_cases ht : x.text = y.text
          · have q1 : ((bs x.text).toList == (bs y.text).toList) = true := by rw [ht, beq_iff_eq]
            have HC3 : Hid (compareV a.data.toList b.data.toList = cmpFrom l m (N - (k + 1)) (k + 1)) := by show _ = _; rw [HC2.out, if_neg (by rw [HK3.out HRR.out ht]; simp)]
            clear HC2 ht
            go_wp2
            go_roundw
            case rel => exact ⟨k + 1, by first | rfl | go_num, hlt, BB, HC3⟩
            case measure => simp [intOf]; omega
          · have q1 : ((bs x.text).toList == (bs y.text).toList) = false := by rw [bs_toList, bs_toList, beq_eq_false_iff_ne]; exact ht
            have HT := Lib.hid ht
            clear ht
            have HP2 : Hid (Calls Tryd.prog 41 #[.agg #[.bool (!x.number), .bool x.hyphen, .string (bs x.text)]] W7 fun e w' => e = .returned (.int .i64 rx) ∧ Below W7.heap.size W7 w') := HRX.out W7
            go_wp2_with fail
            refine HP2.out.mono ?_
            rintro e wq ⟨rfl, hbq⟩
            clear q1 d1 d1n d1p
            have H2X := Lib.hid (BX.out.below hbq BX.out.lt)
            have H2Y := Lib.hid (BY.out.below hbq BY.out.lt)
            have H2B := Lib.hid (BB.out.trans (hbq.mono BB.out.size))
            clear HP2 x0 x1 x2 xl y0 y1 y2 yl BX BY BB
            have BX := H2X
            have BY := H2Y
            have BB := H2B
            clear H2X H2Y H2B
            generalize wq = W8 at *
            have x0 := BX.out.cell 0 _ rfl
            have x1 := BX.out.cell 1 _ rfl
            have x2 := BX.out.cell 2 _ rfl
            have xl := BX.out.lt
            have y0 := BY.out.cell 0 _ rfl
            have y1 := BY.out.cell 1 _ rfl
            have y2 := BY.out.cell 2 _ rfl
            have yl := BY.out.lt
            have HTL : Hid ((∀ W, W = W8 → 7 < rx → x.text.length = y.text.length) → cv = if Op.bytesLess x.text y.text = true then -1 else 1) := fun h => HK5.out HRR.out (by omega) (h W8 rfl) HT.out
            by_cases h8 : 7 < rx
            · have d1 : decide ((7 : Int) < (rx : Int)) = true := decide_eq_true (by omega)
              have d1n : decide (7 < rx) = true := decide_eq_true h8
              have d1p : (7 : Int) < (rx : Int) := by omega
              by_cases hl : x.text.length = y.text.length
              · have q2 : (((bs x.text).size : Int) == ((bs y.text).size : Int)) = true := by rw [bs_size, bs_size, beq_iff_eq]; omega
                have q2n : ((bs x.text).size == (bs y.text).size) = true := by rw [bs_size, bs_size, beq_iff_eq]; exact hl
                have HCW := Lib.hid (HTL.out fun _ _ _ => hl)
                clear hl
                have q4 : Op.bytesLess (bs x.text).toList (bs y.text).toList = Op.bytesLess x.text y.text := by rw [bs_toList, bs_toList]
                cases hq5 : Op.bytesLess x.text y.text with
                | true =>
                  rw [hq5] at q4
                  have HCV : Hid (cv = -1) := by show _ = _; rw [HCW.out, hq5]; rfl
                  clear HCW hq5 HTL
                  have HZ : Hid (compareV a.data.toList b.data.toList = -1) := by
                    show _ = _
                    rw [HC2.out, if_pos (by rw [HCV.out]; decide), HCV.out]
                  clear HCV
                  go_wp2
                  go_ret
                  exact ⟨by rw [HZ.out]; rfl, HB2.out.trans (BB.out.mono HB2.out.size)⟩
                | false =>
                  rw [hq5] at q4
                  have HCV : Hid (cv = 1) := by show _ = _; rw [HCW.out, hq5]; rfl
                  clear HCW hq5 HTL
                  have HZ : Hid (compareV a.data.toList b.data.toList = 1) := by
                    show _ = _
                    rw [HC2.out, if_pos (by rw [HCV.out]; decide), HCV.out]
                  clear HCV
                  go_wp2
                  go_ret
                  exact ⟨by rw [HZ.out]; rfl, HB2.out.trans (BB.out.mono HB2.out.size)⟩
              · have q2 : (((bs x.text).size : Int) == ((bs y.text).size : Int)) = false := by rw [bs_size, bs_size, beq_eq_false_iff_ne]; omega
                have q2n : ((bs x.text).size == (bs y.text).size) = false := by rw [bs_size, bs_size, beq_eq_false_iff_ne]; exact hl
                have HCW := Lib.hid (HK4.out HRR.out h8 hl)
                clear hl
                by_cases hl2 : x.text.length < y.text.length
                · have q3 : ((bs x.text).size : Int) < ((bs y.text).size : Int) := by rw [bs_size, bs_size]; omega
                  have q3n : (bs x.text).size < (bs y.text).size := by rw [bs_size, bs_size]; exact hl2
                  have HCV : Hid (cv = -1) := by show _ = _; rw [HCW.out, if_pos hl2]
                  clear hl2
                  have HZ : Hid (compareV a.data.toList b.data.toList = -1) := by
                    show _ = _
                    rw [HC2.out, if_pos (by rw [HCV.out]; decide), HCV.out]
                  clear HCV
                  go_wp2
                  go_ret
                  exact ⟨by rw [HZ.out]; rfl, HB2.out.trans (BB.out.mono HB2.out.size)⟩
                · have q3 : ¬ ((bs x.text).size : Int) < ((bs y.text).size : Int) := by rw [bs_size, bs_size]; omega
                  have q3n : ¬ (bs x.text).size < (bs y.text).size := by rw [bs_size, bs_size]; exact hl2
                  have HCV : Hid (cv = 1) := by show _ = _; rw [HCW.out, if_neg hl2]
                  clear hl2
                  have HZ : Hid (compareV a.data.toList b.data.toList = 1) := by
                    show _ = _
                    rw [HC2.out, if_pos (by rw [HCV.out]; decide), HCV.out]
                  clear HCV
                  go_wp2
                  go_ret
                  exact ⟨by rw [HZ.out]; rfl, HB2.out.trans (BB.out.mono HB2.out.size)⟩
            · have d1 : decide ((7 : Int) < (rx : Int)) = false := decide_eq_false (by omega)
              have d1n : decide (7 < rx) = false := decide_eq_false h8
              have d1p : ¬ (7 : Int) < (rx : Int) := by omega
              have HCW := Lib.hid (HTL.out fun _ _ h => absurd h h8)
              have q4 : Op.bytesLess (bs x.text).toList (bs y.text).toList = Op.bytesLess x.text y.text := by rw [bs_toList, bs_toList]
              cases hq5 : Op.bytesLess x.text y.text with
              | true =>
                rw [hq5] at q4
                have HCV : Hid (cv = -1) := by show _ = _; rw [HCW.out, hq5]; rfl
                clear HCW hq5 HTL
                have HZ : Hid (compareV a.data.toList b.data.toList = -1) := by
                  show _ = _
                  rw [HC2.out, if_pos (by rw [HCV.out]; decide), HCV.out]
                clear HCV
                go_wp2
                go_ret
                exact ⟨by rw [HZ.out]; rfl, HB2.out.trans (BB.out.mono HB2.out.size)⟩
              | false =>
                rw [hq5] at q4
                have HCV : Hid (cv = 1) := by show _ = _; rw [HCW.out, hq5]; rfl
                clear HCW hq5 HTL
                have HZ : Hid (compareV a.data.toList b.data.toList = 1) := by
                  show _ = _
                  rw [HC2.out, if_pos (by rw [HCV.out]; decide), HCV.out]
                clear HCV
                go_wp2
                go_ret
                exact ⟨by rw [HZ.out]; rfl, HB2.out.trans (BB.out.mono HB2.out.size)⟩
      · have e1 : ((rx : Int) == (ry : Int)) = false := by rw [beq_eq_false_iff_ne]; omega
        have e1n : (rx == ry) = false := by rw [beq_eq_false_iff_ne]; exact hrr
        replace HK1 := Lib.hid (HK1.out hrr)
        clear hrr
        have x0 := BX.out.cell 0 _ rfl
        have x1 := BX.out.cell 1 _ rfl
        have x2 := BX.out.cell 2 _ rfl
        have xl := BX.out.lt
        have y0 := BY.out.cell 0 _ rfl
        have y1 := BY.out.cell 1 _ rfl
        have y2 := BY.out.cell 2 _ rfl
        have yl := BY.out.lt
        have hLL := @Later.cells W6
        have HPX : Hid (∀ z : Later W6, Calls Tryd.prog 41 #[.agg #[.bool (!x.number), .bool x.hyphen, .string (bs x.text)]] z.at_ fun e w'' => e = .returned (.int .i64 rx) ∧ ∃ u : Later W6, w'' = u.at_) := fun z => Later.call (HRX.out _)
        have HPY : Hid (∀ z : Later W6, Calls Tryd.prog 41 #[.agg #[.bool (!y.number), .bool y.hyphen, .string (bs y.text)]] z.at_ fun e w'' => e = .returned (.int .i64 ry) ∧ ∃ u : Later W6, w'' = u.at_) := fun z => Later.call (HRY.out _)
        go_upto_region 11 with fail
        refine region_later (by kernel_rfl) (by kernel_rfl) ?_
        repeat (go_big_quiet_step ((go_at_call 41; first | (with_reducible exact HPX.out _) | (with_reducible exact HPY.out _))))
        refine wpQuiet_nil ?_
        rintro _ ⟨nx, rfl⟩
        have H2X := Lib.hid (BX.out.below nx.below BX.out.lt)
        have H2Y := Lib.hid (BY.out.below nx.below BY.out.lt)
        have H2B := Lib.hid (BB.out.trans (nx.below.mono BB.out.size))
        clear hLL HPX HPY x0 x1 x2 xl y0 y1 y2 yl BX BY BB
        have BX := H2X
        have BY := H2Y
        have BB := H2B
        clear H2X H2Y H2B
        generalize nx.at_ = W7 at *
        by_cases hlr : rx < ry
        · have d1 : (rx : Int) < (ry : Int) := by omega
          have HCV : Hid (cv = -1) := by show _ = _; rw [HK1.out, if_pos hlr]
          have HZ : Hid (compareV a.data.toList b.data.toList = -1) := by
            show _ = _
            rw [HC2.out, if_pos (by rw [HCV.out]; decide), HCV.out]
          clear HCV
          go_wp2
          go_ret
          exact ⟨by rw [HZ.out]; rfl, HB2.out.trans (BB.out.mono HB2.out.size)⟩
        · have d1 : ¬ (rx : Int) < (ry : Int) := by omega
          have HCV : Hid (cv = 1) := by show _ = _; rw [HK1.out, if_neg hlr]
          have HZ : Hid (compareV a.data.toList b.data.toList = 1) := by
            show _ = _
            rw [HC2.out, if_pos (by rw [HCV.out]; decide), HCV.out]
          clear HCV
          go_wp2
          go_ret
          exact ⟨by rw [HZ.out]; rfl, HB2.out.trans (BB.out.mono HB2.out.size)⟩
    · obtain rfl : k = N := by omega
      have hor : (qa || qb) = false := by
        have h1 := HQA.out; have h2 := HQB.out; have h3 := HNM.out
        change _ = _ at h1; change _ = _ at h2; change _ = _ at h3
        rw [← h1, ← h2, Bool.or_eq_false_iff, decide_eq_false_iff_not, decide_eq_false_iff_not]; omega
      have HC4 : Hid (compareV a.data.toList b.data.toList = 0) := by show _ = _; rw [HC.out, Nat.sub_self]; rfl
      clear HC
      rw [hor]
      go_wp2
      go_ret
      exact ⟨by rw [HC4.out]; rfl, HB2.out.trans (HB.out.mono HB2.out.size)⟩

end Go.Proofs.YtecffghcpknmjaaDoor

/- The walks of meta.IsSnapshot, and of the document's; the conditions stand in the theorems. -/
namespace Go.Proofs.YtecffghcpknmjaaDoor
open Go Go.RowKit

def isSnapP (p : PartV) : Bool := !p.number && decide (p.text = wSnapshot)
theorem snapV_any (T : Bs) : snapV T = (partsV T).any isSnapP := rfl
theorem snap_lit (t : Bs) : ((bs t).toList == [115, 110, 97, 112, 115, 104, 111, 116]) = decide (t = wSnapshot) := by
  rw [bs_toList, Bool.eq_iff_iff, beq_iff_eq, decide_eq_true_iff]; rfl
theorem snapClo_any (p : PartV) (w : World) : Calls Tryd.prog 44 #[.agg #[.bool p.hyphen, .bool p.number, .string (bs p.text)]] w fun e w' => e = .returned (.bool (isSnapP p)) ∧ Below w.heap.size w w' := by
  have hl := snap_lit p.text
  unfold isSnapP
  obtain ⟨hy, nm, t⟩ := p
  simp only at hl ⊢
  generalize decide (t = wSnapshot) = q at *
  cases nm
  · go_enter Tryd.func44, Tryd.ntmps44
    go_wp2
    go_ret
    exact ⟨rfl, (Below.refl _ _).alloc (Nat.le_refl _) _⟩
  · go_enter Tryd.func44, Tryd.ntmps44
    go_wp2
    go_ret
    exact ⟨rfl, (Below.refl _ _).alloc (Nat.le_refl _) _⟩
theorem enters_snap : ∀ (args : Array Value) (w : World), (callFunc 44 args).run Tryd.prog w = .ok (.enter 44 args) w := fun args w => by kernel_rfl
set_option maxRecDepth 100000 in
set_option maxHeartbeats 4000000 in
/-- slices.IndexFunc at parts: whether the place that it finds is one tells whether there is a snapshot's part. -/
theorem snapIndex_any (l : List PartV) (ao : Option Addr) (c : Nat) (w : World) (h : SliceOf 3 prtC w (.slice ao l.length c) l) (hl : l.length ≤ 1000000) :
    Calls Tryd.prog 69 #[.slice ao l.length c, .func (.func 44) #[] #[]] w fun e w' => (∃ i : Int, e = .returned (.int .i64 i) ∧ decide (0 ≤ i) = l.any isSnapP) ∧ Below w.heap.size w w' := by
  have HS := Lib.hid h
  have hen := enters_snap
  clear h
  go_enter Tryd.func69, Tryd.ntmps69
  go_wp2
  go_loopw [8] (fun i wr => ∃ k : Nat, i = .int .i64 k ∧ k ≤ l.length ∧ Hid (Below w.heap.size w wr) ∧ Hid (l.any isSnapP = (l.drop k).any isSnapP)) (fun i _ => l.length - (intOf i).toNat)
  case atStart => exact ⟨0, rfl, Nat.zero_le _, Below.refl _ _, rfl⟩
  case round =>
    obtain ⟨k, rfl, hk, HB, HA⟩ := hrel
    by_cases hlt : k < l.length
    · obtain ⟨b, o, hao, hbl, hc⟩ := (HS.out.below HB.out).at hlt
      cases hao
      have d1 : (k : Int) < (l.length : Int) := by omega
      have wk : IntKind.i64.wrap ((k : Int) + 1) = (k : Int) + 1 := IntWalk.i64_in _ (by omega)
      have HD : Hid (l.any isSnapP = (isSnapP l[k] || (l.drop (k + 1)).any isSnapP)) := by show _ = _; rw [HA.out, drop_cons' hlt, List.any_cons]
      have c0 := hc 0 _ rfl
      have c1 := hc 1 _ rfl
      have c2 := hc 2 _ rfl
      rw [Nat.add_zero] at c0
      generalize l[k] = p at *
      clear hc HA
      have hcl := fun w => snapClo_any p w
      have HCL := Lib.hid hcl
      clear hcl
      generalize isSnapP p = q at *
      go_wp2_with fail
      refine (HCL.out _).mono ?_
      rintro e w' ⟨rfl, hb⟩
      have HB2 := Lib.hid (HB.out.trans (hb.mono HB.out.size))
      clear hb HB c0 c1 c2
      cases q
      · go_wp2
        go_roundw
        case rel => exact ⟨k + 1, by first | rfl | go_num, hlt, HB2, HD⟩
        case measure => simp [intOf]; omega
      · go_wp2
        go_ret
        exact ⟨⟨k, rfl, by rw [HD.out]; simp⟩, HB2.out⟩
    · obtain rfl : k = l.length := by omega
      have d1 : ¬ (l.length : Int) < (l.length : Int) := by omega
      have HD : Hid (l.any isSnapP = false) := by show _ = _; rw [HA.out, List.drop_length]; rfl
      clear HA
      go_wp2
      go_ret
      exact ⟨⟨-1, rfl, by rw [HD.out]; rfl⟩, HB.out⟩
set_option maxRecDepth 100000 in
theorem snapContains_any (l : List PartV) (ao : Option Addr) (c : Nat) (w : World) (h : SliceOf 3 prtC w (.slice ao l.length c) l) (hl : l.length ≤ 1000000) :
    Calls Tryd.prog 42 #[.slice ao l.length c, .func (.func 44) #[] #[]] w fun e w' => e = .returned (.bool (l.any isSnapP)) ∧ Below w.heap.size w w' := by
  have HI := Lib.hid (snapIndex_any l ao c w h hl)
  clear h hl
  go_enter Tryd.func42, Tryd.ntmps42
  go_wp2_with fail
  refine HI.out.mono ?_
  rintro e w' ⟨⟨i, rfl, hi⟩, hb⟩
  have HB := Lib.hid hb
  have HQ := Lib.hid hi
  clear hb hi
  go_wp2
  go_ret
  exact ⟨by rw [← HQ.out]; rfl, HB.out⟩
set_option maxRecDepth 100000 in
theorem isSnapshot_any (s : S) (w : World) (hs : s.size ≤ 900000) : Calls Tryd.prog 19 #[.string s] w fun e w' => e = .returned (.bool (snapV s.data.toList)) ∧ Below w.heap.size w w' := by
  have HP := Lib.hid (parts_any s w hs)
  have HL : Hid ((partsV s.data.toList).length ≤ 1000000) := partsV_len s hs
  clear hs
  go_enter Tryd.func19, Tryd.ntmps19
  go_wp2_with fail
  refine HP.out.mono ?_
  rintro e w1 ⟨v1, rfl, hp1, hb1⟩
  obtain ⟨ao, ac, rfl⟩ := hp1.shape
  have HC := Lib.hid (snapContains_any _ ao ac w1 (hp1.slice prtC_len) HL.out)
  have HB := Lib.hid hb1
  clear hp1 hb1 HP
  go_wp2_with fail
  refine HC.out.mono ?_
  rintro e w2 ⟨rfl, hb2⟩
  have HB2 := Lib.hid (HB.out.trans (hb2.mono HB.out.size))
  clear hb2 HC
  go_wp2
  go_ret
  exact ⟨rfl, HB2.out⟩
set_option maxRecDepth 100000 in
set_option maxHeartbeats 4000000 in
theorem refIsSnapshot_of (HPT : RefPartsOk) (s : S) (w : World) (hs : s.size ≤ 900000) : Calls Tryd.prog 20 #[.string s] w fun e w' => e = .returned (.bool (snapV s.data.toList)) ∧ Below w.heap.size w w' := by
  have HP := Lib.hid (HPT s w hs)
  have HL : Hid ((partsV s.data.toList).length ≤ 1000000) := partsV_len s hs
  have HV := Lib.hid (snapV_any s.data.toList)
  clear hs HPT
  go_enter Tryd.func20, Tryd.ntmps20
  go_wp2_with fail
  refine HP.out.mono ?_
  rintro e w1 ⟨v1, rfl, hp1, hb1⟩
  obtain ⟨ao, ac, rfl⟩ := hp1.shape
  have HS := Lib.hid (hp1.slice docC_len)
  have HB1 := Lib.hid hb1
  clear hp1 hb1 HP
  generalize partsV s.data.toList = l at *
  go_wp2
  go_loopw [8] (fun i wr => ∃ k : Nat, i = .int .i64 k ∧ k ≤ l.length ∧ Hid (Below w1.heap.size w1 wr) ∧ Hid (l.any isSnapP = (l.drop k).any isSnapP)) (fun i _ => l.length - (intOf i).toNat)
  case atStart => exact ⟨0, rfl, Nat.zero_le _, Below.refl _ _, rfl⟩
  case round =>
    obtain ⟨k, rfl, hk, HB, HA⟩ := hrel
    by_cases hlt : k < l.length
    · obtain ⟨b, o, hao, hbl, hc⟩ := (HS.out.below HB.out).at hlt
      cases hao
      have d1 : (k : Int) < (l.length : Int) := by omega
      have wk : IntKind.i64.wrap ((k : Int) + 1) = (k : Int) + 1 := IntWalk.i64_in _ (by have := HL.out; omega)
      have HD : Hid (l.any isSnapP = (isSnapP l[k] || (l.drop (k + 1)).any isSnapP)) := by show _ = _; rw [HA.out, drop_cons' hlt, List.any_cons]
      have c0 := hc 0 _ rfl
      have c1 := hc 1 _ rfl
      have c2 := hc 2 _ rfl
      rw [Nat.add_zero] at c0
      generalize l[k] = p at *
      obtain ⟨hy, nm, t⟩ := p
      have hl := snap_lit t
      have HX : Hid (isSnapP ⟨hy, nm, t⟩ = (!nm && decide (t = wSnapshot))) := rfl
      simp only at c0 c1 c2
      clear hc HA
      rw [show isSnapP ⟨hy, nm, t⟩ = _ from HX.out] at HD
      generalize decide (t = wSnapshot) = q at *
      have HB2 : Hid (Below w1.heap.size w1 (wr.alloc (.cells #[.bool (!nm), .bool hy, .string (bs t)] 70))) := HB.out.alloc HB.out.size _
      clear HX
      cases nm
      · cases q
        · go_wp2
          go_roundw
          case rel => exact ⟨k + 1, by first | rfl | go_num, hlt, HB2, HD⟩
          case measure => simp [intOf]; omega
        · go_wp2
          go_ret
          exact ⟨by rw [HV.out, HD.out]; rfl, HB1.out.trans (HB2.out.mono HB1.out.size)⟩
      · go_wp2
        go_roundw
        case rel => exact ⟨k + 1, by first | rfl | go_num, hlt, HB2, HD⟩
        case measure => simp [intOf]; omega
    · obtain rfl : k = l.length := by omega
      have d1 : ¬ (l.length : Int) < (l.length : Int) := by omega
      have HD : Hid (l.any isSnapP = false) := by show _ = _; rw [HA.out, List.drop_length]; rfl
      clear HA
      go_wp2
      go_ret
      exact ⟨by rw [HV.out, HD.out]; rfl, HB1.out.trans (HB.out.mono HB1.out.size)⟩

end Go.Proofs.YtecffghcpknmjaaDoor

/- The walks of slices.Backward at texts and of meta.release, which ranges over it; the conditions stand in the theorems. -/
namespace Go.Proofs.YtecffghcpknmjaaDoor
open Go Go.RowKit Go.Shelf

attribute [local go_sem] Oper.semAt_some
abbrev SmallS := { x : S // x.size ≤ 900000 }
def noSmall : SmallS := ⟨⟨#[]⟩, by decide⟩
def backAt (zs : List SmallS) (k : Nat) : Nat × SmallS := (zs.length - 1 - k, zs[zs.length - 1 - k]?.getD noSmall)
def backUpto (zs : List SmallS) (k : Nat) : List (Nat × SmallS) := (List.range k).map (backAt zs)
theorem backUpto_succ (zs : List SmallS) (k : Nat) : backUpto zs (k + 1) = backUpto zs k ++ [backAt zs k] := by simp [backUpto, List.range_succ]
theorem backUpto_length (zs : List SmallS) (k : Nat) : (backUpto zs k).length = k := by simp [backUpto]
/-- The texts lie in a block below n₀. -/
def SmallIn (n₀ : Nat) (W : World) (ao : Option Addr) (zs : List SmallS) : Prop := ∀ j (hj : j < zs.length), ∃ b o, ao = some ⟨b, o, none⟩ ∧ b < n₀ ∧ W.cell? ⟨b, o + j, none⟩ = some (.string zs[j].1)
theorem SmallIn.below {n₀ : Nat} {A B : World} {ao : Option Addr} {zs : List SmallS} (h : SmallIn n₀ A ao zs) (hb : Below n₀ A B) : SmallIn n₀ B ao zs := fun j hj => by
  obtain ⟨b, o, h1, h2, h3⟩ := h j hj
  exact ⟨b, o, h1, h2, (hb.cell (p := ⟨b, o + j, none⟩) h2).trans h3⟩
set_option maxRecDepth 100000 in
set_option maxHeartbeats 2000000 in
theorem back1_in (F : Fence) (n : Nat) (hf : F.fn 84) (hro : F.round = none) (hn : 1 ≤ n) (l Bs n₀ cap : Nat) (ao : Option Addr) (zs : List SmallS) (hlen : zs.length ≤ 1000000) (J Jx : List (Nat × SmallS) → World → Prop)
    (hY : ∀ pre x W, J pre W → pre.length < zs.length → YieldAt F (n - 1) Tryd.prog l #[.int .i64 (x.1 : Int), .string x.2.1] W fun e W' =>
      (e = .returned (.bool true) ∧ J (pre ++ [x]) W' ∧ Below n₀ W W') ∨ (e = .returned (.bool false) ∧ Jx (pre ++ [x]) W'))
    (W : World) (hBl : Bs < n₀) (hBs : W.cell? ⟨Bs, 0, none⟩ = some (.slice ao zs.length cap)) (hc : SmallIn n₀ W ao zs) (h0 : J [] W) :
    CallsIn F n Tryd.prog 84 #[.func (.yield l) #[] #[], .pointer (some ⟨Bs, 0, none⟩)] W fun e W' => (∃ v, e = .returned v) ∧
      ((∃ ys, ys = backUpto zs zs.length ∧ J ys W') ∨ (∃ pre, (∃ k, k ≤ zs.length ∧ pre = backUpto zs k) ∧ Jx pre W')) := by
  have wl : IntKind.i64.wrap ((zs.length : Int) - 1) = (zs.length : Int) - 1 := IntWalk.i64_in _ (by omega)
  refine callsIn_of_wp Tryd.func84 rfl hf ?_ hro
  simp only [Tryd.ntmps84, List.size_toArray, List.length_cons, List.length_nil, Nat.reduceAdd, Nat.reduceSub, Array.replicate_succ, Array.replicate_zero, List.push_toArray, List.append_toArray, List.nil_append, List.cons_append]
  gi_wp2
  clear wl
  gi_loopw [3] (fun i wr => ∃ m k : Nat, m + k = zs.length ∧ i = .int .i64 ((m : Int) - 1) ∧ J (backUpto zs k) wr ∧ Below n₀ W wr) (fun i _ => (intOf i + 1).toNat)
  case atStart => exact ⟨zs.length, 0, rfl, rfl, h0, Below.refl _ _⟩
  case round =>
    obtain ⟨m, k, hmk, rfl, hJs, hnx⟩ := hrel
    cases m with
    | zero =>
      have d1 : ¬ (0 : Int) ≤ ((0 : Nat) : Int) - 1 := by omega
      have d2 : ¬ (0 : Int) ≤ -1 := by omega
      gi_wp2
      go_end0
      obtain rfl : k = zs.length := by omega
      first | exact ⟨⟨_, rfl⟩, .inl ⟨_, rfl, hJs⟩⟩ | exact ⟨⟨_, rfl⟩, .inl hJs⟩
    | succ m =>
      have hkz : k < zs.length := by omega
      have hat : backAt zs k = (m, zs[m]'(by omega)) := by
        unfold backAt
        rw [show zs.length - 1 - k = m by omega, List.getElem?_eq_getElem (by omega)]; rfl
      obtain ⟨fn, tmps, assign, body, hy, hR⟩ := hY _ (backAt zs k) wr hJs (by rw [backUpto_length]; exact hkz)
      obtain ⟨b, o, rfl, hb, hcell⟩ := (hc.below hnx) m (by omega)
      have hBs' := (hnx.cell (p := ⟨Bs, 0, none⟩) hBl).trans hBs
      rw [hat] at hy
      dsimp only at hy
      have em : ((m + 1 : Nat) : Int) - 1 = (m : Int) := by omega
      have d1 : (0 : Int) ≤ (m : Int) := by omega
      have lm : (m : Int) < (zs.length : Int) := by omega
      have wm : IntKind.i64.wrap ((m : Int) - 1) = (m : Int) - 1 := IntWalk.i64_in _ (by omega)
      rw [em]
      have HMK := Lib.hid hmk
      have hml : m < zs.length := by omega
      generalize zs[m]'hml = x at *
      clear em hat hmk hml
      gi_wp2
      refine hR.mono ?_
      rintro e W3 (⟨rfl, hJ3, hk3⟩ | ⟨rfl, hJx3⟩)
      · gi_wp2
        go_roundw
        case rel => exact ⟨m, k + 1, by have := HMK.out; change _ = _ at this; omega, rfl, by rw [backUpto_succ]; exact hJ3, hnx.trans hk3⟩
        case measure => simp [intOf]
      · gi_wp2
        refine bodyPost_ret (results_none rfl _ _ _) rfl ?_
        exact ⟨⟨_, rfl⟩, .inr ⟨_, ⟨k + 1, by omega, (backUpto_succ _ _).symm⟩, hJx3⟩⟩
theorem backward_in (F : Fence) (n : Nat) (hf : F.fn 65) (hro : F.round = none) (a : Option Addr) (len cap : Nat) (w : World) :
    CallsIn F n Tryd.prog 65 #[.slice a len cap] w fun e w' => e = .returned (.func (.func 84) #[] #[.pointer (some ⟨w.heap.size, 0, none⟩)]) ∧ w' = w.alloc (.cells #[.slice a len cap] 29) := by
  refine callsIn_of_wp Tryd.func65 rfl hf ?_ hro
  simp only [Tryd.ntmps65, List.size_toArray, List.length_cons, List.length_nil, Nat.reduceAdd, Nat.reduceSub, Array.replicate_succ, Array.replicate_zero, List.push_toArray, List.append_toArray, List.nil_append, List.cons_append]
  gi_wp2
  go_ret
  exact ⟨rfl, rfl⟩
theorem back_stops (F : Fence) (n : Nat) (hf : F.fn 84) (hro : F.round = none) (hn : 1 ≤ n) (Bs n₀ cap : Nat) (ao : Option Addr) (zs : List SmallS) (hlen : zs.length ≤ 1000000) (w : World) (hBs : Bs < n₀) (hn₀ : n₀ ≤ w.heap.size)
    (hc : w.cell? ⟨Bs, 0, none⟩ = some (.slice ao zs.length cap)) (hI : SmallIn n₀ w ao zs) :
    SeqStopsK F n Tryd.prog 84 #[.pointer (some ⟨Bs, 0, none⟩)] (fun x : Nat × SmallS => #[Value.int .i64 (x.1 : Int), Value.string x.2.1]) (Below n₀) (fun ys => ys = backUpto zs zs.length) (fun pre => ∃ k, k ≤ zs.length ∧ pre = backUpto zs k) zs.length w := fun l J Jx W hW _ _ hY h0 =>
  back1_in F n hf hro hn l Bs n₀ cap ao zs hlen J Jx hY W hBs ((hW.cell (p := ⟨Bs, 0, none⟩) (Nat.lt_of_lt_of_le hBs hn₀)).trans hc) (hI.below (hW.mono hn₀)) h0
/-- The last text that is no snapshot. -/
def relV (l : List S) : S := (l.reverse.find? fun v => !snapV v.data.toList).getD ⟨#[]⟩
def snapX (x : Nat × SmallS) : Bool := snapV x.2.1.data.toList
theorem backUpto_texts (zs : List SmallS) (k : Nat) (hk : k ≤ zs.length) : (backUpto zs k).map (fun x => x.2.1) = (zs.map (·.1)).reverse.take k := by
  apply List.ext_getElem
  · simp [backUpto, hk]
  · intro i h1 h2
    have hi : i < k := by simpa [backUpto] using h1
    have e : zs.length - 1 - i < zs.length := by omega
    simp [backUpto, backAt, List.getElem_reverse, List.getElem?_eq_getElem e]
theorem find_none {zs : List SmallS} (h : ∀ p ∈ backUpto zs zs.length, snapX p = true) : relV (zs.map (·.1)) = ⟨#[]⟩ := by
  have e := backUpto_texts zs zs.length (Nat.le_refl _)
  rw [List.take_of_length_le (by simp)] at e
  unfold relV
  rw [← e, List.find?_map]
  rw [List.find?_eq_none.2 (fun p hp => by have := h p hp; unfold snapX at this; simp [this])]
  rfl
theorem find_some {zs : List SmallS} {k : Nat} (hk : k ≤ zs.length) {ini : List (Nat × SmallS)} {last : Nat × SmallS} (e : backUpto zs k = ini ++ [last]) (h : ∀ p ∈ ini, snapX p = true) (hl : snapX last = false) : relV (zs.map (·.1)) = last.2.1 := by
  have e1 := backUpto_texts zs k hk
  rw [e, List.map_append] at e1
  unfold relV
  rw [← List.take_append_drop k (zs.map (·.1)).reverse, ← e1, List.find?_append, List.find?_append, List.find?_eq_none.2 (fun s hs => by
    obtain ⟨p, hp, rfl⟩ := List.mem_map.1 hs
    have := h p hp
    unfold snapX at this; simp [this])]
  unfold snapX at hl
  simp [hl]
set_option maxRecDepth 100000 in
set_option maxHeartbeats 2000000 in
theorem release_any (zs : List SmallS) (ao : Option Addr) (cap : Nat) (w : World) (hS : SliceOf 1 strC w (.slice ao zs.length cap) (zs.map (·.1))) (hlen : zs.length ≤ 1000000) :
    Calls Tryd.prog 35 #[.slice ao zs.length cap] w fun e w' => e = .returned (.string (relV (zs.map (·.1)))) ∧ Below w.heap.size w w' := by
  have hI : SmallIn w.heap.size w ao zs := fun j hj => by
    obtain ⟨ao', cap', h1, h2, hm, h3, h4⟩ := hS
    rw [List.length_map] at h1
    cases h1
    obtain ⟨b, o, e1, e2, e3⟩ := h4 j zs[j].1 (by simp [hj])
    exact ⟨b, o, e1, e2, by simpa using e3 0 _ rfl⟩
  clear hS
  refine (callsIn_wide (n := 3)).1 ?_
  refine callsIn_of_wp_marks Tryd.func35 rfl trivial ?_ rfl
  simp only [Tryd.ntmps35, List.size_toArray, List.length_cons, List.length_nil, Nat.reduceAdd, Nat.reduceSub, Array.replicate_succ, Array.replicate_zero, List.push_toArray, List.append_toArray, List.nil_append, List.cons_append]
  gi_wp2_with (refine ⟨trivial, ?_⟩; gi_at_call 65; refine (backward_in Fence.wide 2 trivial rfl _ _ _ _).mono ?_; rintro e w' ⟨rfl, rfl⟩)
  have bS := Boxed.new w 9 (.string ⟨#[]⟩)
  have bN := Boxed.new (w.alloc (.cells #[.string ⟨#[]⟩] 9)) 29 (.slice ao zs.length cap)
  rw [World.size_alloc] at bN
  have hB0 : Below w.heap.size w ((w.alloc (.cells #[.string ⟨#[]⟩] 9)).alloc (.cells #[.slice ao zs.length cap] 29)) := ((Below.refl _ w).alloc (Nat.le_refl _) _).alloc (by simp) _
  have hI2 : SmallIn (w.heap.size + 1 + 1) ((w.alloc (.cells #[.string ⟨#[]⟩] 9)).alloc (.cells #[.slice ao zs.length cap] 29)) ao zs := fun j hj => by
    obtain ⟨b, o, e1, e2, e3⟩ := (hI.below hB0) j hj
    exact ⟨b, o, e1, by omega, e3⟩
  refine wpIn_rangeFunc_ownG rfl (by decide) (gf := 84) (lb := #[.pointer (some ⟨w.heap.size + 1, 0, none⟩)]) rfl trivial (enters_of Tryd.func84 (by kernel_rfl) rfl)
    (back_stops Fence.wide 2 trivial rfl (by decide) (w.heap.size + 1) (w.heap.size + 1 + 1) cap ao zs hlen _ (by omega) (by simp) bN.cell hI2) belowK_t (belowK_b (by simp)) (Below.refl _ _) (fun _ => rfl)
    (fun pre W => ((∀ p ∈ pre, snapX p = true) ∧ W.cell? ⟨w.heap.size, 0, none⟩ = some (.string ⟨#[]⟩) ∧ W.frozen? ⟨w.heap.size, 0, none⟩ = false) ∧ (Below w.heap.size w W ∧ w.heap.size + 2 ≤ W.heap.size))
    (fun c pre W => (c = .ret ∧ ∃ ini last, pre = ini ++ [last] ∧ (∀ p ∈ ini, snapX p = true) ∧ snapX last = false ∧ W.cell? ⟨w.heap.size, 0, none⟩ = some (.string last.2.1)) ∧ Below w.heap.size w W)
    (OwnFrom.and (Own.from (fun s A B row hs hg hr => ⟨hs.1, cell_kept hs.2.1 hg hr, (frozen_kept hs.2.1 hg hr).trans hs.2.2⟩) _) (OwnFrom.and (ownFrom_below (Nat.le_refl _) (by simp; omega)) (Own.from (fun s A B row hs hg hr => Nat.le_trans hs hg.size) _)))
    (fun c => OwnFrom.and (Own.from (fun s A B row hs hg hr => by obtain ⟨hc, ini, last, e1, e2, e3, e4⟩ := hs; exact ⟨hc, ini, last, e1, e2, e3, cell_kept e4 hg hr⟩) _) (ownFrom_below (Nat.le_refl _) (by simp; omega)))
    ⟨⟨by simp, (bS.alloc _).cell, (bS.alloc _).frozen⟩, hB0, by simp⟩
    (fun x => { tmps := #[.slice ao zs.length cap, undef, .pointer (some ⟨w.heap.size, 0, none⟩), undef, .string x.2.1, .slice ao zs.length cap, .func (.func 84) #[] #[.pointer (some ⟨w.heap.size + 1, 0, none⟩)], .int .i64 (x.1 : Int), .string x.2.1, undef, undef, undef, undef], defers := [] }) ?assign ?body ?done ?stop
  case assign =>
    intro l x W K hK
    gi_wp2
    exact hK
  case body =>
    rintro l pre x W ⟨⟨hp, hcr, hfr⟩, hB, hsz⟩ _
    have HS : ∀ V : World, Calls Tryd.prog 19 #[.string x.2.1] V fun e w' => e = .returned (.bool (snapX x)) ∧ Below V.heap.size V w' := fun V => isSnapshot_any x.2.1 V x.2.2
    have HSN := Lib.hid HS
    clear HS
    cases hq : snapX x with
    | true =>
      rw [hq] at HSN
      have HQ := Lib.hid hq
      clear hq
      gi_wp2_with (refine ⟨trivial, ?_⟩; gi_at_call 19; refine (CallsIn.inRound l (callsIn_wide.2 (HSN.out _))).mono ?_; rintro e w' ⟨rfl, hb⟩)
      have hg : W.grownBy w' none := ⟨hb.os, hb.tape, hb.output, hb.size, fun k hk _ => hb.block k hk⟩
      refine ⟨(KeepsOthers.of_grownBy hg (fun j o ej hj => by cases ej)).from _, hb.mono (by omega), ⟨fun p hp' => (List.mem_append.1 hp').elim (hp p) (fun e => by rw [List.mem_singleton.1 e]; exact HQ.out), (hb.cell (p := ⟨w.heap.size, 0, none⟩) (by show w.heap.size < _; omega)).trans hcr, (hb.frozen (p := ⟨w.heap.size, 0, none⟩) (by show w.heap.size < _; omega)).trans hfr⟩, hB.trans (hb.mono hB.size), Nat.le_trans hsz hb.size⟩
    | false =>
      rw [hq] at HSN
      have HQ := Lib.hid hq
      clear hq
      gi_wp2_with (refine ⟨trivial, ?_⟩; gi_at_call 19; refine (CallsIn.inRound l (callsIn_wide.2 (HSN.out _))).mono ?_; rintro e w' ⟨rfl, hb⟩; have hcr' := (hb.cell (p := ⟨w.heap.size, 0, none⟩) (by show w.heap.size < _; omega)).trans hcr; have hfr' := (hb.frozen (p := ⟨w.heap.size, 0, none⟩) (by show w.heap.size < _; omega)).trans hfr)
      have hg : W.grownBy w' none := ⟨hb.os, hb.tape, hb.output, hb.size, fun k hk _ => hb.block k hk⟩
      exact ⟨((KeepsOthers.of_grownBy hg (fun j o ej hj => by cases ej)).trans (KeepsOthers.setCell _ _ _)).from _, ⟨rfl, pre, x, rfl, hp, HQ.out, World.cell?_setCell_same' _ _ _ (by rw [hcr']; rfl)⟩, (hB.trans (hb.mono hB.size)).setCell (p := ⟨w.heap.size, 0, none⟩) (Nat.le_refl _) _⟩
  case done =>
    rintro D ys W hD rfl ⟨⟨hne, hcr, hfr⟩, hB, hsz⟩ hK
    gi_wp2
    have hK' := (KeepsOthers.setCell W ⟨w.heap.size, 0, none⟩ (.string ⟨#[]⟩)).same D _ hK rfl
    refine ⟨by simp, .inl ⟨_, _, rfl, run_takeDeferred hK', ?_⟩⟩
    have hc5 := cell_kept (World.cell?_setCell_same' W ⟨w.heap.size, 0, none⟩ (.string ⟨#[]⟩) (by rw [hcr]; rfl)) (grownBy_putObj' _ D (.deferred none)) (fun r e => by cases e; exact ⟨_, hK', rfl⟩)
    refine ⟨.string ⟨#[]⟩, ?_, by rw [find_none hne], (hB.setCell (p := ⟨w.heap.size, 0, none⟩) (Nat.le_refl _) _).trans (belowK_b (w := w) (Nat.le_refl _) _ D _ _ (by simp at hD; omega) hK' rfl rfl)⟩
    simp [results, Tryd.f35, go_sem, hc5]
  case stop =>
    rintro D c pre W hD ⟨k, hk, rfl⟩ ⟨⟨rfl, ini, last, e1, e2, e3, hcr⟩, hB⟩ hK
    gi_wp2
    refine ⟨by simp, .inl ⟨_, _, rfl, run_takeDeferred hK, ?_⟩⟩
    have hc5 := cell_kept hcr (grownBy_putObj' _ D (.deferred none)) (fun r e => by cases e; exact ⟨_, hK, rfl⟩)
    refine ⟨.string last.2.1, ?_, by rw [find_some hk e1 e2 e3], hB.trans (belowK_b (w := w) (Nat.le_refl _) W D _ _ (by simp at hD; omega) hK rfl rfl)⟩
    simp [results, Tryd.f35, go_sem, hc5]

end Go.Proofs.YtecffghcpknmjaaDoor
