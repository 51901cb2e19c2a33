/- The walks of version.sign, rank, compare, at; the conditions stand in the theorems. -/
import Derived.Test.YtecffghcpknmjaaGreatDoorV6
import Derived.Test.YtecffghcpknmjaaGreatDoorShelf

namespace Go.Proofs.YtecffghcpknmjaaGreatDoor
open Go Go.RowKit

def sgnV (a b : Int) : Int := if a < b then -1 else if b < a then 1 else 0
theorem sign_any (a b : Int) (w : World) : Calls Tryz.prog 108 #[.int .i64 a, .int .i64 b] w fun e w' => e = .returned (.int .i64 (sgnV a b)) ∧ w = w' := by
  unfold sgnV
  by_cases h1 : a < b
  · have d1 : decide (a < b) = true := decide_eq_true h1
    rw [if_pos h1]
    clear h1
    go_enter Tryz.func108, Tryz.ntmps108
    go_wp2
    go_ret
    exact ⟨rfl, rfl⟩
  · have d1 : decide (a < b) = false := decide_eq_false h1
    rw [if_neg h1]
    by_cases h2 : b < a
    · have d2 : decide (b < a) = true := decide_eq_true h2
      rw [if_pos h2]
      clear h1 h2
      go_enter Tryz.func108, Tryz.ntmps108
      go_wp2
      go_ret
      exact ⟨rfl, rfl⟩
    · have d2 : decide (b < a) = false := decide_eq_false h2
      rw [if_neg h2]
      clear h1 h2
      go_enter Tryz.func108, Tryz.ntmps108
      go_wp2
      go_ret
      exact ⟨rfl, rfl⟩
/-- The words' places, as the library finds them. -/
def wordsS : List S := wordsV.map bs
theorem idxF_words (t : Bs) : ∀ (l : List Bs) (i : Nat), Lib.idxFromS (l.map bs) (bs t) i = match l.findIdx? (fun w => decide (t = w)) with | some j => ((i + j : Nat) : Int) | none => -1
  | [], i => rfl
  | z :: l, i => by
    rw [List.map_cons, Lib.idxFromS, List.findIdx?_cons]
    by_cases h : t = z
    · subst h
      simp
    · have hn : ¬ bs z = bs t := fun e => h (bs_inj e).symm
      rw [if_neg hn, idxF_words t l (i + 1), decide_eq_false h]
      simp only [Bool.false_eq_true, if_false]
      cases l.findIdx? (fun w => decide (t = w)) with
      | none => rfl
      | some j =>
        show ((i + 1 + j : Nat) : Int) = ((i + (j + 1) : Nat) : Int)
        congr 1; omega
set_option maxRecDepth 100000 in
theorem rank_any (p : PartV) (w : World) : Calls Tryz.prog 107 #[.agg #[.bool p.hyphen, .bool p.number, .string (bs p.text)]] w fun e w' => e = .returned (.int .i64 (rankV p)) ∧ Below w.heap.size w w' := by
  have he2 : ((bs p.text).toList == []) = p.text.isEmpty := by rw [ByteArray.toList_eq]; simp [bs]
  have he : (bs p.text).toList.isEmpty = p.text.isEmpty := by rw [ByteArray.toList_eq]; simp [bs]
  obtain ⟨hy, nm, t⟩ := p
  simp only at he he2
  cases nm with
  | true =>
    cases ht : t.isEmpty with
    | true =>
      have HV : Hid (rankV ⟨hy, true, t⟩ = 5) := by show _ = _; unfold rankV; simp only [if_true]; rw [if_pos ht]
      rw [ht] at he he2
      rw [HV.out]
      clear HV ht
      go_enter Tryz.func107, Tryz.ntmps107
      go_wp2
      go_ret
      exact ⟨rfl, (Below.refl _ _).alloc (Nat.le_refl _) _⟩
    | false =>
      have HV : Hid (rankV ⟨hy, true, t⟩ = if hy then 8 else 9) := by show _ = _; unfold rankV; simp only [if_true]; rw [if_neg (by rw [ht]; simp)]
      rw [ht] at he he2
      rw [HV.out]
      clear HV ht
      cases hy
      all_goals
        go_enter Tryz.func107, Tryz.ntmps107
        go_wp2
        go_ret
        exact ⟨rfl, (Below.refl _ _).alloc (Nat.le_refl _) _⟩
  | false =>
    have HV : Hid (rankV ⟨hy, false, t⟩ = (wordsV.findIdx? (fun w => decide (t = w))).getD 7) := by show _ = _; unfold rankV; simp
    have HI := Lib.hid (idxF_words t wordsV 0)
    rw [HV.out]
    clear HV he he2
    go_enter Tryz.func107, Tryz.ntmps107
    go_wp2_with fail
    refine Calls.world ?_
    intro W hW
    have x1 : Box W (w.heap.size + 1) (wordsS.map Value.string) := by rw [hW]; exact Box.new _ (wordsS.map Value.string) _ _ (by simp)
    have hb : Below w.heap.size w W := by rw [hW]; exact ((Below.refl _ w).alloc (Nat.le_refl _) _).alloc (by simp) _
    clear hW
    refine (Tryz.slices_Index_string (w.heap.size + 1) 0 7 7 wordsS (bs t) W (by decide) (by decide) (fun j hj => ?_)).mono ?_
    · rw [Nat.zero_add]
      refine x1.cell j _ ?_
      rw [List.getElem?_map, List.getElem?_eq_getElem hj, List.getD_eq_getElem?_getD, List.getElem?_eq_getElem hj]; rfl
    rintro e w' ⟨rfl, rfl⟩
    have hx : Lib.idxOfS (wordsS.take 7) (bs t) = _ := HI.out
    rw [hx]
    have HB := Lib.hid hb
    clear hx HI x1 hb
    cases hf : wordsV.findIdx? (fun w => decide (t = w)) with
    | none =>
      have HF := Lib.hid hf
      clear hf
      go_wp2
      go_ret
      exact ⟨by rw [HF.out]; rfl, HB.out⟩
    | some j =>
      have HF := Lib.hid hf
      clear hf
      have d1 : decide (((0 + j : Nat) : Int) < 0) = false := decide_eq_false (by omega)
      have d2 : decide ((j : Int) < 0) = false := decide_eq_false (by omega)
      simp only [Nat.zero_add]
      go_wp2
      go_ret
      exact ⟨by rw [HF.out]; rfl, HB.out⟩
def cmpV (p q : PartV) : Int := if sgnV (rankV p) (rankV q) ≠ 0 then sgnV (rankV p) (rankV q) else if rankV p = 7 then Lib.compareBytes p.text q.text else if 7 < rankV p then (if sgnV p.text.length q.text.length ≠ 0 then sgnV p.text.length q.text.length else Lib.compareBytes p.text q.text) else 0
set_option maxRecDepth 100000 in
set_option maxHeartbeats 4000000 in
theorem comparePt_any (p q : PartV) (w : World) : Calls Tryz.prog 76 #[.agg #[.bool p.hyphen, .bool p.number, .string (bs p.text)], .agg #[.bool q.hyphen, .bool q.number, .string (bs q.text)]] w fun e w' => e = .returned (.int .i64 (cmpV p q)) ∧ Below w.heap.size w w' := by
  have HRP := Lib.hid (rank_any p)
  have HRQ := Lib.hid (rank_any q)
  go_enter Tryz.func76, Tryz.ntmps76
  go_upto_region 1 with fail
  refine wp_world ?_
  intro W hW
  have x1 : Box W w.heap.size [.bool p.hyphen, .bool p.number, .string (bs p.text)] := by rw [hW]; exact (Box.new w [.bool p.hyphen, .bool p.number, .string (bs p.text)] _ _ rfl).alloc _
  have y1 : Box W (w.heap.size + 1) [.bool q.hyphen, .bool q.number, .string (bs q.text)] := by rw [hW]; exact Box.new _ [.bool q.hyphen, .bool q.number, .string (bs q.text)] _ _ (by simp)
  have hb : Below w.heap.size w W := by rw [hW]; exact ((Below.refl _ w).alloc (Nat.le_refl _) _).alloc (by simp) _
  clear hW
  have HX := Lib.hid x1
  have HY := Lib.hid y1
  have HB := Lib.hid hb
  have x0 := x1.cell 0 _ rfl
  have x1' := x1.cell 1 _ rfl
  have x2 := x1.cell 2 _ rfl
  have xl := x1.lt
  clear x1 y1 hb
  go_wp2_with fail
  refine (HRP.out _).mono ?_
  rintro e w1 ⟨rfl, hb1⟩
  have HX1 := Lib.hid (HX.out.below hb1 HX.out.lt)
  have HY1 := Lib.hid (HY.out.below hb1 HY.out.lt)
  have HB1 := Lib.hid (HB.out.trans (hb1.mono HB.out.size))
  clear hb1 x0 x1' x2 xl HX HY HB
  have y0 := HY1.out.cell 0 _ rfl
  have y1 := HY1.out.cell 1 _ rfl
  have y2 := HY1.out.cell 2 _ rfl
  have yl := HY1.out.lt
  go_wp2_with fail
  refine (HRQ.out _).mono ?_
  rintro e w2 ⟨rfl, hb2⟩
  have HX2 := Lib.hid (HX1.out.below hb2 HX1.out.lt)
  have HY2 := Lib.hid (HY1.out.below hb2 HY1.out.lt)
  have HB2 := Lib.hid (HB1.out.trans (hb2.mono HB1.out.size))
  clear hb2 y0 y1 y2 yl HX1 HY1 HB1 HRP HRQ
  go_wp2_with fail
  refine (sign_any _ _ _).mono ?_
  rintro e w' ⟨rfl, rfl⟩
  have x2 := HX2.out.cell 2 _ rfl
  have xl := HX2.out.lt
  have y2 := HY2.out.cell 2 _ rfl
  have yl := HY2.out.lt
  have HCV : cmpV p q = if sgnV (rankV p) (rankV q) ≠ 0 then sgnV (rankV p) (rankV q) else if rankV p = 7 then Lib.compareBytes p.text q.text else if 7 < rankV p then (if sgnV p.text.length q.text.length ≠ 0 then sgnV p.text.length q.text.length else Lib.compareBytes p.text q.text) else 0 := rfl
  have hcm := Tryz.strings_Compare (bs p.text) (bs q.text) w2
  rw [bs_lst, bs_lst] at hcm
  have HCM := Lib.hid hcm
  clear hcm
  have HZP : Hid (((bs p.text).size : Int) = p.text.length) := by show _ = _; rw [bs_size]
  have HZQ : Hid (((bs q.text).size : Int) = q.text.length) := by show _ = _; rw [bs_size]
  generalize hsv : sgnV (rankV p) (rankV q) = sv at *
  by_cases h1 : sv = 0
  · subst h1
    rw [if_neg (by simp)] at HCV
    generalize rankV p = rp at *
    by_cases h2 : rp = 7
    · have e2 : ((rp : Int) == 7) = true := by rw [beq_iff_eq]; omega
      have e2' : (rp == 7) = true := by rw [beq_iff_eq]; exact h2
      rw [if_pos h2] at HCV
      have HC := Lib.hid HCV
      clear HCV h2 hsv
      go_wp2_with fail
      refine HCM.out.mono ?_
      rintro e w' ⟨rfl, rfl⟩
      go_wp2
      go_ret
      exact ⟨by rw [HC.out]; rfl, HB2.out⟩
    · have e2 : ((rp : Int) == 7) = false := by rw [beq_eq_false_iff_ne]; omega
      have e2' : (rp == 7) = false := by rw [beq_eq_false_iff_ne]; exact h2
      rw [if_neg h2] at HCV
      by_cases h3 : 7 < rp
      · have d3 : decide ((7 : Int) < (rp : Int)) = true := decide_eq_true (by omega)
        have d3' : decide (7 < rp) = true := decide_eq_true h3
        rw [if_pos h3] at HCV
        have HC := Lib.hid HCV
        clear HCV h2 h3 hsv
        go_wp2_with fail
        refine (sign_any _ _ _).mono ?_
        rintro e w' ⟨rfl, rfl⟩
        rw [HZP.out, HZQ.out]
        have HC := HC.out
        generalize sgnV p.text.length q.text.length = sl at *
        by_cases h4 : sl = 0
        · subst h4
          rw [if_neg (by simp)] at HC
          have HC2 := Lib.hid HC
          clear HC
          go_wp2_with fail
          refine HCM.out.mono ?_
          rintro e w' ⟨rfl, rfl⟩
          go_wp2
          go_ret
          exact ⟨by rw [HC2.out]; rfl, HB2.out⟩
        · have e4 : (sl != 0) = true := by rw [bne_iff_ne]; exact h4
          rw [if_pos h4] at HC
          have HC2 := Lib.hid HC
          clear HC
          go_wp2
          go_ret
          exact ⟨by rw [HC2.out]; rfl, HB2.out⟩
      · have d3 : decide ((7 : Int) < (rp : Int)) = false := decide_eq_false (by omega)
        have d3' : decide (7 < rp) = false := decide_eq_false h3
        rw [if_neg h3] at HCV
        have HC := Lib.hid HCV
        clear HCV h2 h3 hsv
        go_wp2
        go_ret
        exact ⟨by rw [HC.out]; rfl, HB2.out⟩
  · have e1 : (sv != 0) = true := by rw [bne_iff_ne]; exact h1
    rw [if_pos h1] at HCV
    have HC := Lib.hid HCV
    clear HCV hsv
    go_wp2
    go_ret
    exact ⟨by rw [HC.out]; rfl, HB2.out⟩

end Go.Proofs.YtecffghcpknmjaaGreatDoor
