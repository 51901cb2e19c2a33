/- The walks of version.at, Compare; the conditions stand in the theorems. -/
import Derived.Test.YtecffghcpknmjaaGreatDoorV7

namespace Go.Proofs.YtecffghcpknmjaaGreatDoor
open Go Go.RowKit

def nullV : PartV := ⟨false, true, []⟩
def atV (l : List PartV) (i : Nat) : PartV := (l[i]?).getD nullV
def cmpFrom (l m : List PartV) : Nat → Nat → Int
  | 0, _ => 0
  | n + 1, i => if cmpV (atV l i) (atV m i) ≠ 0 then cmpV (atV l i) (atV m i) else cmpFrom l m n (i + 1)
def compareV (a b : Bs) : Int := cmpFrom (partsV a) (partsV b) (max (partsV a).length (partsV b).length) 0
def agP (p : PartV) : Value := .agg #[.bool p.hyphen, .bool p.number, .string (bs p.text)]
set_option maxRecDepth 100000 in
theorem atV_any (l : List PartV) (i : Nat) (ao : Option Addr) (c : Nat) (w : World) (h : SliceOf 3 prtC w (.slice ao l.length c) l) : Calls Tryz.prog 77 #[.slice ao l.length c, .int .i64 i] w fun e w' => e = .returned (agP (atV l i)) ∧ Below w.heap.size w w' := by
  have HS := Lib.hid h
  clear h
  by_cases hi : i < l.length
  · have HA : Hid (atV l i = l[i]) := by show _ = _; unfold atV; rw [List.getElem?_eq_getElem hi]; rfl
    obtain ⟨b, o, hao, hbl, hc⟩ := HS.out.at hi
    cases hao
    have d1 : (i : Int) < (l.length : Int) := by omega
    have c0 := hc 0 _ rfl
    have c1 := hc 1 _ rfl
    have c2 := hc 2 _ rfl
    rw [Nat.add_zero] at c0
    generalize l[i] = p at *
    clear hc
    go_enter Tryz.func77, Tryz.ntmps77
    go_wp2
    refine bodyPost_ret (v := agP p) (by simp [results, Tryz.results77, go_sem, agP]) rfl ?_
    refine ⟨by rw [HA.out], ?_⟩
    exact (Below.refl _ _).alloc (Nat.le_refl _) _
  · have HA : Hid (atV l i = nullV) := by show _ = _; unfold atV; rw [List.getElem?_eq_none (by omega)]; rfl
    have d1 : ¬ (i : Int) < (l.length : Int) := by omega
    have d2 : decide ((i : Int) < (l.length : Int)) = false := decide_eq_false d1
    go_enter Tryz.func77, Tryz.ntmps77
    go_wp2
    refine bodyPost_ret (v := agP nullV) (by simp [results, Tryz.results77, go_sem, agP, nullV, bs]) rfl ?_
    refine ⟨by rw [HA.out], ?_⟩
    exact (Below.refl _ _).alloc (Nat.le_refl _) _
theorem partsV_len (s : S) (hs : s.size ≤ 900000) : (partsV s.data.toList).length ≤ 1000000 := by
  have h1 := cutGo_count (s.data.toList.map lowV) [] false
  rw [List.length_map, size_data] at h1
  have h2 : (rawV s.data.toList).length ≤ 900001 := by unfold rawV; rw [List.length_map]; omega
  unfold partsV
  cases h : rawV s.data.toList with
  | nil => simp
  | cons p r =>
    have := delV_len r
    rw [h] at h2
    simp at h2 ⊢; omega
set_option maxRecDepth 100000 in
set_option maxHeartbeats 4000000 in
theorem compareV_any (a b : S) (w : World) (ha : a.size ≤ 900000) (hb : b.size ≤ 900000) : Calls Tryz.prog 49 #[.string a, .string b] w fun e w' => e = .returned (.int .i64 (compareV a.data.toList b.data.toList)) ∧ Below w.heap.size w w' := by
  have HPA := Lib.hid (parts_any a w ha)
  have HPB : Hid (∀ W, Calls Tryz.prog 75 #[.string b] W fun e w' => ∃ v, e = .returned v ∧ Owns W.heap.size 151 3 prtC w' v (partsV b.data.toList) ∧ Below W.heap.size W w') := fun W => parts_any b W hb
  have HLA : Hid ((partsV a.data.toList).length ≤ 1000000) := partsV_len a ha
  have HLB : Hid ((partsV b.data.toList).length ≤ 1000000) := partsV_len b hb
  have HCV : Hid (compareV a.data.toList b.data.toList = cmpFrom (partsV a.data.toList) (partsV b.data.toList) (max (partsV a.data.toList).length (partsV b.data.toList).length) 0) := rfl
  clear ha hb
  go_enter Tryz.func49, Tryz.ntmps49
  go_wp2_with fail
  refine HPA.out.mono ?_
  rintro e w1 ⟨v1, rfl, hp1, hb1⟩
  obtain ⟨ao, ac, rfl⟩ := hp1.shape
  have HS1 := Lib.hid (hp1.slice prtC_len)
  have HB1 := Lib.hid hb1
  clear hp1 hb1 HPA
  go_wp2_with fail
  refine (HPB.out w1).mono ?_
  rintro e w2 ⟨v2, rfl, hp2, hb2⟩
  obtain ⟨bo, bc, rfl⟩ := hp2.shape
  have HS2 := Lib.hid (hp2.slice prtC_len)
  have HS3 := Lib.hid (HS1.out.below hb2)
  have HB2 := Lib.hid (HB1.out.trans (hb2.mono HB1.out.size))
  clear hp2 hb2 HPB HS1 HB1
  generalize partsV a.data.toList = l at *
  generalize partsV b.data.toList = m at *
  obtain ⟨N, hN⟩ : ∃ N : Nat, N = max l.length m.length := ⟨_, rfl⟩
  have hmx : max (l.length : Int) (m.length : Int) = (N : Int) := by omega
  have HNB : Hid (N ≤ 1000000) := by have := HLA.out; have := HLB.out; show _ ≤ _; omega
  rw [← hN] at HCV
  clear hN
  go_wp2
  clear hmx
  go_loopw [18] (fun i wr => ∃ k : Nat, i = .int .i64 k ∧ k ≤ N ∧ Hid (Below w2.heap.size w2 wr) ∧ Hid (compareV a.data.toList b.data.toList = cmpFrom l m (N - k) k)) (fun i _ => N - (intOf i).toNat)
  case atStart => exact ⟨0, rfl, Nat.zero_le _, Below.refl _ _, HCV⟩
  case round =>
    obtain ⟨k, rfl, hk, HB, HC⟩ := hrel
    by_cases hlt : k < N
    · have hw : IntKind.i64.wrap ((k : Int) + 1) = (k : Int) + 1 := IntWalk.i64_in _ (by have := HNB.out; omega)
      have HSa := Lib.hid (HS3.out.below HB.out)
      have HSb := Lib.hid (HS2.out.below HB.out)
      go_wp2_with fail
      refine (atV_any l k ao ac _ HSa.out).mono ?_
      rintro e w3 ⟨rfl, hb3⟩
      have HSb3 := Lib.hid (HSb.out.below hb3)
      have HB3 := Lib.hid (HB.out.trans (hb3.mono HB.out.size))
      clear hb3 HSa HSb
      go_wp2_with fail
      refine (atV_any m k bo bc _ HSb3.out).mono ?_
      rintro e w4 ⟨rfl, hb4⟩
      have HB4 := Lib.hid (HB3.out.trans (hb4.mono HB3.out.size))
      clear hb4 HSb3 HB3 HB
      have HC2 : Hid (compareV a.data.toList b.data.toList = if cmpV (atV l k) (atV m k) ≠ 0 then cmpV (atV l k) (atV m k) else cmpFrom l m (N - (k + 1)) (k + 1)) := by
        show _ = _
        rw [HC.out, show N - k = (N - (k + 1)) + 1 by omega]; rfl
      have HCP := Lib.hid (comparePt_any (atV l k) (atV m k) w4)
      clear HC
      unfold agP
      go_wp2_with fail
      refine HCP.out.mono ?_
      rintro e w5 ⟨rfl, hb5⟩
      have HB5 := Lib.hid (HB4.out.trans (hb5.mono HB4.out.size))
      clear hb5 HB4 HCP
      have HC3 := HC2.out
      clear HC2
      generalize cmpV (atV l k) (atV m k) = cv at *
      by_cases hc : cv = 0
      · subst hc
        rw [if_neg (by simp)] at HC3
        have HC4 := Lib.hid HC3
        clear HC3
        go_wp2
        go_roundw
        case rel => exact ⟨k + 1, by go_num, hlt, HB5, HC4⟩
        case measure => simp [intOf]; omega
      · have e1 : (cv != 0) = true := by rw [bne_iff_ne]; exact hc
        rw [if_pos hc] at HC3
        have HC4 := Lib.hid HC3
        clear HC3
        go_wp2
        go_ret
        exact ⟨by rw [HC4.out]; rfl, HB2.out.trans (HB5.out.mono HB2.out.size)⟩
    · obtain rfl : k = N := by omega
      have HC4 : Hid (compareV a.data.toList b.data.toList = 0) := by show _ = _; rw [HC.out, Nat.sub_self]; rfl
      clear HC
      go_wp2
      go_ret
      exact ⟨by rw [HC4.out]; rfl, HB2.out.trans (HB.out.mono HB2.out.size)⟩

end Go.Proofs.YtecffghcpknmjaaGreatDoor
