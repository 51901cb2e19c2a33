/- The walk of the document's Ref: its words; the conditions stand in the theorems. -/
import Derived.Test.YtpchljiiappmnaaK64
import Derived.Deep.CutBlock
import Derived.Deep.CutRange
namespace Go.Proofs.Ytpchljiiappmnaa
open Go Go.RowKit

/-- What the document's Ref returns. -/
def docTuple : RefR → Value
  | .ok t n => .tuple #[.string (bs t), .int .i64 (n : Nat), .int .i64 0]
  | .bad e => .tuple #[.string ⟨#[]⟩, .int .i64 0, .int .i64 (if e = 13 then 1 else 2)]

theorem letterN_ne (n : Nat) : letterN n ≠ [] := by
  unfold letterN; repeat' split
  all_goals simp
theorem dig_hex {c : UInt8} (h : isDig true c = true) : (48 ≤ c.toNat ∧ c.toNat ≤ 57 ∧ digitV c true = (c.toNat : Int) - 48) ∨ (97 ≤ c.toNat ∧ c.toNat ≤ 102 ∧ digitV c true = (c.toNat : Int) - 87) ∨ (65 ≤ c.toNat ∧ c.toNat ≤ 70 ∧ digitV c true = (c.toNat : Int) - 55) := by
  unfold isDig digitV at h
  unfold digitV
  by_cases h1 : cDigit c = true
  · rw [if_pos h1]; simp [cDigit] at h1; exact .inl ⟨h1.1, h1.2, rfl⟩
  · rw [if_neg h1] at h ⊢
    by_cases h2 : (true && decide (97 ≤ c.toNat) && decide (c.toNat ≤ 102)) = true
    · rw [if_pos h2]; simp at h2; exact .inr (.inl ⟨h2.1, h2.2, rfl⟩)
    · rw [if_neg h2] at h ⊢
      by_cases h3 : (true && decide (65 ≤ c.toNat) && decide (c.toNat ≤ 70)) = true
      · rw [if_pos h3]; simp at h3; exact .inr (.inr ⟨h3.1, h3.2, rfl⟩)
      · rw [if_neg h3] at h; simp at h
theorem dig_dec {c : UInt8} (h : isDig false c = true) : 48 ≤ c.toNat ∧ c.toNat ≤ 57 ∧ digitV c false = (c.toNat : Int) - 48 := by
  unfold isDig digitV at h
  unfold digitV
  by_cases h1 : cDigit c = true
  · rw [if_pos h1]; simp [cDigit] at h1; exact ⟨h1.1, h1.2, rfl⟩
  · rw [if_neg h1] at h; simp at h
theorem nodig_hex {c : UInt8} (h : isDig true c = false) : (c.toNat < 48 ∨ 57 < c.toNat) ∧ (c.toNat < 97 ∨ 102 < c.toNat) ∧ (c.toNat < 65 ∨ 70 < c.toNat) := by
  refine ⟨?_, ?_, ?_⟩
  all_goals
    apply Classical.byContradiction
    intro hh
    have : isDig true c = true := by
      unfold isDig digitV
      rw [decide_eq_true_iff]
      split
      · rename_i h1; simp [cDigit] at h1; omega
      · split
        · rename_i h1; simp at h1; omega
        · split
          · rename_i h1; simp at h1; omega
          · rename_i h1 h2 h3; simp [cDigit] at h1 h2 h3; omega
    rw [this] at h; cases h
theorem nodig_dec {c : UInt8} (h : isDig false c = false) : c.toNat < 48 ∨ 57 < c.toNat := by
  by_cases hh : c.toNat < 48 ∨ 57 < c.toNat
  · exact hh
  · exfalso
    have : isDig false c = true := by
      unfold isDig digitV
      rw [decide_eq_true_iff]
      split
      · rename_i h1; simp [cDigit] at h1; omega
      · rename_i h1; simp [cDigit] at h1; omega
    rw [this] at h; cases h
theorem refDoc_some {l : Bs} {r : RefR} (h : refW refWords l = some r) : refDoc l = r := by unfold refDoc; rw [h]

theorem refW_no {w : Bs} {t : UInt8} {ws : List (Bs × UInt8)} {l : Bs} (W : Bs) (hw : 38 :: (w ++ [59]) = W) (h1 : W.isPrefixOf l = false) (h2 : l.isPrefixOf W = false) : refW ((w, t) :: ws) l = refW ws l := by
  subst hw; simp only [refW]; rw [if_neg (by rw [h1]; simp), if_neg (by rw [h2]; simp)]
theorem refW_bad {w : Bs} {t : UInt8} {ws : List (Bs × UInt8)} {l : Bs} (W : Bs) (hw : 38 :: (w ++ [59]) = W) (h1 : W.isPrefixOf l = false) (h2 : l.isPrefixOf W = true) : refW ((w, t) :: ws) l = some (.bad 13) := by
  subst hw; simp only [refW]; rw [if_neg (by rw [h1]; simp), if_pos h2]
theorem refW_ok {w : Bs} {t : UInt8} {ws : List (Bs × UInt8)} {l : Bs} (W : Bs) (hw : 38 :: (w ++ [59]) = W) (h1 : W.isPrefixOf l = true) : refW ((w, t) :: ws) l = some (.ok [t] (w.length + 2)) := by
  subst hw; simp only [refW]; rw [if_pos h1]

set_option maxRecDepth 100000 in
set_option maxHeartbeats 4000000 in
theorem refDoc_any (s : S) (w : World) (hs : s.size ≤ 1000000) :
    Calls Try.prog 121 #[.string s] w fun e w' => e = .returned (docTuple (refDoc s.data.toList)) ∧ Below w.heap.size w w' := by
  go_enter Try.func121, Try.ntmps121
  go_wp2
  go_loop [7, 8, 19] (fun _ _ i => ∃ k : Nat, k ≤ 5 ∧ i = .int .i64 k ∧ Hid (refW refWords s.data.toList = refW (refWords.drop k) s.data.toList)) (fun _ _ i => 5 - (intOf i).toNat)
  case atStart => exact ⟨0, by omega, rfl, rfl⟩
  case round =>
    obtain ⟨k, hk, rfl, HK⟩ := hrel
    rcases (by omega : k = 0 ∨ k = 1 ∨ k = 2 ∨ k = 3 ∨ k = 4 ∨ k = 5) with rfl | rfl | rfl | rfl | rfl | rfl
    · go_wp2_with fail
      refine (begins1_any s _ _).mono ?_
      rintro e w' ⟨rfl, rfl⟩
      generalize hp : List.isPrefixOf (α := UInt8) _ _ = q1
      have HP : Hid (([38, 108, 116, 59] : Bs).isPrefixOf s.data.toList = q1) := hp
      clear hp
      cases q1
      · go_wp2_with fail
        refine (begins1_any _ s _).mono ?_
        rintro e w' ⟨rfl, rfl⟩
        generalize hp : List.isPrefixOf (α := UInt8) _ _ = q2
        have HP2 : Hid (s.data.toList.isPrefixOf ([38, 108, 116, 59] : Bs) = q2) := hp
        clear hp
        cases q2
        · go_wp2
          go_round
          case rel =>
            refine ⟨1, by omega, rfl, ?_⟩
            have HK' : refW refWords s.data.toList = refW ((wLt, 60) :: refWords.drop 1) s.data.toList := HK.out
            exact HK'.trans (refW_no _ rfl HP.out HP2.out)
          case measure => simp [intOf]
        · go_wp2
          go_ret3
          refine ⟨?_, ((Below.refl _ w).alloc (Nat.le_refl _) _).alloc (by simp) _⟩
          have HK' : refW refWords s.data.toList = refW ((wLt, 60) :: refWords.drop 1) s.data.toList := HK.out
          have h1 : refW refWords s.data.toList = some (.bad 13) := HK'.trans (refW_bad _ rfl HP.out HP2.out)
          rw [refDoc_some h1]; rfl
      · go_wp2
        go_ret3
        refine ⟨?_, ((Below.refl _ w).alloc (Nat.le_refl _) _).alloc (by simp) _⟩
        have HK' : refW refWords s.data.toList = refW ((wLt, 60) :: refWords.drop 1) s.data.toList := HK.out
        have h1 : refW refWords s.data.toList = some (.ok [60] 4) := HK'.trans (refW_ok _ rfl HP.out)
        rw [refDoc_some h1]; rfl
    · go_wp2_with fail
      refine (begins1_any s _ _).mono ?_
      rintro e w' ⟨rfl, rfl⟩
      generalize hp : List.isPrefixOf (α := UInt8) _ _ = q1
      have HP : Hid (([38, 103, 116, 59] : Bs).isPrefixOf s.data.toList = q1) := hp
      clear hp
      cases q1
      · go_wp2_with fail
        refine (begins1_any _ s _).mono ?_
        rintro e w' ⟨rfl, rfl⟩
        generalize hp : List.isPrefixOf (α := UInt8) _ _ = q2
        have HP2 : Hid (s.data.toList.isPrefixOf ([38, 103, 116, 59] : Bs) = q2) := hp
        clear hp
        cases q2
        · go_wp2
          go_round
          case rel =>
            refine ⟨2, by omega, rfl, ?_⟩
            have HK' : refW refWords s.data.toList = refW ((wGt, 62) :: refWords.drop 2) s.data.toList := HK.out
            exact HK'.trans (refW_no _ rfl HP.out HP2.out)
          case measure => simp [intOf]
        · go_wp2
          go_ret3
          refine ⟨?_, ((Below.refl _ w).alloc (Nat.le_refl _) _).alloc (by simp) _⟩
          have HK' : refW refWords s.data.toList = refW ((wGt, 62) :: refWords.drop 2) s.data.toList := HK.out
          have h1 : refW refWords s.data.toList = some (.bad 13) := HK'.trans (refW_bad _ rfl HP.out HP2.out)
          rw [refDoc_some h1]; rfl
      · go_wp2
        go_ret3
        refine ⟨?_, ((Below.refl _ w).alloc (Nat.le_refl _) _).alloc (by simp) _⟩
        have HK' : refW refWords s.data.toList = refW ((wGt, 62) :: refWords.drop 2) s.data.toList := HK.out
        have h1 : refW refWords s.data.toList = some (.ok [62] 4) := HK'.trans (refW_ok _ rfl HP.out)
        rw [refDoc_some h1]; rfl
    · go_wp2_with fail
      refine (begins1_any s _ _).mono ?_
      rintro e w' ⟨rfl, rfl⟩
      generalize hp : List.isPrefixOf (α := UInt8) _ _ = q1
      have HP : Hid (([38, 97, 109, 112, 59] : Bs).isPrefixOf s.data.toList = q1) := hp
      clear hp
      cases q1
      · go_wp2_with fail
        refine (begins1_any _ s _).mono ?_
        rintro e w' ⟨rfl, rfl⟩
        generalize hp : List.isPrefixOf (α := UInt8) _ _ = q2
        have HP2 : Hid (s.data.toList.isPrefixOf ([38, 97, 109, 112, 59] : Bs) = q2) := hp
        clear hp
        cases q2
        · go_wp2
          go_round
          case rel =>
            refine ⟨3, by omega, rfl, ?_⟩
            have HK' : refW refWords s.data.toList = refW ((wAmp, 38) :: refWords.drop 3) s.data.toList := HK.out
            exact HK'.trans (refW_no _ rfl HP.out HP2.out)
          case measure => simp [intOf]
        · go_wp2
          go_ret3
          refine ⟨?_, ((Below.refl _ w).alloc (Nat.le_refl _) _).alloc (by simp) _⟩
          have HK' : refW refWords s.data.toList = refW ((wAmp, 38) :: refWords.drop 3) s.data.toList := HK.out
          have h1 : refW refWords s.data.toList = some (.bad 13) := HK'.trans (refW_bad _ rfl HP.out HP2.out)
          rw [refDoc_some h1]; rfl
      · go_wp2
        go_ret3
        refine ⟨?_, ((Below.refl _ w).alloc (Nat.le_refl _) _).alloc (by simp) _⟩
        have HK' : refW refWords s.data.toList = refW ((wAmp, 38) :: refWords.drop 3) s.data.toList := HK.out
        have h1 : refW refWords s.data.toList = some (.ok [38] 5) := HK'.trans (refW_ok _ rfl HP.out)
        rw [refDoc_some h1]; rfl
    · go_wp2_with fail
      refine (begins1_any s _ _).mono ?_
      rintro e w' ⟨rfl, rfl⟩
      generalize hp : List.isPrefixOf (α := UInt8) _ _ = q1
      have HP : Hid (([38, 113, 117, 111, 116, 59] : Bs).isPrefixOf s.data.toList = q1) := hp
      clear hp
      cases q1
      · go_wp2_with fail
        refine (begins1_any _ s _).mono ?_
        rintro e w' ⟨rfl, rfl⟩
        generalize hp : List.isPrefixOf (α := UInt8) _ _ = q2
        have HP2 : Hid (s.data.toList.isPrefixOf ([38, 113, 117, 111, 116, 59] : Bs) = q2) := hp
        clear hp
        cases q2
        · go_wp2
          go_round
          case rel =>
            refine ⟨4, by omega, rfl, ?_⟩
            have HK' : refW refWords s.data.toList = refW ((wQuot, 34) :: refWords.drop 4) s.data.toList := HK.out
            exact HK'.trans (refW_no _ rfl HP.out HP2.out)
          case measure => simp [intOf]
        · go_wp2
          go_ret3
          refine ⟨?_, ((Below.refl _ w).alloc (Nat.le_refl _) _).alloc (by simp) _⟩
          have HK' : refW refWords s.data.toList = refW ((wQuot, 34) :: refWords.drop 4) s.data.toList := HK.out
          have h1 : refW refWords s.data.toList = some (.bad 13) := HK'.trans (refW_bad _ rfl HP.out HP2.out)
          rw [refDoc_some h1]; rfl
      · go_wp2
        go_ret3
        refine ⟨?_, ((Below.refl _ w).alloc (Nat.le_refl _) _).alloc (by simp) _⟩
        have HK' : refW refWords s.data.toList = refW ((wQuot, 34) :: refWords.drop 4) s.data.toList := HK.out
        have h1 : refW refWords s.data.toList = some (.ok [34] 6) := HK'.trans (refW_ok _ rfl HP.out)
        rw [refDoc_some h1]; rfl
    · go_wp2_with fail
      refine (begins1_any s _ _).mono ?_
      rintro e w' ⟨rfl, rfl⟩
      generalize hp : List.isPrefixOf (α := UInt8) _ _ = q1
      have HP : Hid (([38, 97, 112, 111, 115, 59] : Bs).isPrefixOf s.data.toList = q1) := hp
      clear hp
      cases q1
      · go_wp2_with fail
        refine (begins1_any _ s _).mono ?_
        rintro e w' ⟨rfl, rfl⟩
        generalize hp : List.isPrefixOf (α := UInt8) _ _ = q2
        have HP2 : Hid (s.data.toList.isPrefixOf ([38, 97, 112, 111, 115, 59] : Bs) = q2) := hp
        clear hp
        cases q2
        · go_wp2
          go_round
          case rel =>
            refine ⟨5, by omega, rfl, ?_⟩
            have HK' : refW refWords s.data.toList = refW ((wApos, 39) :: refWords.drop 5) s.data.toList := HK.out
            exact HK'.trans (refW_no _ rfl HP.out HP2.out)
          case measure => simp [intOf]
        · go_wp2
          go_ret3
          refine ⟨?_, ((Below.refl _ w).alloc (Nat.le_refl _) _).alloc (by simp) _⟩
          have HK' : refW refWords s.data.toList = refW ((wApos, 39) :: refWords.drop 5) s.data.toList := HK.out
          have h1 : refW refWords s.data.toList = some (.bad 13) := HK'.trans (refW_bad _ rfl HP.out HP2.out)
          rw [refDoc_some h1]; rfl
      · go_wp2
        go_ret3
        refine ⟨?_, ((Below.refl _ w).alloc (Nat.le_refl _) _).alloc (by simp) _⟩
        have HK' : refW refWords s.data.toList = refW ((wApos, 39) :: refWords.drop 5) s.data.toList := HK.out
        have h1 : refW refWords s.data.toList = some (.ok [39] 6) := HK'.trans (refW_ok _ rfl HP.out)
        rw [refDoc_some h1]; rfl
    · have HN : Hid (refW refWords s.data.toList = none) := HK.out
      clear HK
      have htl := ByteArray.toList_eq s
      by_cases hA : s.toList = [38, 35]
      · have eA : (s.toList == [38, 35]) = true := by rw [hA]; rfl
        have hR : Hid (refDoc s.data.toList = .bad 13) := by
          show _ = _
          unfold refDoc; rw [HN.out, ← htl, hA]; rfl
        clear htl
        go_wp2
        all_goals first | (exfalso; omega) | skip
        go_ret3
        exact ⟨by rw [hR.out]; rfl, ((Below.refl _ w).alloc (Nat.le_refl _) _).alloc (by simp) _⟩
      · by_cases hB : s.toList = [38, 35, 120]
        · have eB : (s.toList == [38, 35, 120]) = true := by rw [hB]; rfl
          have hR : Hid (refDoc s.data.toList = .bad 13) := by
            show _ = _
            unfold refDoc; rw [HN.out, ← htl, hB]; rfl
          have eA : (s.toList == [38, 35]) = false := by rw [hB]; rfl
          clear htl
          go_wp2
          go_ret3
          exact ⟨by rw [hR.out]; rfl, ((Below.refl _ w).alloc (Nat.le_refl _) _).alloc (by simp) _⟩
        · have eA : (s.toList == [38, 35]) = false := by simpa using hA
          have eB : (s.toList == [38, 35, 120]) = false := by simpa using hB
          have hR : Hid (refDoc s.data.toList = if !([38, 35] : Bs).isPrefixOf s.data.toList then .bad 12 else if ([38, 35, 120] : Bs).isPrefixOf s.data.toList then refN true 3 (s.data.toList.drop 3) else refN false 2 (s.data.toList.drop 2)) := by
            show _ = _
            rw [htl] at hA hB
            unfold refDoc; rw [HN.out]
            simp only []
            rw [if_neg (by rintro (h | h); exact hA h; exact hB h)]
          clear htl
          go_wp2_with fail
          refine (begins1_any s _ _).mono ?_
          rintro e w' ⟨rfl, rfl⟩
          generalize hp : List.isPrefixOf (α := UInt8) _ _ = q1
          have HP : Hid (([38, 35] : Bs).isPrefixOf s.data.toList = q1) := hp
          clear hp
          cases q1
          · go_wp2
            go_ret3
            exact ⟨by rw [hR.out, HP.out]; rfl, ((Below.refl _ w).alloc (Nat.le_refl _) _).alloc (by simp) _⟩
          · go_wp2_with fail
            refine (begins1_any s _ _).mono ?_
            rintro e w' ⟨rfl, rfl⟩
            generalize hp : List.isPrefixOf (α := UInt8) _ _ = q2
            have HP2 : Hid (([38, 35, 120] : Bs).isPrefixOf s.data.toList = q2) := hp
            clear hp
            cases q2
            · have hR2 : Hid (refDoc s.data.toList = refN false 2 (s.data.toList.drop 2)) := by
                show _ = _
                rw [hR.out, HP.out, HP2.out]; rfl
              clear hR
              have hpl := (List.isPrefixOf_iff_prefix.1 HP.out).length_le
              rw [size_data] at hpl
              obtain ⟨d, hd⟩ : ∃ d, d = s.data.toList.drop 2 := ⟨_, rfl⟩
              have hdl : 2 + d.length = s.size := by rw [hd, List.length_drop, size_data]; simp at hpl; omega
              have HDG : Hid (∀ t (h : t < s.size), 2 ≤ t → d[t - 2]? = some s[t]) := fun t ht hat => by
                have h1 := drop_byte s t ht
                have h2 := congrArg (fun z : Bs => z[0]?) h1
                simp only [List.getElem?_drop] at h2
                rw [hd, List.getElem?_drop, show 2 + (t - 2) = t + 0 by omega, h2]; rfl
              rw [← hd] at hR2
              clear hd hpl
              have hsp := span_le (isDig false) d
              obtain ⟨m, hm⟩ : ∃ m, m = min 9 (span (isDig false) d) := ⟨_, rfl⟩
              have HM := Lib.hid hm
              have hmd : m ≤ d.length := by omega
              have hm9 : m ≤ 9 := by omega
              have HIN : Hid (∀ t (h : t < s.size), 2 ≤ t → t < 2 + m → isDig false s[t] = true) := fun t ht h1 h2 => by
                obtain ⟨c, h3, h4⟩ := span_lt (p := isDig false) (l := d) (i := t - 2) (by omega)
                rw [HDG.out t ht h1] at h3; cases h3; exact h4
              have HOUT : Hid (m < 9 → ∀ h : 2 + m < s.size, isDig false s[2 + m] = false) := fun h1 h => by
                have h5 : m = span (isDig false) d := by omega
                have h6 := HDG.out (2 + m) h (by omega)
                rw [show 2 + m - 2 = m by omega] at h6
                exact span_end (p := isDig false) (l := d) (by rw [← h5]; exact h6)
              clear hm hsp
              go_upto_block 2 with fail
              refine wp_world ?_
              intro W hW
              have HBL : Hid (Below w.heap.size w W) := by rw [hW]; exact ((Below.refl _ w).alloc (Nat.le_refl _) _).alloc (by simp) _
              clear hW
              go_cut [9, 12, 13, 14] from 49 to 103 (fun i n _ _ wx => W = wx ∧ i = .int .i64 ((2 + m : Nat)) ∧ n = .int .i64 (numV false (d.take m)))
              case first =>
               go_wp2_with fail
               go_loop [9, 12, 13, 14] (fun i n _ _ => ∃ t : Nat, 2 ≤ t ∧ t ≤ 2 + m ∧ i = .int .i64 t ∧ n = .int .i64 (numV false (d.take (t - 2)))) (fun i _ _ _ => 2 + m - (intOf i).toNat)
               case atStart => exact ⟨2, by omega, by omega, rfl, by simp [numV]⟩
               case round =>
                obtain ⟨t, h1, h2, rfl, rfl⟩ := hrel
                have hdg : ∀ c ∈ d.take (t - 2), isDig false c = true := fun c hc => by
                  obtain ⟨i, hi, rfl⟩ := List.mem_iff_getElem.1 hc
                  rw [List.length_take] at hi
                  obtain ⟨c, h3, h4⟩ := span_lt (p := isDig false) (l := d) (i := i) (by have := HM.out; omega)
                  rw [List.getElem_take]
                  obtain ⟨h5, h6⟩ := List.getElem?_eq_some_iff.1 h3
                  rw [h6]; exact h4
                by_cases hlt : t < 2 + m
                · obtain ⟨b1, b2⟩ := numV_small false (d.take (t - 2)) hdg (by rw [List.length_take]; omega)
                  have hts : t < s.size := by omega
                  have hv := HIN.out t hts h1 hlt
                  have HSN : Hid (numV false (d.take (t + 1 - 2)) = numV false (d.take (t - 2)) * 10 + digitV s[t] false) := by
                    show _ = _
                    have : d.take (t + 1 - 2) = d.take (t - 2) ++ [s[t]] := by rw [show t + 1 - 2 = (t - 2) + 1 by omega, List.take_add_one, HDG.out t hts h1]; rfl
                    rw [this, numV_snoc]; rfl
                  clear hdg
                  generalize numV false (d.take (t - 2)) = K at *
                  have hti : (t : Int) < (s.size : Int) := by omega
                  have ht9 : (t : Int) - 2 < 9 := by omega
                  have ht0 : (2 : Int) ≤ (t : Int) := by omega
                  obtain ⟨c1, c2, c3⟩ := dig_dec hv
                  rw [c3] at HSN
                  clear c3 hv
                  go_wp2
                  all_goals first | (exfalso; omega) | skip
                  go_round
                  case rel => exact ⟨t + 1, by omega, by omega, by simp, by rw [HSN.out]⟩
                  case measure => simp [intOf]; omega
                · have hte : t = 2 + m := by omega
                  clear hlt h2 h1 hdg
                  have hta : t - 2 = m := by omega
                  have HK : Hid (numV false (d.take (t - 2)) = numV false (d.take m)) := by rw [hta]; rfl
                  clear hta
                  generalize numV false (d.take (t - 2)) = K at *
                  have hts0 : (t : Int) ≤ 1000000 := by omega
                  by_cases h9 : m = 9
                  · have g1 : ¬ (t : Int) - 2 < 9 := by omega
                    have HTE := Lib.hid hte
                    clear hte h9
                    by_cases hts : t < s.size
                    · have hti : (t : Int) < (s.size : Int) := by omega
                      go_wp2
                      go_meet
                      exact ⟨rfl, by rw [HTE.out], by rw [HK.out]⟩
                    · have hti : ¬ (t : Int) < (s.size : Int) := by omega
                      go_wp2
                      go_meet
                      exact ⟨rfl, by rw [HTE.out], by rw [HK.out]⟩
                  · by_cases hend : m = d.length
                    · have hti : ¬ (t : Int) < (s.size : Int) := by omega
                      have HTE := Lib.hid hte
                      clear hte hend
                      go_wp2
                      go_meet
                      exact ⟨rfl, by rw [HTE.out], by rw [HK.out]⟩
                    · have hts : t < s.size := by omega
                      have hno : isDig false s[t] = false := by
                        have := HOUT.out (by omega) (by omega)
                        simpa only [hte] using this
                      have hti : (t : Int) < (s.size : Int) := by omega
                      have ht9 : (t : Int) - 2 < 9 := by omega
                      have ht0 : (2 : Int) ≤ (t : Int) := by omega
                      have q1 := nodig_dec hno
                      have HTE := Lib.hid hte
                      clear hte hno
                      have b255 : ((s[t].toNat : Nat) : Int) ≤ 255 := by have := s[t].toNat_lt; omega
                      have b0 : (0 : Int) ≤ ((s[t].toNat : Nat) : Int) := by omega
                      go_wp2
                      all_goals first | (exfalso; omega) | (go_meet; exact ⟨rfl, by rw [HTE.out], by rw [HK.out]⟩)
              case rest =>
                obtain ⟨t, ht⟩ : ∃ t, t = 2 + m := ⟨_, rfl⟩
                rw [← ht] at hcut
                obtain ⟨rfl, rfl, rfl⟩ := hcut
                have HTT := Lib.hid ht
                have hdg : ∀ c ∈ d.take m, isDig false c = true := fun c hc => by
                  obtain ⟨i, hi, rfl⟩ := List.mem_iff_getElem.1 hc
                  rw [List.length_take] at hi
                  obtain ⟨c, h3, h4⟩ := span_lt (p := isDig false) (l := d) (i := i) (by have := HM.out; omega)
                  rw [List.getElem_take]
                  obtain ⟨h5, h6⟩ := List.getElem?_eq_some_iff.1 h3
                  rw [h6]; exact h4
                by_cases h9 : m = 9
                · have hO : Hid (refDoc s.data.toList = .bad 12) := by
                    show _ = _
                    rw [hR2.out]; unfold refN; rw [← HM.out, h9]; rfl
                  have g1 : (8 : Int) < (t : Int) - 2 := by omega
                  have hts0 : (t : Int) ≤ 1000000 := by omega
                  clear hdg
                  generalize numV false (d.take m) = K at *
                  clear ht
                  go_wp2
                  all_goals first | (exfalso; omega) | (go_ret3; exact ⟨by rw [hO.out]; rfl, HBL.out⟩)
                · by_cases hend : m = d.length
                  · have hO : Hid (refDoc s.data.toList = .bad 13) := by
                      show _ = _
                      rw [hR2.out]; unfold refN; rw [← HM.out, if_neg (by omega), if_pos hend]
                    clear hdg
                    generalize numV false (d.take m) = K at *
                    have g1 : ¬ (8 : Int) < (t : Int) - 2 := by omega
                    have g2 : ((t : Int) == (s.size : Int)) = true := beq_iff_eq.2 (by omega)
                    clear ht
                    go_wp2
                    all_goals first | (exfalso; omega) | (go_ret3; exact ⟨by rw [hO.out]; rfl, HBL.out⟩)
                  · have hts : t < s.size := by omega
                    have HB : Hid (d[m]? = some s[t]) := by
                      have := HDG.out t hts (by omega)
                      rw [show t - 2 = m by omega] at this; exact this
                    obtain ⟨b1, b2⟩ := numV_small false (d.take m) hdg (by rw [List.length_take]; omega)
                    clear hdg
                    have h8 : ¬ 8 < m := by omega
                    have hL : Hid (refDoc s.data.toList = if d[m]? ≠ some 59 ∨ m = 0 ∨ okLetter (numV false (d.take m)) = false then .bad 12 else .ok (letterB (numV false (d.take m))) (2 + m + 1)) := by
                      show _ = _
                      rw [hR2.out]; unfold refN; rw [← HM.out, if_neg h8, if_neg hend]
                    generalize numV false (d.take m) = K at *
                    have hti : (t : Int) < (s.size : Int) := by omega
                    have ht0 : (2 : Int) ≤ (t : Int) := by omega
                    have g1 : ¬ (8 : Int) < (t : Int) - 2 := by omega
                    have g2 : ((t : Int) == (s.size : Int)) = false := beq_eq_false_iff_ne.2 (by omega)
                    have g3 : ¬ (t : Int) = (s.size : Int) := by omega
                    have g4 : ¬ t = s.size := by omega
                    by_cases h59 : s[t] = 59
                    rotate_left
                    · have e2 : (((s[t].toNat : Nat) : Int) != 59) = true := by
                        rw [bne_iff_ne]; intro e; exact h59 (UInt8.toNat_inj.1 (by simpa using (by omega : s[t].toNat = 59)))
                      have e3 : ¬ ((s[t].toNat : Nat) : Int) = 59 := by simpa using e2
                      have hO : Hid (refDoc s.data.toList = .bad 12) := by
                        show _ = _
                        rw [hL.out, if_pos (.inl (by rw [HB.out]; simpa using h59))]
                      clear h59 ht
                      go_wp2
                      all_goals first | (exfalso; omega) | (go_ret3; exact ⟨by rw [hO.out]; rfl, HBL.out⟩)
                    · have e2 : (((s[t].toNat : Nat) : Int) != 59) = false := by rw [h59]; decide
                      have e3 : ((s[t].toNat : Nat) : Int) = 59 := by rw [h59]; decide
                      by_cases h0 : m = 0
                      · have e0 : ((t : Int) == 2) = true := beq_iff_eq.2 (by omega)
                        have e4 : (t : Int) = 2 := by omega
                        have hO : Hid (refDoc s.data.toList = .bad 12) := by
                          show _ = _
                          rw [hL.out, if_pos (.inr (.inl h0))]
                        clear h59 h0 e4 ht
                        go_wp2
                        all_goals first | (exfalso; omega) | (go_ret3; exact ⟨by rw [hO.out]; rfl, HBL.out⟩)
                      · have e0 : ((t : Int) == 2) = false := beq_eq_false_iff_ne.2 (by omega)
                        have e4 : ¬ (t : Int) = 2 := by omega
                        have HB2 : Hid (d[m]? = some 59) := by rw [HB.out, h59]; rfl
                        clear h59
                        cases hok : okLetter K
                        · have HL := Lib.hid (fun w => rletter_no K w hok)
                          have hO : Hid (refDoc s.data.toList = .bad 12) := by
                            show _ = _
                            rw [hL.out, if_pos (.inr (.inr hok))]
                          clear hok ht
                          go_wp2_with (go_at_call 134; refine (HL.out _).mono ?_; rintro e w' ⟨rfl, rfl⟩)
                          all_goals first | (exfalso; omega) | (go_ret3; exact ⟨by rw [hO.out]; rfl, HBL.out⟩)
                        · have HL := Lib.hid (fun w => rletter_ok K w hok)
                          have hO : Hid (refDoc s.data.toList = .ok (letterB K) (2 + m + 1)) := by
                            show _ = _
                            rw [hL.out, if_neg (by rw [HB2.out, hok]; simp [h0])]
                          have hU0 : (bs (letterB K)).toList ≠ [] := by
                            rw [ByteArray.toList_eq, bs_data]; exact letterN_ne _
                          clear hok
                          obtain ⟨U, hUU⟩ : ∃ U, U = bs (letterB K) := ⟨_, rfl⟩
                          rw [← hUU] at HL hU0
                          have HUU := Lib.hid hUU
                          clear hUU
                          have hU1 : (U.toList == []) = false := by simpa using hU0
                          have hU2 : U.toList.isEmpty = false := by simpa using hU0
                          clear ht h0 e4
                          go_wp2_with fail
                          refine (HL.out _).mono ?_
                          rintro e W1 ⟨rfl, hb1⟩
                          have HB1 := Lib.hid hb1
                          clear hb1
                          go_wp2_with fail
                          refine (HL.out _).mono ?_
                          rintro e W2 ⟨rfl, hb2⟩
                          have HB3 := Lib.hid hb2
                          clear hb2
                          go_wp2
                          go_ret3
                          refine ⟨by rw [hO.out, HUU.out, HTT.out]; rfl, ?_⟩
                          exact (HBL.out.trans (HB1.out.mono HBL.out.size)).trans (HB3.out.mono (Nat.le_trans HBL.out.size HB1.out.size))
            · have hR2 : Hid (refDoc s.data.toList = refN true 3 (s.data.toList.drop 3)) := by
                show _ = _
                rw [hR.out, HP.out, HP2.out]; rfl
              clear hR
              have hpl := (List.isPrefixOf_iff_prefix.1 HP2.out).length_le
              rw [size_data] at hpl
              obtain ⟨d, hd⟩ : ∃ d, d = s.data.toList.drop 3 := ⟨_, rfl⟩
              have hdl : 3 + d.length = s.size := by rw [hd, List.length_drop, size_data]; simp at hpl; omega
              have HDG : Hid (∀ t (h : t < s.size), 3 ≤ t → d[t - 3]? = some s[t]) := fun t ht hat => by
                have h1 := drop_byte s t ht
                have h2 := congrArg (fun z : Bs => z[0]?) h1
                simp only [List.getElem?_drop] at h2
                rw [hd, List.getElem?_drop, show 3 + (t - 3) = t + 0 by omega, h2]; rfl
              rw [← hd] at hR2
              clear hd hpl
              have hsp := span_le (isDig true) d
              obtain ⟨m, hm⟩ : ∃ m, m = min 9 (span (isDig true) d) := ⟨_, rfl⟩
              have HM := Lib.hid hm
              have hmd : m ≤ d.length := by omega
              have hm9 : m ≤ 9 := by omega
              have HIN : Hid (∀ t (h : t < s.size), 3 ≤ t → t < 3 + m → isDig true s[t] = true) := fun t ht h1 h2 => by
                obtain ⟨c, h3, h4⟩ := span_lt (p := isDig true) (l := d) (i := t - 3) (by omega)
                rw [HDG.out t ht h1] at h3; cases h3; exact h4
              have HOUT : Hid (m < 9 → ∀ h : 3 + m < s.size, isDig true s[3 + m] = false) := fun h1 h => by
                have h5 : m = span (isDig true) d := by omega
                have h6 := HDG.out (3 + m) h (by omega)
                rw [show 3 + m - 3 = m by omega] at h6
                exact span_end (p := isDig true) (l := d) (by rw [← h5]; exact h6)
              clear hm hsp
              go_upto_block 2 with fail
              refine wp_world ?_
              intro W hW
              have HBL : Hid (Below w.heap.size w W) := by rw [hW]; exact ((Below.refl _ w).alloc (Nat.le_refl _) _).alloc (by simp) _
              clear hW
              go_cut [9, 12, 13, 14] from 49 to 103 (fun i n _ _ wx => W = wx ∧ i = .int .i64 ((3 + m : Nat)) ∧ n = .int .i64 (numV true (d.take m)))
              case first =>
               go_wp2_with fail
               go_loop [9, 12, 13, 14] (fun i n _ _ => ∃ t : Nat, 3 ≤ t ∧ t ≤ 3 + m ∧ i = .int .i64 t ∧ n = .int .i64 (numV true (d.take (t - 3)))) (fun i _ _ _ => 3 + m - (intOf i).toNat)
               case atStart => exact ⟨3, by omega, by omega, rfl, by simp [numV]⟩
               case round =>
                obtain ⟨t, h1, h2, rfl, rfl⟩ := hrel
                have hdg : ∀ c ∈ d.take (t - 3), isDig true c = true := fun c hc => by
                  obtain ⟨i, hi, rfl⟩ := List.mem_iff_getElem.1 hc
                  rw [List.length_take] at hi
                  obtain ⟨c, h3, h4⟩ := span_lt (p := isDig true) (l := d) (i := i) (by have := HM.out; omega)
                  rw [List.getElem_take]
                  obtain ⟨h5, h6⟩ := List.getElem?_eq_some_iff.1 h3
                  rw [h6]; exact h4
                by_cases hlt : t < 3 + m
                · obtain ⟨b1, b2⟩ := numV_small true (d.take (t - 3)) hdg (by rw [List.length_take]; omega)
                  have hts : t < s.size := by omega
                  have hv := HIN.out t hts h1 hlt
                  have HSN : Hid (numV true (d.take (t + 1 - 3)) = numV true (d.take (t - 3)) * 16 + digitV s[t] true) := by
                    show _ = _
                    have : d.take (t + 1 - 3) = d.take (t - 3) ++ [s[t]] := by rw [show t + 1 - 3 = (t - 3) + 1 by omega, List.take_add_one, HDG.out t hts h1]; rfl
                    rw [this, numV_snoc]; rfl
                  clear hdg
                  generalize numV true (d.take (t - 3)) = K at *
                  have hti : (t : Int) < (s.size : Int) := by omega
                  have ht9 : (t : Int) - 3 < 9 := by omega
                  have ht0 : (3 : Int) ≤ (t : Int) := by omega
                  rcases dig_hex hv with ⟨c1, c2, c3⟩ | ⟨c1, c2, c3⟩ | ⟨c1, c2, c3⟩
                  all_goals
                    rw [c3] at HSN
                    clear c3 hv
                    go_wp2
                    all_goals first | (exfalso; omega) | skip
                    go_round
                    case rel => exact ⟨t + 1, by omega, by omega, by simp, by rw [HSN.out]⟩
                    case measure => simp [intOf]; omega
                · have hte : t = 3 + m := by omega
                  clear hlt h2 h1 hdg
                  have hta : t - 3 = m := by omega
                  have HK : Hid (numV true (d.take (t - 3)) = numV true (d.take m)) := by rw [hta]; rfl
                  clear hta
                  generalize numV true (d.take (t - 3)) = K at *
                  have hts0 : (t : Int) ≤ 1000000 := by omega
                  by_cases h9 : m = 9
                  · have g1 : ¬ (t : Int) - 3 < 9 := by omega
                    have HTE := Lib.hid hte
                    clear hte h9
                    by_cases hts : t < s.size
                    · have hti : (t : Int) < (s.size : Int) := by omega
                      go_wp2
                      go_meet
                      exact ⟨rfl, by rw [HTE.out], by rw [HK.out]⟩
                    · have hti : ¬ (t : Int) < (s.size : Int) := by omega
                      go_wp2
                      go_meet
                      exact ⟨rfl, by rw [HTE.out], by rw [HK.out]⟩
                  · by_cases hend : m = d.length
                    · have hti : ¬ (t : Int) < (s.size : Int) := by omega
                      have HTE := Lib.hid hte
                      clear hte hend
                      go_wp2
                      go_meet
                      exact ⟨rfl, by rw [HTE.out], by rw [HK.out]⟩
                    · have hts : t < s.size := by omega
                      have hno : isDig true s[t] = false := by
                        have := HOUT.out (by omega) (by omega)
                        simpa only [hte] using this
                      have hti : (t : Int) < (s.size : Int) := by omega
                      have ht9 : (t : Int) - 3 < 9 := by omega
                      have ht0 : (3 : Int) ≤ (t : Int) := by omega
                      obtain ⟨q1, q2, q3⟩ := nodig_hex hno
                      have HTE := Lib.hid hte
                      clear hte hno
                      have b255 : ((s[t].toNat : Nat) : Int) ≤ 255 := by have := s[t].toNat_lt; omega
                      have b0 : (0 : Int) ≤ ((s[t].toNat : Nat) : Int) := by omega
                      go_wp2
                      all_goals first | (exfalso; omega) | (go_meet; exact ⟨rfl, by rw [HTE.out], by rw [HK.out]⟩)
              case rest =>
                obtain ⟨t, ht⟩ : ∃ t, t = 3 + m := ⟨_, rfl⟩
                rw [← ht] at hcut
                obtain ⟨rfl, rfl, rfl⟩ := hcut
                have HTT := Lib.hid ht
                have hdg : ∀ c ∈ d.take m, isDig true c = true := fun c hc => by
                  obtain ⟨i, hi, rfl⟩ := List.mem_iff_getElem.1 hc
                  rw [List.length_take] at hi
                  obtain ⟨c, h3, h4⟩ := span_lt (p := isDig true) (l := d) (i := i) (by have := HM.out; omega)
                  rw [List.getElem_take]
                  obtain ⟨h5, h6⟩ := List.getElem?_eq_some_iff.1 h3
                  rw [h6]; exact h4
                by_cases h9 : m = 9
                · have hO : Hid (refDoc s.data.toList = .bad 12) := by
                    show _ = _
                    rw [hR2.out]; unfold refN; rw [← HM.out, h9]; rfl
                  have g1 : (8 : Int) < (t : Int) - 3 := by omega
                  have hts0 : (t : Int) ≤ 1000000 := by omega
                  clear hdg
                  generalize numV true (d.take m) = K at *
                  clear ht
                  go_wp2
                  all_goals first | (exfalso; omega) | (go_ret3; exact ⟨by rw [hO.out]; rfl, HBL.out⟩)
                · by_cases hend : m = d.length
                  · have hO : Hid (refDoc s.data.toList = .bad 13) := by
                      show _ = _
                      rw [hR2.out]; unfold refN; rw [← HM.out, if_neg (by omega), if_pos hend]
                    clear hdg
                    generalize numV true (d.take m) = K at *
                    have g1 : ¬ (8 : Int) < (t : Int) - 3 := by omega
                    have g2 : ((t : Int) == (s.size : Int)) = true := beq_iff_eq.2 (by omega)
                    clear ht
                    go_wp2
                    all_goals first | (exfalso; omega) | (go_ret3; exact ⟨by rw [hO.out]; rfl, HBL.out⟩)
                  · have hts : t < s.size := by omega
                    have HB : Hid (d[m]? = some s[t]) := by
                      have := HDG.out t hts (by omega)
                      rw [show t - 3 = m by omega] at this; exact this
                    obtain ⟨b1, b2⟩ := numV_small true (d.take m) hdg (by rw [List.length_take]; omega)
                    clear hdg
                    have h8 : ¬ 8 < m := by omega
                    have hL : Hid (refDoc s.data.toList = if d[m]? ≠ some 59 ∨ m = 0 ∨ okLetter (numV true (d.take m)) = false then .bad 12 else .ok (letterB (numV true (d.take m))) (3 + m + 1)) := by
                      show _ = _
                      rw [hR2.out]; unfold refN; rw [← HM.out, if_neg h8, if_neg hend]
                    generalize numV true (d.take m) = K at *
                    have hti : (t : Int) < (s.size : Int) := by omega
                    have ht0 : (3 : Int) ≤ (t : Int) := by omega
                    have g1 : ¬ (8 : Int) < (t : Int) - 3 := by omega
                    have g2 : ((t : Int) == (s.size : Int)) = false := beq_eq_false_iff_ne.2 (by omega)
                    have g3 : ¬ (t : Int) = (s.size : Int) := by omega
                    have g4 : ¬ t = s.size := by omega
                    by_cases h59 : s[t] = 59
                    rotate_left
                    · have e2 : (((s[t].toNat : Nat) : Int) != 59) = true := by
                        rw [bne_iff_ne]; intro e; exact h59 (UInt8.toNat_inj.1 (by simpa using (by omega : s[t].toNat = 59)))
                      have e3 : ¬ ((s[t].toNat : Nat) : Int) = 59 := by simpa using e2
                      have hO : Hid (refDoc s.data.toList = .bad 12) := by
                        show _ = _
                        rw [hL.out, if_pos (.inl (by rw [HB.out]; simpa using h59))]
                      clear h59 ht
                      go_wp2
                      all_goals first | (exfalso; omega) | (go_ret3; exact ⟨by rw [hO.out]; rfl, HBL.out⟩)
                    · have e2 : (((s[t].toNat : Nat) : Int) != 59) = false := by rw [h59]; decide
                      have e3 : ((s[t].toNat : Nat) : Int) = 59 := by rw [h59]; decide
                      by_cases h0 : m = 0
                      · have e0 : ((t : Int) == 3) = true := beq_iff_eq.2 (by omega)
                        have e4 : (t : Int) = 3 := by omega
                        have hO : Hid (refDoc s.data.toList = .bad 12) := by
                          show _ = _
                          rw [hL.out, if_pos (.inr (.inl h0))]
                        clear h59 h0 e4 ht
                        go_wp2
                        all_goals first | (exfalso; omega) | (go_ret3; exact ⟨by rw [hO.out]; rfl, HBL.out⟩)
                      · have e0 : ((t : Int) == 3) = false := beq_eq_false_iff_ne.2 (by omega)
                        have e4 : ¬ (t : Int) = 3 := by omega
                        have HB2 : Hid (d[m]? = some 59) := by rw [HB.out, h59]; rfl
                        clear h59
                        cases hok : okLetter K
                        · have HL := Lib.hid (fun w => rletter_no K w hok)
                          have hO : Hid (refDoc s.data.toList = .bad 12) := by
                            show _ = _
                            rw [hL.out, if_pos (.inr (.inr hok))]
                          clear hok ht
                          go_wp2_with (go_at_call 134; refine (HL.out _).mono ?_; rintro e w' ⟨rfl, rfl⟩)
                          all_goals first | (exfalso; omega) | (go_ret3; exact ⟨by rw [hO.out]; rfl, HBL.out⟩)
                        · have HL := Lib.hid (fun w => rletter_ok K w hok)
                          have hO : Hid (refDoc s.data.toList = .ok (letterB K) (3 + m + 1)) := by
                            show _ = _
                            rw [hL.out, if_neg (by rw [HB2.out, hok]; simp [h0])]
                          have hU0 : (bs (letterB K)).toList ≠ [] := by
                            rw [ByteArray.toList_eq, bs_data]; exact letterN_ne _
                          clear hok
                          obtain ⟨U, hUU⟩ : ∃ U, U = bs (letterB K) := ⟨_, rfl⟩
                          rw [← hUU] at HL hU0
                          have HUU := Lib.hid hUU
                          clear hUU
                          have hU1 : (U.toList == []) = false := by simpa using hU0
                          have hU2 : U.toList.isEmpty = false := by simpa using hU0
                          clear ht h0 e4
                          go_wp2_with fail
                          refine (HL.out _).mono ?_
                          rintro e W1 ⟨rfl, hb1⟩
                          have HB1 := Lib.hid hb1
                          clear hb1
                          go_wp2_with fail
                          refine (HL.out _).mono ?_
                          rintro e W2 ⟨rfl, hb2⟩
                          have HB3 := Lib.hid hb2
                          clear hb2
                          go_wp2
                          go_ret3
                          refine ⟨by rw [hO.out, HUU.out, HTT.out]; rfl, ?_⟩
                          exact (HBL.out.trans (HB1.out.mono HBL.out.size)).trans (HB3.out.mono (Nat.le_trans HBL.out.size HB1.out.size))

end Go.Proofs.Ytpchljiiappmnaa
