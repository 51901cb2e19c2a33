/- The walk of the document's Ref: its words; the conditions stand in the theorems. -/
import Derived.Test.YtpchljiiappmnaaG31
import Derived.Deep.CutBlock
import Derived.Deep.CutRange
import Derived.Test.YtpchljiiappmnaaG12
namespace Go.Proofs.Ytpchljiiappmnaa
open Go Go.RowKit

/-- What the document's Ref returns. -/
def docTuple : RefR → Value
  | .ok t n => .tuple #[.string (bs t), .int .i64 (n : Nat), .int .i64 0]
  | .bad e => .tuple #[.string ⟨#[]⟩, .int .i64 0, .int .i64 (if e = 13 then 1 else 2)]

theorem letterN_ne (n : Nat) : letterN n ≠ [] := by
  unfold letterN; repeat' split
  all_goals simp
theorem dig_hex {c : UInt8} (h : isDig true c = true) : (48 ≤ c.toNat ∧ c.toNat ≤ 57 ∧ digitV c true = (c.toNat : Int) - 48) ∨ (97 ≤ c.toNat ∧ c.toNat ≤ 102 ∧ digitV c true = (c.toNat : Int) - 87) ∨ (65 ≤ c.toNat ∧ c.toNat ≤ 70 ∧ digitV c true = (c.toNat : Int) - 55) := by
  unfold isDig digitV at h
  unfold digitV
  by_cases h1 : cDigit c = true
  · rw [if_pos h1]; simp [cDigit] at h1; exact .inl ⟨h1.1, h1.2, rfl⟩
  · rw [if_neg h1] at h ⊢
    by_cases h2 : (true && decide (97 ≤ c.toNat) && decide (c.toNat ≤ 102)) = true
    · rw [if_pos h2]; simp at h2; exact .inr (.inl ⟨h2.1, h2.2, rfl⟩)
    · rw [if_neg h2] at h ⊢
      by_cases h3 : (true && decide (65 ≤ c.toNat) && decide (c.toNat ≤ 70)) = true
      · rw [if_pos h3]; simp at h3; exact .inr (.inr ⟨h3.1, h3.2, rfl⟩)
      · rw [if_neg h3] at h; simp at h
theorem dig_dec {c : UInt8} (h : isDig false c = true) : 48 ≤ c.toNat ∧ c.toNat ≤ 57 ∧ digitV c false = (c.toNat : Int) - 48 := by
  unfold isDig digitV at h
  unfold digitV
  by_cases h1 : cDigit c = true
  · rw [if_pos h1]; simp [cDigit] at h1; exact ⟨h1.1, h1.2, rfl⟩
  · rw [if_neg h1] at h; simp at h
theorem nodig_hex {c : UInt8} (h : isDig true c = false) : (c.toNat < 48 ∨ 57 < c.toNat) ∧ (c.toNat < 97 ∨ 102 < c.toNat) ∧ (c.toNat < 65 ∨ 70 < c.toNat) := by
  refine ⟨?_, ?_, ?_⟩
  all_goals
    apply Classical.byContradiction
    intro hh
    have : isDig true c = true := by
      unfold isDig digitV
      rw [decide_eq_true_iff]
      split
      · rename_i h1; simp [cDigit] at h1; omega
      · split
        · rename_i h1; simp at h1; omega
        · split
          · rename_i h1; simp at h1; omega
          · rename_i h1 h2 h3; simp [cDigit] at h1 h2 h3; omega
    rw [this] at h; cases h
theorem nodig_dec {c : UInt8} (h : isDig false c = false) : c.toNat < 48 ∨ 57 < c.toNat := by
  by_cases hh : c.toNat < 48 ∨ 57 < c.toNat
  · exact hh
  · exfalso
    have : isDig false c = true := by
      unfold isDig digitV
      rw [decide_eq_true_iff]
      split
      · rename_i h1; simp [cDigit] at h1; omega
      · rename_i h1; simp [cDigit] at h1; omega
    rw [this] at h; cases h
theorem refDoc_some {l : Bs} {r : RefR} (h : refW refWords l = some r) : refDoc l = r := by unfold refDoc; rw [h]

theorem refW_no {w : Bs} {t : UInt8} {ws : List (Bs × UInt8)} {l : Bs} (W : Bs) (hw : 38 :: (w ++ [59]) = W) (h1 : W.isPrefixOf l = false) (h2 : l.isPrefixOf W = false) : refW ((w, t) :: ws) l = refW ws l := by
  subst hw; simp only [refW]; rw [if_neg (by rw [h1]; simp), if_neg (by rw [h2]; simp)]
theorem refW_bad {w : Bs} {t : UInt8} {ws : List (Bs × UInt8)} {l : Bs} (W : Bs) (hw : 38 :: (w ++ [59]) = W) (h1 : W.isPrefixOf l = false) (h2 : l.isPrefixOf W = true) : refW ((w, t) :: ws) l = some (.bad 13) := by
  subst hw; simp only [refW]; rw [if_neg (by rw [h1]; simp), if_pos h2]
theorem refW_ok {w : Bs} {t : UInt8} {ws : List (Bs × UInt8)} {l : Bs} (W : Bs) (hw : 38 :: (w ++ [59]) = W) (h1 : W.isPrefixOf l = true) : refW ((w, t) :: ws) l = some (.ok [t] (w.length + 2)) := by
  subst hw; simp only [refW]; rw [if_pos h1]

set_option maxRecDepth 100000 in
set_option maxHeartbeats 4000000 in
theorem refDoc_any (s : S) (w : World) (hs : s.size ≤ 1000000) :
    Calls Try.prog 121 #[.string s] w fun e w' => e = .returned (docTuple (refDoc s.data.toList)) ∧ Below w.heap.size w w' := by
  go_enter Try.func121, Try.ntmps121
  go_wp2
  go_loop [7, 8, 19] (fun _ _ i => ∃ k : Nat, k ≤ 5 ∧ i = .int .i64 k ∧ Hid (refW refWords s.data.toList = refW (refWords.drop k) s.data.toList)) (fun _ _ i => 5 - (intOf i).toNat)
  case atStart => exact ⟨0, by omega, rfl, rfl⟩
  case round =>
    obtain ⟨k, hk, rfl, HK⟩ := hrel
    rcases (by omega : k = 0 ∨ k = 1 ∨ k = 2 ∨ k = 3 ∨ k = 4 ∨ k = 5) with rfl | rfl | rfl | rfl | rfl | rfl
    · go_wp2_with fail
      refine (begins1_any s _ _).mono ?_
      rintro e w' ⟨rfl, rfl⟩
      generalize hp : List.isPrefixOf (α := UInt8) _ _ = q1
      have HP : Hid (([38, 108, 116, 59] : Bs).isPrefixOf s.data.toList = q1) := hp
      clear hp
      cases q1
      · go_wp2_with fail
        refine (begins1_any _ s _).mono ?_
        rintro e w' ⟨rfl, rfl⟩
        generalize hp : List.isPrefixOf (α := UInt8) _ _ = q2
        have HP2 : Hid (s.data.toList.isPrefixOf ([38, 108, 116, 59] : Bs) = q2) := hp
        clear hp
        cases q2
        · go_wp2
          go_round
          case rel =>
            refine ⟨1, by omega, rfl, ?_⟩
            have HK' : refW refWords s.data.toList = refW ((wLt, 60) :: refWords.drop 1) s.data.toList := HK.out
            exact HK'.trans (refW_no _ rfl HP.out HP2.out)
          case measure => simp [intOf]
        · go_wp2
          go_ret3
          refine ⟨?_, ((Below.refl _ w).alloc (Nat.le_refl _) _).alloc (by simp) _⟩
          have HK' : refW refWords s.data.toList = refW ((wLt, 60) :: refWords.drop 1) s.data.toList := HK.out
          have h1 : refW refWords s.data.toList = some (.bad 13) := HK'.trans (refW_bad _ rfl HP.out HP2.out)
          rw [refDoc_some h1]; rfl
      · go_wp2
        go_ret3
        refine ⟨?_, ((Below.refl _ w).alloc (Nat.le_refl _) _).alloc (by simp) _⟩
        have HK' : refW refWords s.data.toList = refW ((wLt, 60) :: refWords.drop 1) s.data.toList := HK.out
        have h1 : refW refWords s.data.toList = some (.ok [60] 4) := HK'.trans (refW_ok _ rfl HP.out)
        rw [refDoc_some h1]; rfl
    · go_wp2_with fail
      refine (begins1_any s _ _).mono ?_
      rintro e w' ⟨rfl, rfl⟩
      generalize hp : List.isPrefixOf (α := UInt8) _ _ = q1
      have HP : Hid (([38, 103, 116, 59] : Bs).isPrefixOf s.data.toList = q1) := hp
      clear hp
      cases q1
      · go_wp2_with fail
        refine (begins1_any _ s _).mono ?_
        rintro e w' ⟨rfl, rfl⟩
        generalize hp : List.isPrefixOf (α := UInt8) _ _ = q2
        have HP2 : Hid (s.data.toList.isPrefixOf ([38, 103, 116, 59] : Bs) = q2) := hp
        clear hp
        cases q2
        · go_wp2
          go_round
          case rel =>
            refine ⟨2, by omega, rfl, ?_⟩
            have HK' : refW refWords s.data.toList = refW ((wGt, 62) :: refWords.drop 2) s.data.toList := HK.out
            exact HK'.trans (refW_no _ rfl HP.out HP2.out)
          case measure => simp [intOf]
        · go_wp2
          go_ret3
          refine ⟨?_, ((Below.refl _ w).alloc (Nat.le_refl _) _).alloc (by simp) _⟩
          have HK' : refW refWords s.data.toList = refW ((wGt, 62) :: refWords.drop 2) s.data.toList := HK.out
          have h1 : refW refWords s.data.toList = some (.bad 13) := HK'.trans (refW_bad _ rfl HP.out HP2.out)
          rw [refDoc_some h1]; rfl
      · go_wp2
        go_ret3
        refine ⟨?_, ((Below.refl _ w).alloc (Nat.le_refl _) _).alloc (by simp) _⟩
        have HK' : refW refWords s.data.toList = refW ((wGt, 62) :: refWords.drop 2) s.data.toList := HK.out
        have h1 : refW refWords s.data.toList = some (.ok [62] 4) := HK'.trans (refW_ok _ rfl HP.out)
        rw [refDoc_some h1]; rfl
    · go_wp2_with fail
      refine (begins1_any s _ _).mono ?_
      rintro e w' ⟨rfl, rfl⟩
      generalize hp : List.isPrefixOf (α := UInt8) _ _ = q1
      have HP : Hid (([38, 97, 109, 112, 59] : Bs).isPrefixOf s.data.toList = q1) := hp
      clear hp
      cases q1
      · go_wp2_with fail
        refine (begins1_any _ s _).mono ?_
        rintro e w' ⟨rfl, rfl⟩
        generalize hp : List.isPrefixOf (α := UInt8) _ _ = q2
        have HP2 : Hid (s.data.toList.isPrefixOf ([38, 97, 109, 112, 59] : Bs) = q2) := hp
        clear hp
        cases q2
        · go_wp2
          go_round
          case rel =>
            refine ⟨3, by omega, rfl, ?_⟩
            have HK' : refW refWords s.data.toList = refW ((wAmp, 38) :: refWords.drop 3) s.data.toList := HK.out
            exact HK'.trans (refW_no _ rfl HP.out HP2.out)
          case measure => simp [intOf]
        · go_wp2
          go_ret3
          refine ⟨?_, ((Below.refl _ w).alloc (Nat.le_refl _) _).alloc (by simp) _⟩
          have HK' : refW refWords s.data.toList = refW ((wAmp, 38) :: refWords.drop 3) s.data.toList := HK.out
          have h1 : refW refWords s.data.toList = some (.bad 13) := HK'.trans (refW_bad _ rfl HP.out HP2.out)
          rw [refDoc_some h1]; rfl
      · go_wp2
        go_ret3
        refine ⟨?_, ((Below.refl _ w).alloc (Nat.le_refl _) _).alloc (by simp) _⟩
        have HK' : refW refWords s.data.toList = refW ((wAmp, 38) :: refWords.drop 3) s.data.toList := HK.out
        have h1 : refW refWords s.data.toList = some (.ok [38] 5) := HK'.trans (refW_ok _ rfl HP.out)
        rw [refDoc_some h1]; rfl
    · go_wp2_with fail
      refine (begins1_any s _ _).mono ?_
      rintro e w' ⟨rfl, rfl⟩
      generalize hp : List.isPrefixOf (α := UInt8) _ _ = q1
      have HP : Hid (([38, 113, 117, 111, 116, 59] : Bs).isPrefixOf s.data.toList = q1) := hp
      clear hp
      cases q1
      · go_wp2_with fail
        refine (begins1_any _ s _).mono ?_
        rintro e w' ⟨rfl, rfl⟩
        generalize hp : List.isPrefixOf (α := UInt8) _ _ = q2
        have HP2 : Hid (s.data.toList.isPrefixOf ([38, 113, 117, 111, 116, 59] : Bs) = q2) := hp
        clear hp
        cases q2
        · go_wp2
          go_round
          case rel =>
            refine ⟨4, by omega, rfl, ?_⟩
            have HK' : refW refWords s.data.toList = refW ((wQuot, 34) :: refWords.drop 4) s.data.toList := HK.out
            exact HK'.trans (refW_no _ rfl HP.out HP2.out)
          case measure => simp [intOf]
        · go_wp2
          go_ret3
          refine ⟨?_, ((Below.refl _ w).alloc (Nat.le_refl _) _).alloc (by simp) _⟩
          have HK' : refW refWords s.data.toList = refW ((wQuot, 34) :: refWords.drop 4) s.data.toList := HK.out
          have h1 : refW refWords s.data.toList = some (.bad 13) := HK'.trans (refW_bad _ rfl HP.out HP2.out)
          rw [refDoc_some h1]; rfl
      · go_wp2
        go_ret3
        refine ⟨?_, ((Below.refl _ w).alloc (Nat.le_refl _) _).alloc (by simp) _⟩
        have HK' : refW refWords s.data.toList = refW ((wQuot, 34) :: refWords.drop 4) s.data.toList := HK.out
        have h1 : refW refWords s.data.toList = some (.ok [34] 6) := HK'.trans (refW_ok _ rfl HP.out)
        rw [refDoc_some h1]; rfl
    · go_wp2_with fail
      refine (begins1_any s _ _).mono ?_
      rintro e w' ⟨rfl, rfl⟩
      generalize hp : List.isPrefixOf (α := UInt8) _ _ = q1
      have HP : Hid (([38, 97, 112, 111, 115, 59] : Bs).isPrefixOf s.data.toList = q1) := hp
      clear hp
      cases q1
      · go_wp2_with fail
        refine (begins1_any _ s _).mono ?_
        rintro e w' ⟨rfl, rfl⟩
        generalize hp : List.isPrefixOf (α := UInt8) _ _ = q2
        have HP2 : Hid (s.data.toList.isPrefixOf ([38, 97, 112, 111, 115, 59] : Bs) = q2) := hp
        clear hp
        cases q2
        · go_wp2
          go_round
          case rel =>
            refine ⟨5, by omega, rfl, ?_⟩
            have HK' : refW refWords s.data.toList = refW ((wApos, 39) :: refWords.drop 5) s.data.toList := HK.out
            exact HK'.trans (refW_no _ rfl HP.out HP2.out)
          case measure => simp [intOf]
        · go_wp2
          go_ret3
          refine ⟨?_, ((Below.refl _ w).alloc (Nat.le_refl _) _).alloc (by simp) _⟩
          have HK' : refW refWords s.data.toList = refW ((wApos, 39) :: refWords.drop 5) s.data.toList := HK.out
          have h1 : refW refWords s.data.toList = some (.bad 13) := HK'.trans (refW_bad _ rfl HP.out HP2.out)
          rw [refDoc_some h1]; rfl
      · go_wp2
        go_ret3
        refine ⟨?_, ((Below.refl _ w).alloc (Nat.le_refl _) _).alloc (by simp) _⟩
        have HK' : refW refWords s.data.toList = refW ((wApos, 39) :: refWords.drop 5) s.data.toList := HK.out
        have h1 : refW refWords s.data.toList = some (.ok [39] 6) := HK'.trans (refW_ok _ rfl HP.out)
        rw [refDoc_some h1]; rfl
    · have HN : Hid (refW refWords s.data.toList = none) := HK.out
      clear HK
      have htl := ByteArray.toList_eq s
      by_cases hA : s.toList = [38, 35]
      · have eA : (s.toList == [38, 35]) = true := by rw [hA]; rfl
        have hR : Hid (refDoc s.data.toList = .bad 13) := by
          show _ = _
          unfold refDoc; rw [HN.out, ← htl, hA]; rfl
        clear htl
        go_wp2
        all_goals first | (exfalso; omega) | skip
        go_ret3
        exact ⟨by rw [hR.out]; rfl, ((Below.refl _ w).alloc (Nat.le_refl _) _).alloc (by simp) _⟩
      · by_cases hB : s.toList = [38, 35, 120]
        · have eB : (s.toList == [38, 35, 120]) = true := by rw [hB]; rfl
          have hR : Hid (refDoc s.data.toList = .bad 13) := by
            show _ = _
            unfold refDoc; rw [HN.out, ← htl, hB]; rfl
          have eA : (s.toList == [38, 35]) = false := by rw [hB]; rfl
          clear htl
          go_wp2
          go_ret3
          exact ⟨by rw [hR.out]; rfl, ((Below.refl _ w).alloc (Nat.le_refl _) _).alloc (by simp) _⟩
        · have eA : (s.toList == [38, 35]) = false := by simpa using hA
          have eB : (s.toList == [38, 35, 120]) = false := by simpa using hB
          have hR : Hid (refDoc s.data.toList = if !([38, 35] : Bs).isPrefixOf s.data.toList then .bad 12 else if ([38, 35, 120] : Bs).isPrefixOf s.data.toList then refN true 3 (s.data.toList.drop 3) else refN false 2 (s.data.toList.drop 2)) := by
            show _ = _
            rw [htl] at hA hB
            unfold refDoc; rw [HN.out]
            simp only []
            rw [if_neg (by rintro (h | h); exact hA h; exact hB h)]
          clear htl
          go_wp2_with fail
          refine (begins1_any s _ _).mono ?_
          rintro e w' ⟨rfl, rfl⟩
          generalize hp : List.isPrefixOf (α := UInt8) _ _ = q1
          have HP : Hid (([38, 35] : Bs).isPrefixOf s.data.toList = q1) := hp
          clear hp
          cases q1
          · go_wp2
            go_ret3
            exact ⟨by rw [hR.out, HP.out]; rfl, ((Below.refl _ w).alloc (Nat.le_refl _) _).alloc (by simp) _⟩
          · go_wp2_with fail
            refine (begins1_any s _ _).mono ?_
            rintro e w' ⟨rfl, rfl⟩
            generalize hp : List.isPrefixOf (α := UInt8) _ _ = q2
            have HP2 : Hid (([38, 35, 120] : Bs).isPrefixOf s.data.toList = q2) := hp
            clear hp
            cases q2
            · have hR2 : Hid (refDoc s.data.toList = refN false 2 (s.data.toList.drop 2)) := by
                show _ = _
                rw [hR.out, HP.out, HP2.out]; rfl
              clear hR
              have hpl := (List.isPrefixOf_iff_prefix.1 HP.out).length_le
              rw [size_data] at hpl
              obtain ⟨d, hd⟩ : ∃ d, d = s.data.toList.drop 2 := ⟨_, rfl⟩
              have hdl : 2 + d.length = s.size := by rw [hd, List.length_drop, size_data]; simp at hpl; omega
              have HDG : Hid (∀ t (h : t < s.size), 2 ≤ t → d[t - 2]? = some s[t]) := fun t ht hat => by
                have h1 := drop_byte s t ht
                have h2 := congrArg (fun z : Bs => z[0]?) h1
                simp only [List.getElem?_drop] at h2
                rw [hd, List.getElem?_drop, show 2 + (t - 2) = t + 0 by omega, h2]; rfl
              rw [← hd] at hR2
              clear hd hpl
              have hsp := span_le (isDig false) d
              obtain ⟨m, hm⟩ : ∃ m, m = min 9 (span (isDig false) d) := ⟨_, rfl⟩
              have HM := Lib.hid hm
              have hmd : m ≤ d.length := by omega
              have hm9 : m ≤ 9 := by omega
              have HIN : Hid (∀ t (h : t < s.size), 2 ≤ t → t < 2 + m → isDig false s[t] = true) := fun t ht h1 h2 => by
                obtain ⟨c, h3, h4⟩ := span_lt (p := isDig false) (l := d) (i := t - 2) (by omega)
                rw [HDG.out t ht h1] at h3; cases h3; exact h4
              have HOUT : Hid (m < 9 → ∀ h : 2 + m < s.size, isDig false s[2 + m] = false) := fun h1 h => by
                have h5 : m = span (isDig false) d := by omega
                have h6 := HDG.out (2 + m) h (by omega)
                rw [show 2 + m - 2 = m by omega] at h6
                exact span_end (p := isDig false) (l := d) (by rw [← h5]; exact h6)
              clear hm hsp
              go_upto_block 2 with fail
              refine wp_world ?_
              intro W hW
              have HBL : Hid (Below w.heap.size w W) := by rw [hW]; exact ((Below.refl _ w).alloc (Nat.le_refl _) _).alloc (by simp) _
              clear hW
              go_cut [9, 12, 13, 14] from 49 to 103 (fun i n _ _ wx => W = wx ∧ i = .int .i64 ((2 + m : Nat)) ∧ n = .int .i64 (numV false (d.take m)))
              case first =>
               go_wp2_with fail
               go_loop [9, 12, 13, 14] (fun i n _ _ => ∃ t : Nat, 2 ≤ t ∧ t ≤ 2 + m ∧ i = .int .i64 t ∧ n = .int .i64 (numV false (d.take (t - 2)))) (fun i _ _ _ => 2 + m - (intOf i).toNat)
               case atStart => exact ⟨2, by omega, by omega, rfl, by simp [numV]⟩
               case round =>
                obtain ⟨t, h1, h2, rfl, rfl⟩ := hrel
                have hdg : ∀ c ∈ d.take (t - 2), isDig false c = true := fun c hc => by
                  obtain ⟨i, hi, rfl⟩ := List.mem_iff_getElem.1 hc
                  rw [List.length_take] at hi
                  obtain ⟨c, h3, h4⟩ := span_lt (p := isDig false) (l := d) (i := i) (by have := HM.out; omega)
                  rw [List.getElem_take]
                  obtain ⟨h5, h6⟩ := List.getElem?_eq_some_iff.1 h3
                  rw [h6]; exact h4
                by_cases hlt : t < 2 + m
                · obtain ⟨b1, b2⟩ := numV_small false (d.take (t - 2)) hdg (by rw [List.length_take]; omega)
                  have hts : t < s.size := by omega
                  have hv := HIN.out t hts h1 hlt
                  have HSN : Hid (numV false (d.take (t + 1 - 2)) = numV false (d.take (t - 2)) * 10 + digitV s[t] false) := by
                    show _ = _
                    have : d.take (t + 1 - 2) = d.take (t - 2) ++ [s[t]] := by rw [show t + 1 - 2 = (t - 2) + 1 by omega, List.take_add_one, HDG.out t hts h1]; rfl
                    rw [this, numV_snoc]; rfl
                  clear hdg
                  generalize numV false (d.take (t - 2)) = K at *
                  have hti : (t : Int) < (s.size : Int) := by omega
                  have ht9 : (t : Int) - 2 < 9 := by omega
                  have ht0 : (2 : Int) ≤ (t : Int) := by omega
                  obtain ⟨c1, c2, c3⟩ := dig_dec hv
                  rw [c3] at HSN
                  clear c3 hv
                  go_wp2
                  all_goals first | (exfalso; omega) | skip
                  go_round
                  case rel => exact ⟨t + 1, by omega, by omega, by simp, by rw [HSN.out]⟩
                  case measure => simp [intOf]; omega
                · have hte : t = 2 + m := by omega
                  clear hlt h2 h1 hdg
                  have hta : t - 2 = m := by omega
                  have HK : Hid (numV false (d.take (t - 2)) = numV false (d.take m)) := by rw [hta]; rfl
                  clear hta
                  generalize numV false (d.take (t - 2)) = K at *
                  have hts0 : (t : Int) ≤ 1000000 := by omega
                  by_cases h9 : m = 9
                  · have g1 : ¬ (t : Int) - 2 < 9 := by omega
                    have HTE := Lib.hid hte
                    clear hte h9
                    by_cases hts : t < s.size
                    · have hti : (t : Int) < (s.size : Int) := by omega
                      go_wp2
                      go_meet
                      exact ⟨rfl, by rw [HTE.out], by rw [HK.out]⟩
                    · have hti : ¬ (t : Int) < (s.size : Int) := by omega
                      go_wp2
                      go_meet
                      exact ⟨rfl, by rw [HTE.out], by rw [HK.out]⟩
                  · by_cases hend : m = d.length
                    · have hti : ¬ (t : Int) < (s.size : Int) := by omega
                      have HTE := Lib.hid hte
                      clear hte hend
                      go_wp2
                      go_meet
                      exact ⟨rfl, by rw [HTE.out], by rw [HK.out]⟩
                    · have hts : t < s.size := by omega
                      have hno : isDig false s[t] = false := by
                        have := HOUT.out (by omega) (by omega)
                        simpa only [hte] using this
                      have hti : (t : Int) < (s.size : Int) := by omega
                      have ht9 : (t : Int) - 2 < 9 := by omega
                      have ht0 : (2 : Int) ≤ (t : Int) := by omega
                      have q1 := nodig_dec hno
                      have HTE := Lib.hid hte
                      clear hte hno
                      have b255 : ((s[t].toNat : Nat) : Int) ≤ 255 := by have := s[t].toNat_lt; omega
                      have b0 : (0 : Int) ≤ ((s[t].toNat : Nat) : Int) := by omega
                      go_wp2
                      all_goals first | (exfalso; omega) | (go_meet; exact ⟨rfl, by rw [HTE.out], by rw [HK.out]⟩)
              case rest =>
                obtain ⟨t, ht⟩ : ∃ t, t = 2 + m := ⟨_, rfl⟩
                rw [← ht] at hcut
                obtain ⟨rfl, rfl, rfl⟩ := hcut
                have HTT := Lib.hid ht
                have hdg : ∀ c ∈ d.take m, isDig false c = true := fun c hc => by
                  obtain ⟨i, hi, rfl⟩ := List.mem_iff_getElem.1 hc
                  rw [List.length_take] at hi
                  obtain ⟨c, h3, h4⟩ := span_lt (p := isDig false) (l := d) (i := i) (by have := HM.out; omega)
                  rw [List.getElem_take]
                  obtain ⟨h5, h6⟩ := List.getElem?_eq_some_iff.1 h3
                  rw [h6]; exact h4
                by_cases h9 : m = 9
                · have hO : Hid (refDoc s.data.toList = .bad 12) := by
                    show _ = _
                    rw [hR2.out]; unfold refN; rw [← HM.out, h9]; rfl
                  have g1 : (8 : Int) < (t : Int) - 2 := by omega
                  have hts0 : (t : Int) ≤ 1000000 := by omega
                  clear hdg
                  generalize numV false (d.take m) = K at *
                  clear ht
                  go_wp2
                  all_goals first | (exfalso; omega) | (go_ret3; exact ⟨by rw [hO.out]; rfl, HBL.out⟩)
                · by_cases hend : m = d.length
                  · have hO : Hid (refDoc s.data.toList = .bad 13) := by
                      show _ = _
                      rw [hR2.out]; unfold refN; rw [← HM.out, if_neg (by omega), if_pos hend]
                    clear hdg
                    generalize numV false (d.take m) = K at *
                    have g1 : ¬ (8 : Int) < (t : Int) - 2 := by omega
                    have g2 : ((t : Int) == (s.size : Int)) = true := beq_iff_eq.2 (by omega)
                    clear ht
                    go_wp2
                    all_goals first | (exfalso; omega) | (go_ret3; exact ⟨by rw [hO.out]; rfl, HBL.out⟩)
                  · have hts : t < s.size := by omega
                    have HB : Hid (d[m]? = some s[t]) := by
                      have := HDG.out t hts (by omega)
                      rw [show t - 2 = m by omega] at this; exact this
                    obtain ⟨b1, b2⟩ := numV_small false (d.take m) hdg (by rw [List.length_take]; omega)
                    clear hdg
                    have h8 : ¬ 8 < m := by omega
                    have hL : Hid (refDoc s.data.toList = if d[m]? ≠ some 59 ∨ m = 0 ∨ okLetter (numV false (d.take m)) = false then .bad 12 else .ok (letterB (numV false (d.take m))) (2 + m + 1)) := by
                      show _ = _
                      rw [hR2.out]; unfold refN; rw [← HM.out, if_neg h8, if_neg hend]
                    generalize numV false (d.take m) = K at *
                    have hti : (t : Int) < (s.size : Int) := by omega
                    have ht0 : (2 : Int) ≤ (t : Int) := by omega
                    have g1 : ¬ (8 : Int) < (t : Int) - 2 := by omega
                    have g2 : ((t : Int) == (s.size : Int)) = false := beq_eq_false_iff_ne.2 (by omega)
                    have g3 : ¬ (t : Int) = (s.size : Int) := by omega
                    have g4 : ¬ t = s.size := by omega
                    by_cases h59 : s[t] = 59
                    rotate_left
                    · have e2 : (((s[t].toNat : Nat) : Int) != 59) = true := by
                        rw [bne_iff_ne]; intro e; exact h59 (UInt8.toNat_inj.1 (by simpa using (by omega : s[t].toNat = 59)))
                      have e3 : ¬ ((s[t].toNat : Nat) : Int) = 59 := by simpa using e2
                      have hO : Hid (refDoc s.data.toList = .bad 12) := by
                        show _ = _
                        rw [hL.out, if_pos (.inl (by rw [HB.out]; simpa using h59))]
                      clear h59 ht
                      go_wp2
                      all_goals first | (exfalso; omega) | (go_ret3; exact ⟨by rw [hO.out]; rfl, HBL.out⟩)
                    · have e2 : (((s[t].toNat : Nat) : Int) != 59) = false := by rw [h59]; decide
                      have e3 : ((s[t].toNat : Nat) : Int) = 59 := by rw [h59]; decide
                      by_cases h0 : m = 0
                      · have e0 : ((t : Int) == 2) = true := beq_iff_eq.2 (by omega)
                        have e4 : (t : Int) = 2 := by omega
                        have hO : Hid (refDoc s.data.toList = .bad 12) := by
                          show _ = _
                          rw [hL.out, if_pos (.inr (.inl h0))]
                        clear h59 h0 e4 ht
                        go_wp2
                        all_goals first | (exfalso; omega) | (go_ret3; exact ⟨by rw [hO.out]; rfl, HBL.out⟩)
                      · have e0 : ((t : Int) == 2) = false := beq_eq_false_iff_ne.2 (by omega)
                        have e4 : ¬ (t : Int) = 2 := by omega
                        have HB2 : Hid (d[m]? = some 59) := by rw [HB.out, h59]; rfl
                        clear h59
                        cases hok : okLetter K
                        · have HL := Lib.hid (fun w => rletter_no K w hok)
                          have hO : Hid (refDoc s.data.toList = .bad 12) := by
                            show _ = _
                            rw [hL.out, if_pos (.inr (.inr hok))]
                          clear hok ht
                          go_wp2_with (go_at_call 134; refine (HL.out _).mono ?_; rintro e w' ⟨rfl, rfl⟩)
                          all_goals first | (exfalso; omega) | (go_ret3; exact ⟨by rw [hO.out]; rfl, HBL.out⟩)
                        · have HL := Lib.hid (fun w => rletter_ok K w hok)
                          have hO : Hid (refDoc s.data.toList = .ok (letterB K) (2 + m + 1)) := by
                            show _ = _
                            rw [hL.out, if_neg (by rw [HB2.out, hok]; simp [h0])]
                          have hU0 : (bs (letterB K)).toList ≠ [] := by
                            rw [ByteArray.toList_eq, bs_data]; exact letterN_ne _
                          clear hok
                          obtain ⟨U, hUU⟩ : ∃ U, U = bs (letterB K) := ⟨_, rfl⟩
                          rw [← hUU] at HL hU0
                          have HUU := Lib.hid hUU
                          clear hUU
                          have hU1 : (U.toList == []) = false := by simpa using hU0
                          have hU2 : U.toList.isEmpty = false := by simpa using hU0
                          clear ht h0 e4
                          go_wp2_with fail
                          refine (HL.out _).mono ?_
                          rintro e W1 ⟨rfl, hb1⟩
                          have HB1 := Lib.hid hb1
                          clear hb1
                          go_wp2_with fail
                          refine (HL.out _).mono ?_
                          rintro e W2 ⟨rfl, hb2⟩
                          have HB3 := Lib.hid hb2
                          clear hb2
                          go_wp2
                          go_ret3
                          refine ⟨by rw [hO.out, HUU.out, HTT.out]; rfl, ?_⟩
                          exact (HBL.out.trans (HB1.out.mono HBL.out.size)).trans (HB3.out.mono (Nat.le_trans HBL.out.size HB1.out.size))
            · have hR2 : Hid (refDoc s.data.toList = refN true 3 (s.data.toList.drop 3)) := by
                show _ = _
                rw [hR.out, HP.out, HP2.out]; rfl
              clear hR
              have hpl := (List.isPrefixOf_iff_prefix.1 HP2.out).length_le
              rw [size_data] at hpl
              obtain ⟨d, hd⟩ : ∃ d, d = s.data.toList.drop 3 := ⟨_, rfl⟩
              have hdl : 3 + d.length = s.size := by rw [hd, List.length_drop, size_data]; simp at hpl; omega
              have HDG : Hid (∀ t (h : t < s.size), 3 ≤ t → d[t - 3]? = some s[t]) := fun t ht hat => by
                have h1 := drop_byte s t ht
                have h2 := congrArg (fun z : Bs => z[0]?) h1
                simp only [List.getElem?_drop] at h2
                rw [hd, List.getElem?_drop, show 3 + (t - 3) = t + 0 by omega, h2]; rfl
              rw [← hd] at hR2
              clear hd hpl
              have hsp := span_le (isDig true) d
              obtain ⟨m, hm⟩ : ∃ m, m = min 9 (span (isDig true) d) := ⟨_, rfl⟩
              have HM := Lib.hid hm
              have hmd : m ≤ d.length := by omega
              have hm9 : m ≤ 9 := by omega
              have HIN : Hid (∀ t (h : t < s.size), 3 ≤ t → t < 3 + m → isDig true s[t] = true) := fun t ht h1 h2 => by
                obtain ⟨c, h3, h4⟩ := span_lt (p := isDig true) (l := d) (i := t - 3) (by omega)
                rw [HDG.out t ht h1] at h3; cases h3; exact h4
              have HOUT : Hid (m < 9 → ∀ h : 3 + m < s.size, isDig true s[3 + m] = false) := fun h1 h => by
                have h5 : m = span (isDig true) d := by omega
                have h6 := HDG.out (3 + m) h (by omega)
                rw [show 3 + m - 3 = m by omega] at h6
                exact span_end (p := isDig true) (l := d) (by rw [← h5]; exact h6)
              clear hm hsp
              go_upto_block 2 with fail
              refine wp_world ?_
              intro W hW
              have HBL : Hid (Below w.heap.size w W) := by rw [hW]; exact ((Below.refl _ w).alloc (Nat.le_refl _) _).alloc (by simp) _
              clear hW
              go_cut [9, 12, 13, 14] from 49 to 103 (fun i n _ _ wx => W = wx ∧ i = .int .i64 ((3 + m : Nat)) ∧ n = .int .i64 (numV true (d.take m)))
              case first =>
               go_wp2_with fail
               go_loop [9, 12, 13, 14] (fun i n _ _ => ∃ t : Nat, 3 ≤ t ∧ t ≤ 3 + m ∧ i = .int .i64 t ∧ n = .int .i64 (numV true (d.take (t - 3)))) (fun i _ _ _ => 3 + m - (intOf i).toNat)
               case atStart => exact ⟨3, by omega, by omega, rfl, by simp [numV]⟩
               case round =>
                obtain ⟨t, h1, h2, rfl, rfl⟩ := hrel
                have hdg : ∀ c ∈ d.take (t - 3), isDig true c = true := fun c hc => by
                  obtain ⟨i, hi, rfl⟩ := List.mem_iff_getElem.1 hc
                  rw [List.length_take] at hi
                  obtain ⟨c, h3, h4⟩ := span_lt (p := isDig true) (l := d) (i := i) (by have := HM.out; omega)
                  rw [List.getElem_take]
                  obtain ⟨h5, h6⟩ := List.getElem?_eq_some_iff.1 h3
                  rw [h6]; exact h4
                by_cases hlt : t < 3 + m
                · obtain ⟨b1, b2⟩ := numV_small true (d.take (t - 3)) hdg (by rw [List.length_take]; omega)
                  have hts : t < s.size := by omega
                  have hv := HIN.out t hts h1 hlt
                  have HSN : Hid (numV true (d.take (t + 1 - 3)) = numV true (d.take (t - 3)) * 16 + digitV s[t] true) := by
                    show _ = _
                    have : d.take (t + 1 - 3) = d.take (t - 3) ++ [s[t]] := by rw [show t + 1 - 3 = (t - 3) + 1 by omega, List.take_add_one, HDG.out t hts h1]; rfl
                    rw [this, numV_snoc]; rfl
                  clear hdg
                  generalize numV true (d.take (t - 3)) = K at *
                  have hti : (t : Int) < (s.size : Int) := by omega
                  have ht9 : (t : Int) - 3 < 9 := by omega
                  have ht0 : (3 : Int) ≤ (t : Int) := by omega
                  rcases dig_hex hv with ⟨c1, c2, c3⟩ | ⟨c1, c2, c3⟩ | ⟨c1, c2, c3⟩
                  all_goals
                    rw [c3] at HSN
                    clear c3 hv
                    go_wp2
                    all_goals first | (exfalso; omega) | skip
                    go_round
                    case rel => exact ⟨t + 1, by omega, by omega, by simp, by rw [HSN.out]⟩
                    case measure => simp [intOf]; omega
                · have hte : t = 3 + m := by omega
                  clear hlt h2 h1 hdg
                  have hta : t - 3 = m := by omega
                  have HK : Hid (numV true (d.take (t - 3)) = numV true (d.take m)) := by rw [hta]; rfl
                  clear hta
                  generalize numV true (d.take (t - 3)) = K at *
                  have hts0 : (t : Int) ≤ 1000000 := by omega
                  by_cases h9 : m = 9
                  · have g1 : ¬ (t : Int) - 3 < 9 := by omega
                    have HTE := Lib.hid hte
                    clear hte h9
                    by_cases hts : t < s.size
                    · have hti : (t : Int) < (s.size : Int) := by omega
                      go_wp2
                      go_meet
                      exact ⟨rfl, by rw [HTE.out], by rw [HK.out]⟩
                    · have hti : ¬ (t : Int) < (s.size : Int) := by omega
                      go_wp2
                      go_meet
                      exact ⟨rfl, by rw [HTE.out], by rw [HK.out]⟩
                  · by_cases hend : m = d.length
                    · have hti : ¬ (t : Int) < (s.size : Int) := by omega
                      have HTE := Lib.hid hte
                      clear hte hend
                      go_wp2
                      go_meet
                      exact ⟨rfl, by rw [HTE.out], by rw [HK.out]⟩
                    · have hts : t < s.size := by omega
                      have hno : isDig true s[t] = false := by
                        have := HOUT.out (by omega) (by omega)
                        simpa only [hte] using this
                      have hti : (t : Int) < (s.size : Int) := by omega
                      have ht9 : (t : Int) - 3 < 9 := by omega
                      have ht0 : (3 : Int) ≤ (t : Int) := by omega
                      obtain ⟨q1, q2, q3⟩ := nodig_hex hno
                      have HTE := Lib.hid hte
                      clear hte hno
                      have b255 : ((s[t].toNat : Nat) : Int) ≤ 255 := by have := s[t].toNat_lt; omega
                      have b0 : (0 : Int) ≤ ((s[t].toNat : Nat) : Int) := by omega
                      go_wp2
                      all_goals first | (exfalso; omega) | (go_meet; exact ⟨rfl, by rw [HTE.out], by rw [HK.out]⟩)
              case rest =>
                obtain ⟨t, ht⟩ : ∃ t, t = 3 + m := ⟨_, rfl⟩
                rw [← ht] at hcut
                obtain ⟨rfl, rfl, rfl⟩ := hcut
                have HTT := Lib.hid ht
                have hdg : ∀ c ∈ d.take m, isDig true c = true := fun c hc => by
                  obtain ⟨i, hi, rfl⟩ := List.mem_iff_getElem.1 hc
                  rw [List.length_take] at hi
                  obtain ⟨c, h3, h4⟩ := span_lt (p := isDig true) (l := d) (i := i) (by have := HM.out; omega)
                  rw [List.getElem_take]
                  obtain ⟨h5, h6⟩ := List.getElem?_eq_some_iff.1 h3
                  rw [h6]; exact h4
                by_cases h9 : m = 9
                · have hO : Hid (refDoc s.data.toList = .bad 12) := by
                    show _ = _
                    rw [hR2.out]; unfold refN; rw [← HM.out, h9]; rfl
                  have g1 : (8 : Int) < (t : Int) - 3 := by omega
                  have hts0 : (t : Int) ≤ 1000000 := by omega
                  clear hdg
                  generalize numV true (d.take m) = K at *
                  clear ht
                  go_wp2
                  all_goals first | (exfalso; omega) | (go_ret3; exact ⟨by rw [hO.out]; rfl, HBL.out⟩)
                · by_cases hend : m = d.length
                  · have hO : Hid (refDoc s.data.toList = .bad 13) := by
                      show _ = _
                      rw [hR2.out]; unfold refN; rw [← HM.out, if_neg (by omega), if_pos hend]
                    clear hdg
                    generalize numV true (d.take m) = K at *
                    have g1 : ¬ (8 : Int) < (t : Int) - 3 := by omega
                    have g2 : ((t : Int) == (s.size : Int)) = true := beq_iff_eq.2 (by omega)
                    clear ht
                    go_wp2
                    all_goals first | (exfalso; omega) | (go_ret3; exact ⟨by rw [hO.out]; rfl, HBL.out⟩)
                  · have hts : t < s.size := by omega
                    have HB : Hid (d[m]? = some s[t]) := by
                      have := HDG.out t hts (by omega)
                      rw [show t - 3 = m by omega] at this; exact this
                    obtain ⟨b1, b2⟩ := numV_small true (d.take m) hdg (by rw [List.length_take]; omega)
                    clear hdg
                    have h8 : ¬ 8 < m := by omega
                    have hL : Hid (refDoc s.data.toList = if d[m]? ≠ some 59 ∨ m = 0 ∨ okLetter (numV true (d.take m)) = false then .bad 12 else .ok (letterB (numV true (d.take m))) (3 + m + 1)) := by
                      show _ = _
                      rw [hR2.out]; unfold refN; rw [← HM.out, if_neg h8, if_neg hend]
                    generalize numV true (d.take m) = K at *
                    have hti : (t : Int) < (s.size : Int) := by omega
                    have ht0 : (3 : Int) ≤ (t : Int) := by omega
                    have g1 : ¬ (8 : Int) < (t : Int) - 3 := by omega
                    have g2 : ((t : Int) == (s.size : Int)) = false := beq_eq_false_iff_ne.2 (by omega)
                    have g3 : ¬ (t : Int) = (s.size : Int) := by omega
                    have g4 : ¬ t = s.size := by omega
                    by_cases h59 : s[t] = 59
                    rotate_left
                    · have e2 : (((s[t].toNat : Nat) : Int) != 59) = true := by
                        rw [bne_iff_ne]; intro e; exact h59 (UInt8.toNat_inj.1 (by simpa using (by omega : s[t].toNat = 59)))
                      have e3 : ¬ ((s[t].toNat : Nat) : Int) = 59 := by simpa using e2
                      have hO : Hid (refDoc s.data.toList = .bad 12) := by
                        show _ = _
                        rw [hL.out, if_pos (.inl (by rw [HB.out]; simpa using h59))]
                      clear h59 ht
                      go_wp2
                      all_goals first | (exfalso; omega) | (go_ret3; exact ⟨by rw [hO.out]; rfl, HBL.out⟩)
                    · have e2 : (((s[t].toNat : Nat) : Int) != 59) = false := by rw [h59]; decide
                      have e3 : ((s[t].toNat : Nat) : Int) = 59 := by rw [h59]; decide
                      by_cases h0 : m = 0
                      · have e0 : ((t : Int) == 3) = true := beq_iff_eq.2 (by omega)
                        have e4 : (t : Int) = 3 := by omega
                        have hO : Hid (refDoc s.data.toList = .bad 12) := by
                          show _ = _
                          rw [hL.out, if_pos (.inr (.inl h0))]
                        clear h59 h0 e4 ht
                        go_wp2
                        all_goals first | (exfalso; omega) | (go_ret3; exact ⟨by rw [hO.out]; rfl, HBL.out⟩)
                      · have e0 : ((t : Int) == 3) = false := beq_eq_false_iff_ne.2 (by omega)
                        have e4 : ¬ (t : Int) = 3 := by omega
                        have HB2 : Hid (d[m]? = some 59) := by rw [HB.out, h59]; rfl
                        clear h59
                        cases hok : okLetter K
                        · have HL := Lib.hid (fun w => rletter_no K w hok)
                          have hO : Hid (refDoc s.data.toList = .bad 12) := by
                            show _ = _
                            rw [hL.out, if_pos (.inr (.inr hok))]
                          clear hok ht
                          go_wp2_with (go_at_call 134; refine (HL.out _).mono ?_; rintro e w' ⟨rfl, rfl⟩)
                          all_goals first | (exfalso; omega) | (go_ret3; exact ⟨by rw [hO.out]; rfl, HBL.out⟩)
                        · have HL := Lib.hid (fun w => rletter_ok K w hok)
                          have hO : Hid (refDoc s.data.toList = .ok (letterB K) (3 + m + 1)) := by
                            show _ = _
                            rw [hL.out, if_neg (by rw [HB2.out, hok]; simp [h0])]
                          have hU0 : (bs (letterB K)).toList ≠ [] := by
                            rw [ByteArray.toList_eq, bs_data]; exact letterN_ne _
                          clear hok
                          obtain ⟨U, hUU⟩ : ∃ U, U = bs (letterB K) := ⟨_, rfl⟩
                          rw [← hUU] at HL hU0
                          have HUU := Lib.hid hUU
                          clear hUU
                          have hU1 : (U.toList == []) = false := by simpa using hU0
                          have hU2 : U.toList.isEmpty = false := by simpa using hU0
                          clear ht h0 e4
                          go_wp2_with fail
                          refine (HL.out _).mono ?_
                          rintro e W1 ⟨rfl, hb1⟩
                          have HB1 := Lib.hid hb1
                          clear hb1
                          go_wp2_with fail
                          refine (HL.out _).mono ?_
                          rintro e W2 ⟨rfl, hb2⟩
                          have HB3 := Lib.hid hb2
                          clear hb2
                          go_wp2
                          go_ret3
                          refine ⟨by rw [hO.out, HUU.out, HTT.out]; rfl, ?_⟩
                          exact (HBL.out.trans (HB1.out.mono HBL.out.size)).trans (HB3.out.mono (Nat.le_trans HBL.out.size HB1.out.size))

end Go.Proofs.Ytpchljiiappmnaa

/- The walk of the document's reader's letters; the conditions stand in the theorem. -/
namespace Go.Proofs.Ytpchljiiappmnaa
open Go Go.RowKit

/-- What the document's loop over letters has done so far. -/
structure RLets (w wr : World) (b : Nat) (s : S) (stop : UInt8) (l l' acc : Bs) : Prop where
  rd : RR wr b s l' 0 0
  grown : w.grownBy wr (some b)
  spec : letters stop l = (letters stop l').map (acc ++ ·)
  len : acc.length + 4 * l'.length ≤ 4 * l.length

theorem RLets.step {w wr w4 : World} {b : Nat} {s : S} {stop : UInt8} {l l1 l2 acc t : Bs} {v : Value} (h : RLets w wr b s stop l l1 acc) (hR : RR w4 b s l1 0 0) (hg : wr.grownBy w4 (some b))
    (hsuf : l2 <:+ s.data.toList) (hv : v = .int .i64 (pos s l2 : Nat)) (hspec : letters stop l1 = (letters stop l2).map (t ++ ·)) (hlen : t.length + 4 * l2.length ≤ 4 * l1.length) :
    RLets w (w4.setCell ⟨b, 1, none⟩ v) b s stop l l2 (acc ++ t) := by
  refine ⟨hR.move hsuf hv, (h.grown.trans hg).trans (setCell_grown _ b 1 _), ?_, ?_⟩
  · rw [h.spec, hspec, map_map]
    cases letters stop l2 <;> simp [Res.map]
  · have := h.len
    rw [List.length_append]; omega
theorem RLets.less {w wr w' : World} {b : Nat} {s : S} {stop : UInt8} {l l1 l2 acc acc' : Bs} (h : RLets w wr b s stop l l1 acc) (h' : RLets w w' b s stop l l2 acc') (hlt : l2.length < l1.length) : s.size - (placeOf w' b).toNat < s.size - (placeOf wr b).toNat := by
  rw [h.rd.place, h'.rd.place]
  have := pos_add h.rd.suf
  have := pos_add h'.rd.suf
  omega

set_option maxRecDepth 100000 in
set_option maxHeartbeats 8000000 in
theorem rletters_any (b : Nat) (s : S) (stop : UInt8) (l : Bs) (w : World) (h : RR w b s l 0 0) (hs : s.size ≤ 1000000) :
    Calls Try.prog 90 #[.pointer (some ⟨b, 0, none⟩), .int .u8 stop.toNat] w (ROut (fun t => .string (bs t)) (.string ⟨#[]⟩) b s w (letters stop l)) := by
  have hll : l.length ≤ 1000000 := by have := pos_add h.suf; omega
  have hI : RLets w w b s stop l l [] := ⟨h, World.grownBy.refl _ _, by cases letters stop l <;> simp [Res.map], by simp⟩
  have HI := Lib.hid hI
  clear hI h
  go_enter Try.func90, Try.ntmps90
  go_wp2
  go_loopw [5] (fun o wr => ∃ l' acc O, o = .string O ∧ Hid (O = bs acc) ∧ RLets w wr b s stop l l' acc) (fun _ wr => s.size - (placeOf wr b).toNat)
  case atStart => exact ⟨l, [], _, rfl, rfl, HI.out⟩
  case round =>
    clear HI
    obtain ⟨l', acc, O, rfl, HO, hL⟩ := hrel
    have HL := Lib.hid hL
    have c0 := hL.rd.c0
    have c1 := hL.rd.c1
    have f1 := hL.rd.box.free 1
    have hlt := hL.rd.box.lt
    have HPL := Lib.hid hL.rd.place
    have hp := pos_add hL.rd.suf
    have hOs : O.size ≤ 4000000 := by have := hL.len; rw [HO.out, bs_size]; omega
    cases l' with
    | nil =>
      have hp' : pos s [] = s.size := pos_nil s
      rw [hp'] at c1
      clear hp hL hp'
      go_wp2
      go_quiet (fail)
      go_wp2
      go_ret
      rw [HL.out.spec]
      exact ⟨by rw [HO.out]; simp, HL.out.rd.drewN nq, HL.out.grown.trans (grownN wr nq _)⟩
    | cons c r =>
      have hpl := pos_lt hL.rd.suf
      have hg := pos_get hL.rd.suf hpl
      have HC := Lib.hid (pos_cons hL.rd.suf)
      have HS := Lib.hid (suf_tail hL.rd.suf)
      have HF := Lib.hid hL.rd.suf
      have HAD := Lib.hid hp
      have HX := Lib.hid (pos_extract hL.rd.suf)
      have hE1 := ext_one s (pos s (c :: r)) hpl
      clear hp hL
      generalize hpp : pos s (c :: r) = p at *
      have HPP := Lib.hid hpp
      clear hpp
      have hpi : (p : Int) < (s.size : Int) := by omega
      have hpb : (p : Int) + 1 ≤ 1000000 := by omega
      have d1 : decide (p < s.size) = true := by rw [decide_eq_true_iff]; exact hpl
      have w1 : IntKind.i64.wrap ((p : Int) + 1) = (p : Int) + 1 := IntWalk.i64_in _ (by omega)
      have HG := Lib.hid hg
      have HE1 : Hid (s.extract p (p + 1) = bs [c]) := by show _ = _; rw [hE1, hg]
      have hX1 : (s.extract p (p + 1)).size = 1 := by rw [HE1.out, bs_size]; rfl
      clear hE1
      by_cases hst : c = stop
      · have e1 : (((s[p].toNat : Nat) : Int) != ((stop.toNat : Nat) : Int)) = false := by rw [hg, hst]; simp
        have HST := Lib.hid hst
        clear hst hg
        go_wp2
        go_quiet (fail)
        go_wp2
        go_ret
        rw [HL.out.spec]
        have hO : letters stop (c :: r) = .ok [] (c :: r) := by rw [HST.out]; simp [letters, lettersGo]
        rw [hO]
        exact ⟨by rw [HO.out]; simp, HL.out.rd.drewN nq, HL.out.grown.trans (grownN wr nq _)⟩
      · have e1 : (((s[p].toNat : Nat) : Int) != ((stop.toNat : Nat) : Int)) = true := by
          rw [hg, bne_iff_ne]; intro e; exact hst (UInt8.toNat_inj.1 (by omega))
        have HST := Lib.hid hst
        clear hst
        by_cases h38 : c = 38
        · have e2 : (((s[p].toNat : Nat) : Int) == 38) = true := by rw [hg, h38]; decide
          have H38 := Lib.hid h38
          clear h38 hg
          have HRF : Hid (∀ w, Calls Try.prog 121 #[.string (s.extract p s.size)] w fun e w' => e = .returned (docTuple (refSpec (c :: r))) ∧ Below w.heap.size w w') := fun w => by
            have := refDoc_any (bs (c :: r)) w (by rw [bs_size]; have := HAD.out; simp only [List.length_cons] at this ⊢; omega)
            rw [bs_data, refDoc_eq] at this
            rw [HX.out]; exact this
          have hpi2 : (p : Int) ≤ (s.size : Int) := by omega
          cases hrf : refSpec (c :: r) with
          | bad x =>
            have HXX := Lib.hid hrf
            rw [hrf] at HRF
            have hx := refSpec_bad hrf
            clear hrf
            have hO : Hid (letters stop (c :: r) = .bad x (c :: r)) := by
              show _ = _
              simp only [letters, lettersGo]; rw [if_neg HST.out, if_pos H38.out, HXX.out]
            rcases hx with rfl | rfl
            all_goals
              simp only [docTuple, Int.reduceEq, reduceIte] at HRF
              go_wp2
              go_quiet (fail)
              go_wp2
              go_quiet (fail)
              go_wp2
              refine wp_world ?_
              intro W0 hW0
              have hR0 : RR W0 b s (c :: r) 0 0 := by rw [hW0]; exact HL.out.rd.drewN _
              have hG0 : Hid (wr.grownBy W0 (some b)) := by rw [hW0]; exact grownN wr _ _
              clear hW0 c0 c1 f1 hlt
              have c0 := hR0.c0
              have c1 := hR0.c1
              rw [HPP.out] at c1
              have hlt := hR0.box.lt
              have HR0 := Lib.hid hR0
              clear hR0
              have hLL := @Later.cells W0
              refine region_later (by kernel_rfl) (by kernel_rfl) ?_
              repeat (go_big_quiet_step ((go_at_call 121; exact Later.call (HRF.out _))))
              refine wpQuiet_nil ?_
              rintro _ ⟨nx, rfl⟩
              have hR1 := HR0.out.below nx.below
              have hG1 : Hid (wr.grownBy nx.at_ (some b)) := hG0.out.trans (grownOf nx.below _)
              clear hLL c0 c1 hlt
              generalize nx.at_ = W1 at *
              clear nx
              have c1 := hR1.c1
              rw [HPP.out] at c1
              have hlt := hR1.box.lt
              have HFL : Hid (∀ y, Calls Try.prog 120 #[.pointer (some ⟨b, 0, none⟩), .int .i64 y, .int .i64 p] W1 (RGo (.tuple #[]) b s (c :: r) y p W1)) := fun y => rfail_go b s (c :: r) 0 y p W1 hR1
              clear hR1
              go_wp2_with fail
              refine (HFL.out _).mono ?_
              rintro e w' ⟨rfl, hR, hG⟩
              have HR := Lib.hid hR
              have HGG := Lib.hid hG
              clear hR hG c1
              go_wp2
              go_ret
              rw [HL.out.spec, hO.out]
              exact ⟨c :: r, rfl, by rw [HPP.out]; exact HR.out, HL.out.grown.trans (hG1.out.trans HGG.out)⟩
          | ok t n =>
            have HXX := Lib.hid hrf
            rw [hrf] at HRF
            obtain ⟨hn1, hn2⟩ := refSpec_size hrf
            have htl := refSpec_len hrf
            have HN2 := Lib.hid hn2
            have hpn : (p : Int) + (n : Int) ≤ 1000000 := by have := HAD.out; omega
            have hts : (bs t).size ≤ 4 := by rw [bs_size]; exact htl
            clear hrf
            simp only [docTuple] at HRF
            obtain ⟨T, hT⟩ : ∃ T, T = bs t := ⟨_, rfl⟩
            rw [← hT] at HRF hts
            have HT := Lib.hid hT
            clear hT
            have w2 : IntKind.i64.wrap ((p : Int) + (n : Int)) = (p : Int) + (n : Int) := IntWalk.i64_in _ (by omega)
            go_wp2
            go_quiet (fail)
            go_wp2
            go_quiet (fail)
            go_wp2
            refine wp_world ?_
            intro W0 hW0
            have hR0 : RR W0 b s (c :: r) 0 0 := by rw [hW0]; exact HL.out.rd.drewN _
            have hG0 : Hid (wr.grownBy W0 (some b)) := by rw [hW0]; exact grownN wr _ _
            clear hW0 c0 c1 f1 hlt
            have c0 := hR0.c0
            have c1 := hR0.c1
            rw [HPP.out] at c1
            have hlt := hR0.box.lt
            have HR0 := Lib.hid hR0
            clear hR0
            have hLL := @Later.cells W0
            refine region_later (by kernel_rfl) (by kernel_rfl) ?_
            repeat (go_big_quiet_step ((go_at_call 121; exact Later.call (HRF.out _))))
            refine wpQuiet_nil ?_
            rintro _ ⟨nx, rfl⟩
            have hR1 := HR0.out.below nx.below
            have hG1 : Hid (wr.grownBy nx.at_ (some b)) := hG0.out.trans (grownOf nx.below _)
            clear hLL c0 c1 hlt
            generalize nx.at_ = W1 at *
            clear nx
            have c1 := hR1.c1
            rw [HPP.out] at c1
            have f1 := hR1.box.free 1
            have hlt := hR1.box.lt
            have HR1 := Lib.hid hR1
            clear hR1
            have hsum : ¬ 9223372036854775807 < O.size + T.size := by omega
            go_wp2
            have hsf : (c :: r).drop n <:+ s.data.toList := (List.drop_suffix _ _).trans HF.out
            have hpd : pos s ((c :: r).drop n) = p + n := by
              have h1 := pos_add hsf
              have h2 := HAD.out
              have h3 := HN2.out
              rw [List.length_drop] at h1
              omega
            have hnew : RLets w (W1.setCell ⟨b, 1, none⟩ (.int .i64 ((p : Int) + (n : Int)))) b s stop l ((c :: r).drop n) (acc ++ t) := by
              refine HL.out.step HR1.out hG1.out hsf (by rw [hpd]; rfl) ?_ ?_
              · simp only [letters, lettersGo]; rw [if_neg HST.out, if_pos H38.out, HXX.out]
                simp only []
                rw [lettersGo_drop]
                obtain ⟨k, rfl⟩ : ∃ k, n = k + 1 := ⟨n - 1, by omega⟩
                rfl
              · have h3 := HN2.out
                rw [List.length_drop]; omega
            go_roundw
            case rel => exact ⟨_, _, _, rfl, by show _ = _; rw [HO.out, HT.out, bs_append], hnew⟩
            case measure => exact HL.out.less hnew (by rw [List.length_drop]; simp only [List.length_cons]; omega)
        · have e2 : (((s[p].toNat : Nat) : Int) == 38) = false := by
            rw [hg, beq_eq_false_iff_ne]; intro e; exact h38 (UInt8.toNat_inj.1 (by simpa using (by omega : c.toNat = 38)))
          have H38 := Lib.hid h38
          clear h38
          have HFL : Hid (∀ (W : World), RR W b s (c :: r) 0 0 → Calls Try.prog 120 #[.pointer (some ⟨b, 0, none⟩), .int .i64 10, .int .i64 p] W (RGo (.tuple #[]) b s (c :: r) 10 p W)) := fun W hW => rfail_go b s (c :: r) 0 10 p W hW
          by_cases h60 : c = 60 ∨ cText c = false
          · have hO : Hid (letters stop (c :: r) = .bad 10 (c :: r)) := by
              show _ = _
              simp only [letters, lettersGo]; rw [if_neg HST.out, if_neg H38.out, if_pos h60]
            by_cases h6 : c = 60
            · have e3 : (((s[p].toNat : Nat) : Int) == 60) = true := by rw [hg, h6]; decide
              clear h60 h6 hg
              go_wp2
              go_quiet (fail)
              go_wp2
              go_quiet (fail)
              go_wp2_with fail
              refine (HFL.out _ (HL.out.rd.drewN _)).mono ?_
              rintro e w' ⟨rfl, hR, hG⟩
              go_wp2
              go_ret
              rw [HL.out.spec, hO.out]
              exact ⟨c :: r, rfl, by rw [HPP.out]; exact hR, HL.out.grown.trans ((grownN wr _ _).trans hG)⟩
            · have htx : cText c = false := by rcases h60 with h | h; exact absurd h h6; exact h
              have e3 : (((s[p].toNat : Nat) : Int) == 60) = false := by
                rw [hg, beq_eq_false_iff_ne]; intro e; exact h6 (UInt8.toNat_inj.1 (by simpa using (by omega : c.toNat = 60)))
              have HT : Hid (∀ w, Calls Try.prog 26 #[.int .u8 s[p].toNat, .int .i64 16] w fun e w' => e = .returned (.bool false) ∧ w = w') := fun w => by
                have := is16_any s[p] w
                rw [show cText s[p] = false by rw [HG.out, htx]] at this; exact this
              clear h60 h6 hg htx
              go_wp2
              go_quiet (fail)
              go_wp2
              go_quiet (fail)
              go_wp2_with fail
              refine (HT.out _).mono ?_
              rintro e w' ⟨rfl, rfl⟩
              go_wp2_with fail
              refine (HFL.out _ (HL.out.rd.drewN _)).mono ?_
              rintro e w' ⟨rfl, hR, hG⟩
              go_wp2
              go_ret
              rw [HL.out.spec, hO.out]
              exact ⟨c :: r, rfl, by rw [HPP.out]; exact hR, HL.out.grown.trans ((grownN wr _ _).trans hG)⟩
          · have h6 : ¬ c = 60 := fun h => h60 (.inl h)
            have htx : cText c = true := by cases h : cText c; exact absurd (.inr h) h60; rfl
            have H60 := Lib.hid h60
            have e3 : (((s[p].toNat : Nat) : Int) == 60) = false := by
              rw [hg, beq_eq_false_iff_ne]; intro e; exact h6 (UInt8.toNat_inj.1 (by simpa using (by omega : c.toNat = 60)))
            have HT : Hid (∀ w, Calls Try.prog 26 #[.int .u8 s[p].toNat, .int .i64 16] w fun e w' => e = .returned (.bool true) ∧ w = w') := fun w => by
              have := is16_any s[p] w
              rw [show cText s[p] = true by rw [HG.out, htx]] at this; exact this
            clear h60 h6 hg htx
            have hpi2 : (p : Int) ≤ (s.size : Int) := by omega
            have hpi3 : (p : Int) + 1 ≤ (s.size : Int) := by omega
            have hsum : ¬ 9223372036854775807 < O.size + 1 := by omega
            go_wp2
            go_quiet (fail)
            go_wp2
            go_quiet (fail)
            go_wp2_with fail
            refine (HT.out _).mono ?_
            rintro e w' ⟨rfl, rfl⟩
            go_wp2
            go_quiet (fail)
            go_upto_region 18 with fail
            refine wp_world ?_
            intro W9 hW9
            have hR9 : RR W9 b s (c :: r) 0 0 := by rw [hW9]; exact (HL.out.rd.drewN _).drewN _
            have hG9 : Hid (wr.grownBy W9 (some b)) := by rw [hW9]; exact (grownN wr _ _).trans (grownN _ _ _)
            clear hW9 c0 c1 f1 hlt
            have c1 := hR9.c1
            rw [HPP.out] at c1
            have f1 := hR9.box.free 1
            have hlt := hR9.box.lt
            have HR9 := Lib.hid hR9
            clear hR9
            go_wp2
            have hnew : RLets w (W9.setCell ⟨b, 1, none⟩ (.int .i64 ((p : Int) + 1))) b s stop l r (acc ++ [c]) := by
              refine HL.out.step HR9.out hG9.out HS.out (by rw [HC.out]; rfl) ?_ ?_
              · simp only [letters, lettersGo]; rw [if_neg HST.out, if_neg H38.out, if_neg H60.out]; rfl
              · simp only [List.length_cons, List.length_nil]; omega
            go_roundw
            case rel => exact ⟨_, _, _, rfl, by show _ = _; rw [HO.out, HE1.out, bs_append], hnew⟩
            case measure => exact HL.out.less hnew (by simp)

end Go.Proofs.Ytpchljiiappmnaa
