/- The walk of Ref; its conditions stand in the theorems. -/
import Derived.Test.YtpchljiiappmnaaK10
namespace Go.Proofs.Ytpchljiiappmnaa
open Go Go.RowKit

theorem named_none (s : S) (w : World) (h : named s.data.toList = none) : Calls Try.prog 132 #[.string s] w fun e w' => e = .returned (.string ⟨#[]⟩) ∧ w = w' := by
  refine (named_any s w).mono fun e w' ⟨h1, h2⟩ => ⟨?_, h2⟩
  rw [h1]; unfold namedB; rw [h]; rfl
theorem named_some (s : S) (c : UInt8) (w : World) (h : named s.data.toList = some c) : Calls Try.prog 132 #[.string s] w fun e w' => e = .returned (.string ⟨#[c]⟩) ∧ w = w' := by
  refine (named_any s w).mono fun e w' ⟨h1, h2⟩ => ⟨?_, h2⟩
  rw [h1]; unfold namedB; rw [h]; rfl

def refTexts : List S := [⟨#[108, 116]⟩, ⟨#[103, 116]⟩, ⟨#[97, 109, 112]⟩, ⟨#[113, 117, 111, 116]⟩, ⟨#[97, 112, 111, 115]⟩]
/-- Is a word the beginning of one that is known? -/
def refAny (r : Bs) : List S → Bool
  | [] => false
  | t :: l => r.isPrefixOf t.data.toList || refAny r l
theorem refAny_eq (r : Bs) : refAny r refTexts = (r.isPrefixOf wLt || r.isPrefixOf wGt || r.isPrefixOf wAmp || r.isPrefixOf wQuot || r.isPrefixOf wApos) := by
  simp only [refAny, refTexts, Bool.or_false, Bool.or_assoc]; rfl

theorem ref_num (r : Bs) : refSpec (38 :: 35 :: r) = numSpec r := by
  simp only [refSpec]
  rw [if_neg (by simp)]
  cases r with
  | nil => rfl
  | cons x r =>
    by_cases hx : x = 120
    · subst hx; rfl
    · unfold numSpec
      simp [hx]
theorem ref_word (r : Bs) (h : r.head? ≠ some 35) : refSpec (38 :: r) = (if span cLower r = r.length then
        if refAny r refTexts then .bad 13 else .bad 12
      else match named (r.take (span cLower r)) with
        | some t => if r[span cLower r]? = some 59 then .ok [t] (span cLower r + 2) else .bad 12
        | none => .bad 12) := by
  rw [refAny_eq]
  simp only [refSpec]
  rw [if_neg (by simp)]
  split
  · simp at h
  · rfl

set_option maxRecDepth 100000 in
set_option maxHeartbeats 4000000 in
theorem ref_any (s : S) (w : World) (hs : s.size ≤ 1000000) :
    Calls Try.prog 118 #[.string s] w fun e w' => e = .returned (refTuple (refSpec s.data.toList)) ∧ Below w.heap.size w w' := by
  have hE0 := empty_data s
  by_cases h0 : s.size = 0
  · have hE : s.toList.isEmpty = true := by rw [hE0]; simpa using h0
    clear hE0
    have hd : s.data.toList = [] := List.eq_nil_of_length_eq_zero (by rw [size_data, h0])
    rw [hd]
    clear hd h0
    go_enter Try.func118, Try.ntmps118
    go_wp2
    go_ret3
    exact ⟨rfl, Below.refl _ _⟩
  · have hE : s.toList.isEmpty = false := by rw [hE0]; simpa using h0
    clear hE0
    have h1 : 0 < s.size := by omega
    have HD := Lib.hid (drop_byte s 0 h1)
    clear h0
    by_cases h38 : s[0] = 38
    rotate_left
    · have e2 : (((s[0].toNat : Nat) : Int) != 38) = true := by
        rw [bne_iff_ne]; intro e; exact h38 (UInt8.toNat_inj.1 (by simpa using (by omega : s[0].toNat = 38)))
      have HS : Hid (refSpec s.data.toList = .bad 12) := by
        have h2 := HD.out
        rw [List.drop_zero] at h2
        rw [h2]; show _ = _; simp only [refSpec]; rw [if_pos h38]
      clear h38
      go_enter Try.func118, Try.ntmps118
      go_wp2
      go_ret3
      exact ⟨by rw [HS.out]; rfl, Below.refl _ _⟩
    · have e2 : (((s[0].toNat : Nat) : Int) != 38) = false := by rw [h38]; decide
      obtain ⟨r, hr⟩ : ∃ r, s.data.toList = 38 :: r := ⟨s.data.toList.drop 1, by have := HD.out; rw [List.drop_zero, h38] at this; exact this⟩
      clear h38 HD
      have hrl : r.length + 1 = s.size := by rw [← size_data, hr]; simp
      by_cases hn : r.head? = some 35
      · obtain ⟨q, rfl⟩ : ∃ q, r = 35 :: q := by
          cases r with
          | nil => cases hn
          | cons x q => simp at hn; exact ⟨q, by rw [hn]⟩
        have HX : Hid ((⟨#[38, 35]⟩ : ByteArray).data.toList.isPrefixOf s.data.toList = true) := by rw [hr]; rfl
        have HU : Hid ((s.extract 2 s.size).data.toList = q) := by rw [Lib.extract_to_end, hr]; rfl
        have h2 : 2 ≤ s.size := by simp at hrl; omega
        have hus : (s.extract 2 s.size).size ≤ 1000000 := by rw [← size_data, HU.out]; simp at hrl; omega
        have HS : Hid (refSpec s.data.toList = numSpec q) := by rw [hr]; exact ref_num q
        clear hr hn
        go_enter Try.func118, Try.ntmps118
        go_wp2_with (go_at_call 113; refine (hasPrefix_any _ _ _).mono ?_; rintro e w' ⟨rfl, rfl⟩; rw [HX.out])
        generalize s.extract 2 s.size = u at *
        refine (number_any u _ hus).mono ?_
        rintro e w' ⟨rfl, hb⟩
        rw [HU.out]
        cases hq : numSpec q
        all_goals
          have HQ := Lib.hid hq
          clear hq
          simp only [refTuple]
          go_wp2
          go_ret3
          exact ⟨by rw [HS.out, HQ.out]; rfl, hb⟩
      · have HX : Hid ((⟨#[38, 35]⟩ : ByteArray).data.toList.isPrefixOf s.data.toList = false) := by
          rw [hr]; show ([38, 35] : Bs).isPrefixOf (38 :: r) = false
          cases r with
          | nil => rfl
          | cons x q => simp only [List.head?_cons, Option.some.injEq] at hn; simp [List.isPrefixOf, Ne.symm hn]
        have HU : Hid ((s.extract 1 s.size).data.toList = r) := by rw [Lib.extract_to_end, hr]; rfl
        have hus : (s.extract 1 s.size).size ≤ 1000000 := by rw [← size_data, HU.out]; omega
        have hN := span_le cLower r
        have hrw := ref_word r hn
        rw [← hr] at hrw
        have HS := Lib.hid hrw
        clear hrw
        have HV : Hid ((s.extract 1 (1 + span cLower r)).data.toList = r.take (span cLower r)) := by
          rw [Lib.extract_data, hr]; show _ = _; simp
        have hvs : (s.extract 1 (1 + span cLower r)).size ≤ 1000000 := by rw [← size_data, HV.out, List.length_take]; omega
        have HSP : Hid (∀ w, Calls Try.prog 103 #[.string (s.extract 1 s.size), .func (.func 131) #[] #[]] w fun e w' => e = .returned (.int .i64 (span cLower r)) ∧ w = w') := fun w => by
          have := spanLower_any (s.extract 1 s.size) w (by omega)
          rw [HU.out] at this; exact this
        have hget : ∀ h : 1 + span cLower r < s.size, r[span cLower r]? = some (s[1 + span cLower r]'h) := fun h => by
          have := congrArg (·[0]?) (drop_byte s (1 + span cLower r) h)
          rw [hr] at this
          simpa [Nat.add_comm 1] using this
        clear hn hr HU hus
        generalize hNN : span cLower r = N at *
        clear hNN
        have n1 : (1 : Int) ≤ 1 + (N : Int) := by omega
        by_cases hend : N = r.length
        · have e1 : (1 + (N : Int) == (s.size : Int)) = true := beq_iff_eq.2 (by omega)
          have hn1 : 1 + N ≤ s.size := by omega
          have HE := Lib.hid hend
          clear hget hend
          have HTK : Hid (r.take N = r) := by rw [HE.out]; exact List.take_length
          have HA : Hid (∀ j (h : j < 5), ∀ w, Calls Try.prog 113 #[.string (refTexts[j]'h), .string (s.extract 1 (1 + N))] w fun e w' => e = .returned (.bool (r.isPrefixOf (refTexts[j]'h).data.toList)) ∧ w = w') := fun j h w => by
            have := hasPrefix_any (refTexts[j]'h) (s.extract 1 (1 + N)) w
            rw [HV.out, HTK.out] at this; exact this
          have hcells : ∀ j (h : j < 5), (w.alloc (.cells #[.string ⟨#[108, 116]⟩, .string ⟨#[103, 116]⟩, .string ⟨#[97, 109, 112]⟩, .string ⟨#[113, 117, 111, 116]⟩, .string ⟨#[97, 112, 111, 115]⟩] 9)).cell? ⟨w.heap.size, j, none⟩ = some (.string (refTexts[j]'h)) := fun j h => by
            match j, h with
            | 0, _ => simp [go_sem, refTexts]
            | 1, _ => simp [go_sem, refTexts]
            | 2, _ => simp [go_sem, refTexts]
            | 3, _ => simp [go_sem, refTexts]
            | 4, _ => simp [go_sem, refTexts]
          have HC := Lib.hid hcells
          clear hcells
          go_enter Try.func118, Try.ntmps118
          go_wp2_with (first | (go_at_call 113; refine (hasPrefix_any _ _ _).mono ?_; rintro e w' ⟨rfl, rfl⟩; rw [HX.out]) | (go_at_call 103; refine (HSP.out _).mono ?_; rintro e w' ⟨rfl, rfl⟩))
          generalize s.extract 1 (1 + N) = v at *
          go_loop [8, 40] (fun _ i => ∃ j : Nat, j ≤ 5 ∧ i = .int .i64 j ∧ Hid (refAny r refTexts = refAny r (refTexts.drop j))) (fun _ i => 5 - (intOf i).toNat)
          case atStart => exact ⟨0, by omega, rfl, rfl⟩
          case round =>
            obtain ⟨j, hj, rfl, H⟩ := hrel
            by_cases hj5 : j < 5
            · have hcell := HC.out j hj5
              have HD : Hid (refAny r (refTexts.drop j) = (r.isPrefixOf (refTexts[j]'hj5).data.toList || refAny r (refTexts.drop (j + 1)))) := by
                rw [List.drop_eq_getElem_cons (show j < refTexts.length from hj5)]; rfl
              have HAj := Lib.hid (HA.out j hj5)
              generalize refTexts[j]'hj5 = t at *
              cases hp : r.isPrefixOf t.data.toList
              all_goals
                have HP := Lib.hid hp
                clear hp
                go_wp2_with (go_at_call 113; refine (HAj.out _).mono ?_; rintro e w' ⟨rfl, rfl⟩; rw [HP.out])
              · go_round
                case rel => exact ⟨j + 1, by omega, by go_num, by show _ = _; rw [H.out, HD.out, HP.out]; rfl⟩
                case measure => simp [intOf]; omega
              · go_ret3
                exact ⟨by rw [HS.out, if_pos HE.out, H.out, HD.out, HP.out]; rfl, (Below.refl _ _).alloc (Nat.le_refl _) _⟩
            · obtain rfl : j = 5 := by omega
              go_wp2
              go_ret3
              exact ⟨by rw [HS.out, if_pos HE.out, H.out]; rfl, (Below.refl _ _).alloc (Nat.le_refl _) _⟩
        · have e1 : (1 + (N : Int) == (s.size : Int)) = false := beq_eq_false_iff_ne.2 (by omega)
          have hlt : 1 + N < s.size := by omega
          have hc := hget hlt
          have HC := Lib.hid hc
          clear hget hc
          have HE := Lib.hid hend
          clear hend
          cases hm : named (r.take N) with
          | none =>
            have HM := Lib.hid hm
            have HNM : Hid (∀ w, Calls Try.prog 132 #[.string (s.extract 1 (1 + N))] w fun e w' => e = .returned (.string ⟨#[]⟩) ∧ w = w') := fun w => named_none _ w (by rw [HV.out]; exact hm)
            clear hm
            go_enter Try.func118, Try.ntmps118
            go_wp2_with (first | (go_at_call 113; refine (hasPrefix_any _ _ _).mono ?_; rintro e w' ⟨rfl, rfl⟩; rw [HX.out]) | (go_at_call 103; refine (HSP.out _).mono ?_; rintro e w' ⟨rfl, rfl⟩) | (go_at_call 132; refine (HNM.out _).mono ?_; rintro e w' ⟨rfl, rfl⟩))
            go_ret3
            exact ⟨by rw [HS.out, if_neg HE.out, HM.out]; rfl, Below.refl _ _⟩
          | some c =>
            have HM := Lib.hid hm
            have HNM : Hid (∀ w, Calls Try.prog 132 #[.string (s.extract 1 (1 + N))] w fun e w' => e = .returned (.string ⟨#[c]⟩) ∧ w = w') := fun w => named_some _ c w (by rw [HV.out]; exact hm)
            clear hm
            by_cases h59 : s[1 + N] = 59
            · have e3 : (((s[1 + N].toNat : Nat) : Int) == 59) = true := by rw [h59]; decide
              have HT := Lib.hid h59
              clear h59
              go_enter Try.func118, Try.ntmps118
              go_wp2_with (first | (go_at_call 113; refine (hasPrefix_any _ _ _).mono ?_; rintro e w' ⟨rfl, rfl⟩; rw [HX.out]) | (go_at_call 103; refine (HSP.out _).mono ?_; rintro e w' ⟨rfl, rfl⟩) | (go_at_call 132; refine (HNM.out _).mono ?_; rintro e w' ⟨rfl, rfl⟩))
              go_ret3
              exact ⟨by rw [HS.out, if_neg HE.out, HM.out]; simp only []; rw [if_pos (by rw [HC.out, HT.out])]; simp only [refTuple]; rw [show ((N + 2 : Nat) : Int) = (N : Int) + 2 by omega]; rfl, Below.refl _ _⟩
            · have e3 : (((s[1 + N].toNat : Nat) : Int) == 59) = false := by
                rw [beq_eq_false_iff_ne]; intro e; exact h59 (UInt8.toNat_inj.1 (by simpa using (by omega : s[1 + N].toNat = 59)))
              have HT := Lib.hid h59
              clear h59
              go_enter Try.func118, Try.ntmps118
              go_wp2_with (first | (go_at_call 113; refine (hasPrefix_any _ _ _).mono ?_; rintro e w' ⟨rfl, rfl⟩; rw [HX.out]) | (go_at_call 103; refine (HSP.out _).mono ?_; rintro e w' ⟨rfl, rfl⟩) | (go_at_call 132; refine (HNM.out _).mono ?_; rintro e w' ⟨rfl, rfl⟩))
              go_ret3
              exact ⟨by rw [HS.out, if_neg HE.out, HM.out]; simp only []; rw [if_neg (by rw [HC.out]; simpa using HT.out)]; rfl, Below.refl _ _⟩

end Go.Proofs.Ytpchljiiappmnaa
