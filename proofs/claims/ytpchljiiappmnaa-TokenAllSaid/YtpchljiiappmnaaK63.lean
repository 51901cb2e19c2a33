/- Walks of the document's begins and Letter; the conditions stand in the theorems. -/
import Derived.Test.YtpchljiiappmnaaK62
namespace Go.Proofs.Ytpchljiiappmnaa
open Go Go.RowKit

theorem take_pre (l t : Bs) : decide (l.take t.length = t) = t.isPrefixOf l := by
  by_cases hpre : t <+: l
  · rw [List.isPrefixOf_iff_prefix.2 hpre, decide_eq_true_iff]
    exact (List.prefix_iff_eq_take.1 hpre).symm
  · have : t.isPrefixOf l = false := by
      cases hh : t.isPrefixOf l
      · rfl
      · exact absurd (List.isPrefixOf_iff_prefix.1 hh) hpre
    rw [this, decide_eq_false_iff_not]
    intro h2
    exact hpre (List.prefix_iff_eq_take.2 h2.symm)

set_option maxRecDepth 100000 in
set_option maxHeartbeats 1000000 in
theorem begins1_any (s t : S) (w : World) :
    Calls Try.prog 133 #[.string s, .string t] w fun e w' => e = .returned (.bool (t.data.toList.isPrefixOf s.data.toList)) ∧ w = w' := by
  have h1 := size_data s
  have h2 := size_data t
  by_cases hk : t.size ≤ s.size
  · have d1 : decide (t.size ≤ s.size) = true := by rw [decide_eq_true_iff]; exact hk
    have HV : Hid (((s.extract 0 t.size).toList == t.toList) = t.data.toList.isPrefixOf s.data.toList) := by
      show _ = _
      have h3 : s.extract 0 t.size = bs (s.data.toList.take t.size) := by rw [Lib.extract_eq]; rfl
      have h4 := bs_beq (s.data.toList.take t.size) t.data.toList
      rw [data_bs] at h4
      rw [h3, h4, ← h2]
      exact take_pre _ _
    have d2 : (t.size : Int) ≤ (s.size : Int) := by omega
    clear h1 h2
    go_enter Try.func133, Try.ntmps133
    go_wp2
    go_ret
    exact ⟨ret_bool HV.out, rfl⟩
  · have d1 : decide (t.size ≤ s.size) = false := by rw [decide_eq_false_iff_not]; exact hk
    have HV : Hid (t.data.toList.isPrefixOf s.data.toList = false) := by
      show _ = _
      cases hh : t.data.toList.isPrefixOf s.data.toList
      · rfl
      · have := (List.isPrefixOf_iff_prefix.1 hh).length_le
        omega
    clear h1 h2
    go_enter Try.func133, Try.ntmps133
    go_wp2
    all_goals first | (exfalso; omega) | (go_ret; exact ⟨ret_bool HV.out.symm, rfl⟩)

set_option maxRecDepth 100000 in
set_option maxHeartbeats 1000000 in
theorem rletter_no (n : Int) (w : World) (h : okLetter n = false) : Calls Try.prog 134 #[.int .i64 n] w fun e w' => e = .returned (.string ⟨#[]⟩) ∧ w = w' := by
  simp only [okLetter, decide_eq_false_iff_not] at h
  have e1 : (n == 9) = false := beq_eq_false_iff_ne.2 (by omega)
  have e2 : (n == 10) = false := beq_eq_false_iff_ne.2 (by omega)
  have e3 : (n == 13) = false := beq_eq_false_iff_ne.2 (by omega)
  have n1 : ¬ n = 9 := by omega
  have n2 : ¬ n = 10 := by omega
  have n3 : ¬ n = 13 := by omega
  have hb : n < 32 ∨ 1114111 < n ∨ (55296 ≤ n ∧ n ≤ 57343) := by omega
  clear h
  rcases hb with h1 | h1 | ⟨h1, h2⟩
  all_goals
    go_enter Try.func134, Try.ntmps134
    go_wp2
    all_goals first | (exfalso; omega) | (go_ret; exact ⟨rfl, rfl⟩)

end Go.Proofs.Ytpchljiiappmnaa
