/- Plain law: what is printed of a text's tokens is at most six times as long as the text; no program in sight. -/
import Derived.Test.YtpchljiiappmnaaK52
import Derived.Test.YtpchljiiappmnaaK49
namespace Go.Proofs.Ytpchljiiappmnaa
open Go Go.RowKit

theorem refSpec_less {s t : Bs} {n : Nat} (h : refSpec s = .ok t n) : t.length ≤ n := by
  have h4 := refSpec_len h
  have hn : ∀ hex a d, numRef hex a d = .ok t n → 2 ≤ a → t.length ≤ n := by
    intro hex a d h ha
    have := numRef_min h
    omega
  cases s with
  | nil => cases h
  | cons c r =>
    simp only [refSpec] at h
    split at h
    · cases h
    · split at h
      · split at h
        · exact hn _ _ _ h (by decide)
        · exact hn _ _ _ h (by decide)
      · split at h
        · split at h <;> cases h
        · split at h
          · split at h
            · cases h; simp
            · cases h
          · cases h
theorem letters_eat {stop : UInt8} (n : Nat) : ∀ {l s r : Bs}, l.length ≤ n → lettersGo stop 0 l = .ok s r → s.length + r.length ≤ l.length := by
  induction n with
  | zero =>
    intro l s r hn h
    have : l = [] := List.eq_nil_of_length_eq_zero (by omega)
    subst this
    cases h; simp
  | succ n ih =>
    intro l s r hn h
    cases l with
    | nil => cases h; simp
    | cons c l =>
      simp only [List.length_cons] at hn
      simp only [lettersGo] at h
      split at h
      · cases h; simp
      · split at h
        · cases hr : refSpec (c :: l) with
          | bad e => rw [hr] at h; cases h
          | ok t k =>
            rw [hr] at h
            obtain ⟨a, h1, rfl⟩ := map_ok h
            obtain ⟨k1, k2⟩ := refSpec_size hr
            have k3 := refSpec_less hr
            rw [lettersGo_drop] at h1
            have := ih (by rw [List.length_drop]; omega) h1
            rw [List.length_drop] at this
            simp only [List.length_cons, List.length_append] at k2 ⊢
            omega
        · split at h
          · cases h
          · obtain ⟨a, h1, rfl⟩ := map_ok h
            have := ih (by omega) h1
            simp only [List.length_cons]; omega
theorem nameR_eat {e : Int} {l nm r : Bs} (h : nameR e l = .ok nm r) : nm.length + r.length = l.length := by
  cases l with
  | nil => cases h
  | cons c l =>
    simp only [nameR] at h
    split at h
    · cases h
    · cases h
      have := nameLen_le (c :: l)
      rw [List.length_take, List.length_drop]; omega
theorem wantC_eat {c : UInt8} {l r : Bs} {u : Unit} (h : wantC c l = .ok u r) : r.length + 1 = l.length := by
  cases l with
  | nil => cases h
  | cons x l => simp only [wantC] at h; split at h <;> cases h; simp
theorem valueR_eat {l s r : Bs} (h : valueR l = .ok s r) : s.length + r.length + 2 ≤ l.length := by
  cases l with
  | nil => cases h
  | cons q l =>
    simp only [valueR] at h
    split at h
    · obtain ⟨a, r1, h1, h2⟩ := bind_ok h
      have := letters_eat l.length (Nat.le_refl _) h1
      split at h2
      · cases h2
      · cases h2; simp only [List.length_cons] at this ⊢; omega
    · cases h
def attsE (l : List At2) : Nat := (l.map fun a => a.1.length + a.2.length + 4).sum
theorem attsE_app (l m : List At2) : attsE (l ++ m) = attsE l + attsE m := by unfold attsE; rw [List.map_append, List.sum_append]
theorem attsW_E (l : List At2) : attsW l ≤ 6 * attsE l := by
  induction l with
  | nil => exact Nat.le_refl _
  | cons a l ih => unfold attsW attsE at *; simp only [List.map_cons, List.sum_cons]; omega
theorem attrR_eat {acc : List At2} {l r : Bs} {a : At2} (h : attrR acc l = .ok a r) : a.1.length + a.2.length + 3 + r.length ≤ l.length := by
  rw [attrR_eq] at h
  obtain ⟨nm, r1, h1, h2⟩ := bind_ok h
  split at h2
  · cases h2
  · unfold restR at h2
    obtain ⟨_, r2, h3, h4⟩ := bind_ok h2
    obtain ⟨v, h5, rfl⟩ := map_ok h4
    have e1 := nameR_eat h1
    have e2 := wantC_eat h3
    have e3 := valueR_eat h5
    have e4 := blanks_le r1
    have e5 := blanks_le r2
    simp only; omega
theorem attrsGo_eat (f : Nat) (acc : List At2) (l : Bs) {res : List At2} {r : Bs} (h : attrsGo f acc l = .ok res r) : attsE res + r.length ≤ attsE acc + l.length := by
  induction f generalizing acc l with
  | zero => cases h
  | succ f ih =>
    simp only [attrsGo] at h
    split at h
    · cases h; have := blanks_le l; omega
    · rename_i ht
      cases ha : attrR acc (blanks l) with
      | bad e r' => rw [ha] at h; cases h
      | ok a r' =>
        rw [ha] at h
        have e1 := attrR_eat ha
        have e2 := ih _ _ h
        have e3 := blanks_le l
        have e4 : (blanks l).length ≠ l.length := by
          intro e
          apply ht
          unfold tagEnds
          rw [e]; simp
        rw [attsE_app] at e2
        have e5 : attsE [a] = a.1.length + a.2.length + 4 := by simp [attsE]
        omega
theorem openR_eat {l r : Bs} {t : Tk} (h : openR l = .ok t r) : t.name.length + attsE t.attrs + 1 + r.length ≤ l.length ∧ t.text = [] := by
  rw [openR_eq] at h
  obtain ⟨nm, r1, h1, h2⟩ := bind_ok h
  obtain ⟨ats, r2, h3, h4⟩ := bind_ok h2
  have e1 := nameR_eat h1
  have e2 := attrsGo_eat _ _ _ h3
  have e0 : attsE [] = 0 := rfl
  cases r2 with
  | nil => cases h4
  | cons c r2 =>
    by_cases hc : c = 47
    · subst hc
      rw [endR_47] at h4
      obtain ⟨_, h5, rfl⟩ := map_ok h4
      have := wantC_eat h5
      simp only [List.length_cons] at e2
      exact ⟨by simp only; omega, rfl⟩
    · rw [endR_no nm ats r2 hc] at h4
      obtain ⟨_, h5, rfl⟩ := map_ok h4
      have := wantC_eat h5
      exact ⟨by simp only; omega, rfl⟩
theorem closeR_eat {l r : Bs} {t : Tk} (h : closeR l = .ok t r) : t.kind = 3 ∧ t.name.length + 1 + r.length ≤ l.length ∧ t.attrs = [] ∧ t.text = [] := by
  obtain ⟨nm, r1, h1, h2⟩ := bind_ok h
  obtain ⟨_, h3, rfl⟩ := map_ok h2
  have e1 := nameR_eat h1
  have e2 := wantC_eat h3
  have e3 := blanks_le r1
  exact ⟨rfl, by simp only; omega, rfl, rfl⟩
theorem tag_len (t : Tk) (fin : Bs) : (tagP t fin).length ≤ 1 + t.name.length + attsW t.attrs + fin.length := by
  have := attsP_len t.attrs
  unfold tagP
  simp only [List.length_cons, List.length_append]; omega
/-- What a token takes of the text. -/
theorem tokenR_eat {f : Bool} {l r : Bs} {t : Tk} (h : tokenR f l = .ok t r) (hl : l ≠ []) : (tokP t).length + 6 * r.length ≤ 6 * l.length ∧ tkW t + 26 * r.length ≤ 26 * l.length := by
  have hless := tokenR_less h hl
  unfold tokenR at h
  split at h
  · rename_i hp
    obtain ⟨s, h1, rfl⟩ := map_ok h
    have e1 := congrArg List.length (plain_again h1).2.1
    obtain ⟨z, hz⟩ := List.isPrefixOf_iff_prefix.1 hp
    have e2 := congrArg List.length hz
    have e0 : tokP ⟨5, [], [], s⟩ = sNote ++ (s ++ eNote) := by unfold tokP; rw [if_pos rfl]
    rw [e0]
    unfold tkW
    simp only [List.length_append, List.length_drop, sNote, eNote, List.length_cons, List.length_nil, attsW, List.map_nil, List.sum_nil] at *
    omega
  · split at h
    · rename_i hp
      obtain ⟨s, h1, rfl⟩ := map_ok h
      have e1 := congrArg List.length (plain_again h1).2.1
      obtain ⟨z, hz⟩ := List.isPrefixOf_iff_prefix.1 hp
      have e2 := congrArg List.length hz
      have e3 := (esc_len false s).2
      rw [tokP_4 rfl]
      unfold tkW
      simp only [List.length_append, List.length_drop, sData, eData, List.length_cons, List.length_nil, attsW, List.map_nil, List.sum_nil] at *
      omega
    · split at h
      · rename_i hh
        obtain ⟨s, h1, rfl⟩ := map_ok h
        have e1 := congrArg List.length (plain_again h1).2.1
        rw [Bool.and_eq_true] at hh
        have hh2 := hh.2
        unfold isHead at hh2
        rw [Bool.and_eq_true] at hh2
        obtain ⟨z, hz⟩ := List.isPrefixOf_iff_prefix.1 hh2.1
        have e2 := congrArg List.length hz
        have e0 : tokP ⟨6, [], [], s⟩ = sHead ++ (s ++ eHead) := by unfold tokP; rw [if_neg (by simp), if_pos rfl]
        rw [e0]
        unfold tkW
        simp only [List.length_append, List.length_drop, sHead, eHead, List.length_cons, List.length_nil, attsW, List.map_nil, List.sum_nil] at *
        omega
      · split at h
        · obtain ⟨hk, e1, e2, e3⟩ := closeR_eat h
          have e0 : tokP t = [60, 47] ++ (t.name ++ [62]) := by unfold tokP; rw [hk]; simp
          rw [e0]
          unfold tkW
          rw [e2, e3]
          simp only [List.length_append, List.length_cons, List.length_nil, attsW, List.map_nil, List.sum_nil]
          omega
        · obtain ⟨e1, e2⟩ := openR_eat h
          have hw := attsW_E t.attrs
          have hlen : (tokP t).length ≤ 3 + t.name.length + attsW t.attrs := by
            rcases openR_kind h with hk | hk
            · have e0 : tokP t = tagP t [62] := by unfold tokP; rw [hk]; simp
              have := tag_len t [62]
              rw [e0]; simp at this; omega
            · have e0 : tokP t = tagP t [47, 62] := by unfold tokP; rw [hk]; simp
              have := tag_len t [47, 62]
              rw [e0]; simp at this; omega
          unfold tkW
          rw [e2]
          simp only [List.length_cons, List.length_nil] at *
          omega
        · obtain ⟨s, h1, rfl⟩ := map_ok h
          have e1 := letters_eat l.length (Nat.le_refl _) h1
          have e3 := (esc_len false s).2
          rw [tokP_4 rfl]
          unfold tkW
          simp only [List.length_nil, attsW, List.map_nil, List.sum_nil] at *
          omega
theorem allGo_eat (n : Nat) (f : Bool) (acc : List (Tk × Bs)) (l : Bs) {res : List (Tk × Bs)} {r : Bs} (h : allGo n f acc l = .ok res r) : (printP (res.map (·.1))).length ≤ (printP (acc.map (·.1))).length + 6 * l.length ∧ tksW (res.map (·.1)) ≤ tksW (acc.map (·.1)) + 26 * l.length := by
  induction n generalizing f acc l with
  | zero => cases l with
    | nil => cases h; exact ⟨by omega, by omega⟩
    | cons c l => cases h
  | succ n ih =>
    cases l with
    | nil => cases h; exact ⟨by omega, by omega⟩
    | cons c l =>
      simp only [allGo] at h
      cases ht : tokenR f (c :: l) with
      | bad e r' => rw [ht] at h; cases h
      | ok t r' =>
        rw [ht] at h
        obtain ⟨i1, i2⟩ := ih _ _ _ h
        obtain ⟨j1, j2⟩ := tokenR_eat ht (by simp)
        have k1 : (printP ((acc ++ [(t, c :: l)]).map (·.1))).length = (printP (acc.map (·.1))).length + (tokP t).length := by
          rw [List.map_append, printP_app, List.length_append]; simp [printP]
        have k2 : tksW ((acc ++ [(t, c :: l)]).map (·.1)) = tksW (acc.map (·.1)) + tkW t := by
          unfold tksW; rw [List.map_append, List.map_append, List.sum_append]; simp
        rw [k1] at i1
        rw [k2] at i2
        omega
theorem allR_eat {T : Bs} {acc : List (Tk × Bs)} {r : Bs} (h : allR T = .ok acc r) : (printP (acc.map (·.1))).length ≤ 6 * T.length ∧ tksW (acc.map (·.1)) ≤ 26 * T.length := by
  have := allGo_eat _ _ _ _ h
  simpa [printP, tksW] using this

end Go.Proofs.Ytpchljiiappmnaa
