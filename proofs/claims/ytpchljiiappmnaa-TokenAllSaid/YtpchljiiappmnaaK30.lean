/- Plain laws: what kind a token is by how it begins; where the first one stands; no program in sight. -/
import Derived.Test.YtpchljiiappmnaaK26
namespace Go.Proofs.Ytpchljiiappmnaa
open Go Go.RowKit

/-- Does a text or CDATA begin here? -/
def textStart (l : Bs) : Bool := !(l.head? == some 60) || sData.isPrefixOf l

theorem pre_head {p l : Bs} {c : UInt8} (h : (c :: p).isPrefixOf l = true) : ∃ r, l = c :: r ∧ p.isPrefixOf r = true := by
  cases l with
  | nil => cases h
  | cons x r =>
    simp only [List.isPrefixOf, Bool.and_eq_true, beq_iff_eq] at h
    exact ⟨r, by rw [h.1], h.2⟩

theorem openR_kind {l : Bs} {t : Tk} {r : Bs} (h : openR l = .ok t r) : t.kind = 1 ∨ t.kind = 2 := by
  unfold openR at h
  obtain ⟨nm, r1, -, h⟩ := bind_ok h
  obtain ⟨ats, r2, -, h⟩ := bind_ok h
  split at h
  · obtain ⟨_, -, rfl⟩ := map_ok h; exact .inr rfl
  · obtain ⟨_, -, rfl⟩ := map_ok h; exact .inl rfl
theorem closeR_kind {l : Bs} {t : Tk} {r : Bs} (h : closeR l = .ok t r) : t.kind = 3 := by
  unfold closeR at h
  obtain ⟨nm, r1, -, h⟩ := bind_ok h
  obtain ⟨_, -, rfl⟩ := map_ok h; rfl

theorem tokenR_kind {first : Bool} {l : Bs} {t : Tk} {r : Bs} (h : tokenR first l = .ok t r) (hl : l ≠ []) : decide (t.kind = 4) = textStart l := by
  unfold tokenR at h
  split at h
  · rename_i h1
    obtain ⟨_, -, rfl⟩ := map_ok h
    obtain ⟨r1, rfl, h2⟩ := pre_head h1
    obtain ⟨r2, rfl, h3⟩ := pre_head h2
    obtain ⟨r3, rfl, h4⟩ := pre_head h3
    simp [textStart, sData, List.isPrefixOf]
  · split at h
    · rename_i h1
      obtain ⟨_, -, rfl⟩ := map_ok h
      simp [textStart, h1]
    · rename_i h0 h1
      split at h
      · rename_i h2
        obtain ⟨_, -, rfl⟩ := map_ok h
        rw [Bool.and_eq_true] at h2
        have h3 := h2.2
        unfold isHead at h3
        rw [Bool.and_eq_true] at h3
        obtain ⟨r1, rfl, -⟩ := pre_head h3.1
        simp [textStart, h1]
      · split at h
        · have := closeR_kind h; simp [textStart, h1, this]
        · rcases openR_kind h with h | h <;> simp [textStart, h1, h]
        · rename_i hx hy
          obtain ⟨_, -, rfl⟩ := map_ok h
          cases l with
          | nil => exact absurd rfl hl
          | cons c l =>
            have : c ≠ 60 := fun e => hy l (by rw [e])
            simp [textStart, this]

/-- Each token is one that was cut. -/
def Cuts (acc : List (Tk × Bs)) : Prop := ∀ p ∈ acc, p.2 ≠ [] ∧ ∃ first r, tokenR first p.2 = .ok p.1 r
theorem allGo_cuts (f : Nat) (first : Bool) (acc : List (Tk × Bs)) (l : Bs) (h : Cuts acc) {res : List (Tk × Bs)} {r : Bs} (hr : allGo f first acc l = .ok res r) : Cuts res ∧ (∃ more, res = acc ++ more) ∧ (l ≠ [] → ∃ t, res[acc.length]? = some (t, l)) := by
  induction f generalizing first acc l with
  | zero =>
    cases l with
    | nil => simp only [allGo] at hr; cases hr; exact ⟨h, ⟨[], by simp⟩, fun h => absurd rfl h⟩
    | cons c l => cases hr
  | succ f ih =>
    cases l with
    | nil => simp only [allGo] at hr; cases hr; exact ⟨h, ⟨[], by simp⟩, fun h => absurd rfl h⟩
    | cons c l =>
      simp only [allGo] at hr
      cases ht : tokenR first (c :: l) with
      | bad e r' => rw [ht] at hr; cases hr
      | ok t r' =>
        rw [ht] at hr
        obtain ⟨h1, ⟨more, h2⟩, -⟩ := ih false _ r' (fun p hp => by
          rcases List.mem_append.1 hp with hp | hp
          · exact h p hp
          · simp at hp; subst hp; exact ⟨by simp, first, r', ht⟩) hr
        refine ⟨h1, ⟨(t, c :: l) :: more, by rw [h2]; simp⟩, fun _ => ⟨t, by rw [h2]; simp⟩⟩

/-- What is known of the tokens of a text. -/
theorem allR_facts {T : Bs} {acc : List (Tk × Bs)} {r : Bs} (h : allR T = .ok acc r) : Falls T acc [] ∧ r = [] ∧ Cuts acc ∧ (T = [] → acc = []) ∧ (T ≠ [] → ∃ t, acc[0]? = some (t, T)) := by
  unfold allR at h
  obtain ⟨h1, h2⟩ := allGo_falls T.length true [] T (List.suffix_refl _) (Falls.nil _ _) h
  obtain ⟨h3, -, h5⟩ := allGo_cuts T.length true [] T (by intro p hp; cases hp) h
  refine ⟨h1, h2, h3, fun hT => ?_, h5⟩
  subst hT
  simp only [List.length_nil, allGo] at h
  cases h; rfl

/-- Whatever goes wrong has a number of its own. -/
def Res.NZ {α : Type} : Res α → Prop
  | .ok _ _ => True
  | .bad e _ => e ≠ 0
theorem Res.NZ.map {α β : Type} {x : Res α} (f : α → β) (h : x.NZ) : (x.map f).NZ := by cases x <;> exact h
theorem Res.NZ.bind {α β : Type} {x : Res α} {f : α → Bs → Res β} (h : x.NZ) (hf : ∀ a r, (f a r).NZ) : (x.bind f).NZ := by
  cases x with
  | ok a r => exact hf a r
  | bad e r => exact h
theorem wantC_nz (c : UInt8) (l : Bs) : (wantC c l).NZ := by
  cases l with
  | nil => show (13 : Int) ≠ 0; decide
  | cons x l => simp only [wantC]; split; trivial; show (10 : Int) ≠ 0; decide
theorem nameR_nz {e : Int} (he : e ≠ 0) (l : Bs) : (nameR e l).NZ := by
  cases l with
  | nil => show (13 : Int) ≠ 0; decide
  | cons x l => simp only [nameR]; split; exact he; trivial
theorem plain_nz (til l : Bs) : (plain til l).NZ := by
  induction l with
  | nil => simp only [plain]; split; trivial; show (13 : Int) ≠ 0; decide
  | cons c l ih =>
    simp only [plain]
    split
    · trivial
    · split
      · exact ih.map _
      · show (10 : Int) ≠ 0; decide
theorem refBad_nz {s : Bs} {e : Int} (h : refSpec s = .bad e) : e ≠ 0 := by
  have hn : ∀ hex a d, numRef hex a d = .bad e → e ≠ 0 := by
    intro hex a d h
    unfold numRef at h
    by_cases h1 : 8 < span (isDig hex) d
    · rw [if_pos h1] at h; cases h; decide
    · rw [if_neg h1] at h
      by_cases h2 : span (isDig hex) d = d.length
      · rw [if_pos h2] at h; cases h; decide
      · rw [if_neg h2] at h
        by_cases h3 : span (isDig hex) d = 0 ∨ d[span (isDig hex) d]? ≠ some 59
        · rw [if_pos h3] at h; cases h; decide
        · rw [if_neg h3] at h
          split at h
          · cases h
          · cases h; decide
  cases s with
  | nil => cases h; decide
  | cons c r =>
    simp only [refSpec] at h
    by_cases hc : c = 38
    · rw [if_neg (by simp [hc])] at h
      split at h
      · split at h
        · exact hn _ _ _ h
        · exact hn _ _ _ h
      · by_cases hl : span cLower r = r.length
        · rw [if_pos hl] at h
          split at h <;> (cases h; decide)
        · rw [if_neg hl] at h
          split at h
          · split at h
            · cases h
            · cases h; decide
          · cases h; decide
    · rw [if_pos hc] at h; cases h; decide
theorem lettersGo_nz (stop : UInt8) (k : Nat) (l : Bs) : (lettersGo stop k l).NZ := by
  induction l generalizing k with
  | nil => cases k <;> trivial
  | cons c l ih =>
    cases k with
    | succ k => exact ih k
    | zero =>
      simp only [lettersGo]
      split
      · trivial
      · split
        · cases hr : refSpec (c :: l) with
          | ok t n => exact (ih _).map _
          | bad e => exact refBad_nz hr
        · split
          · show (10 : Int) ≠ 0; decide
          · exact (ih 0).map _
theorem valueR_nz (l : Bs) : (valueR l).NZ := by
  cases l with
  | nil => show (13 : Int) ≠ 0; decide
  | cons q l =>
    simp only [valueR]
    split
    · refine Res.NZ.bind (lettersGo_nz q 0 l) fun s r => ?_
      cases r with
      | nil => show (13 : Int) ≠ 0; decide
      | cons x r => trivial
    · show (10 : Int) ≠ 0; decide
theorem attrR_nz (acc : List At2) (l : Bs) : (attrR acc l).NZ := by
  refine Res.NZ.bind (nameR_nz (by decide) l) fun nm r => ?_
  split
  · show (15 : Int) ≠ 0; decide
  · exact Res.NZ.bind (wantC_nz _ _) fun _ r' => (valueR_nz _).map _
theorem attrsGo_nz (f : Nat) (acc : List At2) (l : Bs) : (attrsGo f acc l).NZ := by
  induction f generalizing acc l with
  | zero => show (13 : Int) ≠ 0; decide
  | succ f ih =>
    simp only [attrsGo]
    split
    · trivial
    · have := attrR_nz acc (blanks l)
      cases h : attrR acc (blanks l) with
      | ok a r => exact ih _ r
      | bad e r => rw [h] at this; exact this
theorem tokenR_nz (first : Bool) (l : Bs) : (tokenR first l).NZ := by
  unfold tokenR
  split
  · exact (plain_nz _ _).map _
  · split
    · exact (plain_nz _ _).map _
    · split
      · exact (plain_nz _ _).map _
      · split
        · exact Res.NZ.bind (nameR_nz (by decide) _) fun _ r => (wantC_nz _ _).map _
        · refine Res.NZ.bind (nameR_nz (by decide) _) fun nm r => Res.NZ.bind (attrsGo_nz _ _ r) fun ats r' => ?_
          split
          · exact (wantC_nz _ _).map _
          · exact (wantC_nz _ _).map _
        · exact (lettersGo_nz _ _ _).map _
theorem allGo_nz (f : Nat) (first : Bool) (acc : List (Tk × Bs)) (l : Bs) : (allGo f first acc l).NZ := by
  induction f generalizing first acc l with
  | zero =>
    cases l with
    | nil => trivial
    | cons c l => show (13 : Int) ≠ 0; decide
  | succ f ih =>
    cases l with
    | nil => trivial
    | cons c l =>
      simp only [allGo]
      have := tokenR_nz first (c :: l)
      cases h : tokenR first (c :: l) with
      | ok t r => exact ih _ _ r
      | bad e r => rw [h] at this; exact this
theorem allR_bad_ne {T : Bs} {x : Int} {r : Bs} (h : allR T = .bad x r) : x ≠ 0 := by
  have := allGo_nz T.length true [] T
  unfold allR at h
  rw [h] at this; exact this

end Go.Proofs.Ytpchljiiappmnaa
