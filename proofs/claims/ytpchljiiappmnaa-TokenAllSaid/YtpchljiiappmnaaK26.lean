/- Plain laws on all tokens of a text: each takes a byte or more; their places rise; no program in sight. -/
import Derived.Test.YtpchljiiappmnaaK2
import Derived.Test.YtpchljiiappmnaaK1
namespace Go.Proofs.Ytpchljiiappmnaa
open Go Go.RowKit

theorem plain_less {til l s r : Bs} (h : plain til l = .ok s r) : r.length + til.length ≤ l.length := by
  induction l generalizing s with
  | nil =>
    simp only [plain] at h
    split at h
    · rename_i h1
      have := (List.isPrefixOf_iff_prefix.1 h1).length_le
      cases h; simpa using this
    · cases h
  | cons c l ih =>
    simp only [plain] at h
    split at h
    · rename_i h1
      have := (List.isPrefixOf_iff_prefix.1 h1).length_le
      cases h; rw [List.length_drop]; omega
    · split at h
      · cases hp : plain til l with
        | bad e r' => rw [hp] at h; cases h
        | ok s' r' => rw [hp] at h; cases h; have := ih hp; simp only [List.length_cons]; omega
      · cases h
theorem nameR_len {e : Int} {l nm r : Bs} (h : nameR e l = .ok nm r) : r.length + 1 ≤ l.length := by
  cases l with
  | nil => cases h
  | cons c l =>
    simp only [nameR] at h
    split at h
    · cases h
    · cases h; rw [List.length_drop]; simp only [List.length_cons]; omega
theorem suf_of_ok {α : Type} {x : Res α} {l : Bs} {a : α} {r : Bs} (hs : x.Suf l) (h : x = .ok a r) : r <:+ l := by rw [h] at hs; exact hs
theorem letters_less {stop c : UInt8} {l s r : Bs} (h : letters stop (c :: l) = .ok s r) (hc : c ≠ stop) : r.length ≤ l.length := by
  simp only [letters, lettersGo] at h
  rw [if_neg hc] at h
  split at h
  · cases hr : refSpec (c :: l) with
    | bad e => rw [hr] at h; cases h
    | ok t n =>
      rw [hr] at h
      cases hg : lettersGo stop (n - 1) l with
      | bad e r' => simp only [hg, Res.map] at h; cases h
      | ok s' r' => simp only [hg, Res.map] at h; cases h; exact List.IsSuffix.length_le (suf_of_ok (lettersGo_suf stop (n - 1) l) hg)
  · split at h
    · cases h
    · cases hg : lettersGo stop 0 l with
      | bad e r' => simp only [hg, Res.map] at h; cases h
      | ok s' r' => simp only [hg, Res.map] at h; cases h; exact List.IsSuffix.length_le (suf_of_ok (lettersGo_suf stop 0 l) hg)
theorem map_ok {α β : Type} {x : Res α} {f : α → β} {b : β} {r : Bs} (h : x.map f = .ok b r) : ∃ a, x = .ok a r ∧ b = f a := by
  cases x with
  | ok a r' => simp only [Res.map] at h; cases h; exact ⟨a, rfl, rfl⟩
  | bad e r' => cases h
theorem bind_ok {α β : Type} {x : Res α} {f : α → Bs → Res β} {b : β} {r : Bs} (h : x.bind f = .ok b r) : ∃ a r', x = .ok a r' ∧ f a r' = .ok b r := by
  cases x with
  | ok a r' => exact ⟨a, r', rfl, h⟩
  | bad e r' => cases h
theorem closeR_less {l : Bs} {t : Tk} {r : Bs} (h : closeR l = .ok t r) : r.length ≤ l.length := List.IsSuffix.length_le (suf_of_ok (closeR_suf l) h)
theorem openR_less {l : Bs} {t : Tk} {r : Bs} (h : openR l = .ok t r) : r.length ≤ l.length := List.IsSuffix.length_le (suf_of_ok (openR_suf l) h)

theorem tokenR_less {first : Bool} {l : Bs} {t : Tk} {r : Bs} (h : tokenR first l = .ok t r) (hl : l ≠ []) : r.length < l.length := by
  have hpos : 0 < l.length := List.length_pos_iff.2 hl
  unfold tokenR at h
  split at h
  · obtain ⟨a, h1, -⟩ := map_ok h
    have := plain_less h1
    rw [List.length_drop] at this
    simp [eNote] at this; omega
  · split at h
    · obtain ⟨a, h1, -⟩ := map_ok h
      have := plain_less h1
      rw [List.length_drop] at this
      simp [eData] at this; omega
    · split at h
      · obtain ⟨a, h1, -⟩ := map_ok h
        have := plain_less h1
        rw [List.length_drop] at this
        simp [eHead] at this; omega
      · split at h
        · have := closeR_less h; simp only [List.length_cons]; omega
        · have := openR_less h; simp only [List.length_cons]; omega
        · rename_i hx hy
          obtain ⟨a, h1, -⟩ := map_ok h
          cases l with
          | nil => exact absurd rfl hl
          | cons c l =>
            have := letters_less h1 (fun e => hy l (by rw [e]))
            simp only [List.length_cons]; omega

/-- The tokens so far stand one behind the other, all ahead of what is left. -/
def Falls (T : Bs) (acc : List (Tk × Bs)) (l : Bs) : Prop := acc.Pairwise (fun a b => b.2 <:+ a.2 ∧ b.2.length < a.2.length) ∧ ∀ a ∈ acc, l <:+ a.2 ∧ l.length < a.2.length ∧ a.2 <:+ T
theorem Falls.nil (T l : Bs) : Falls T [] l := ⟨List.Pairwise.nil, by simp⟩
theorem Falls.snoc {T : Bs} {acc : List (Tk × Bs)} {l r : Bs} (h : Falls T acc l) (hl : l <:+ T) (hr : r <:+ l) (hlt : r.length < l.length) (t : Tk) : Falls T (acc ++ [(t, l)]) r := by
  refine ⟨?_, ?_⟩
  · rw [List.pairwise_append]
    refine ⟨h.1, List.pairwise_singleton _ _, fun a ha b hb => ?_⟩
    simp at hb; subst hb
    exact ⟨(h.2 a ha).1, (h.2 a ha).2.1⟩
  · intro a ha
    rcases List.mem_append.1 ha with ha | ha
    · obtain ⟨h1, h2, h3⟩ := h.2 a ha
      exact ⟨hr.trans h1, by omega, h3⟩
    · simp at ha; subst ha; exact ⟨hr, hlt, hl⟩

theorem allGo_falls {T : Bs} (f : Nat) (first : Bool) (acc : List (Tk × Bs)) (l : Bs) (hl : l <:+ T) (h : Falls T acc l) {res : List (Tk × Bs)} {r : Bs} (hr : allGo f first acc l = .ok res r) : Falls T res [] ∧ r = [] := by
  induction f generalizing first acc l with
  | zero =>
    cases l with
    | nil => simp only [allGo] at hr; cases hr; exact ⟨h, rfl⟩
    | cons c l => cases hr
  | succ f ih =>
    cases l with
    | nil => simp only [allGo] at hr; cases hr; exact ⟨h, rfl⟩
    | cons c l =>
      simp only [allGo] at hr
      cases ht : tokenR first (c :: l) with
      | bad e r' => rw [ht] at hr; cases hr
      | ok t r' =>
        rw [ht] at hr
        have hs := suf_of_ok (tokenR_suf first (c :: l)) ht
        exact ih false _ r' (hs.trans hl) (h.snoc hl hs (tokenR_less ht (by simp)) t) hr

end Go.Proofs.Ytpchljiiappmnaa
