/- Plain laws on what a text is cut into: what is left is an end of the text; no program in sight. -/
import Derived.Test.YtpchljiiappmnaaK0
import Derived.Lib.Strings
namespace Go.Proofs.Ytpchljiiappmnaa
open Go Go.RowKit

theorem span_le (p : UInt8 → Bool) (l : Bs) : span p l ≤ l.length := by
  induction l with
  | nil => simp [span]
  | cons c l ih => simp only [span, List.length_cons]; split <;> omega
theorem nameLen_le (l : Bs) : nameLen l ≤ l.length := by
  cases l with
  | nil => simp [nameLen]
  | cons c l => simp only [nameLen]; split; exact span_le _ _; omega
theorem span_lt {p : UInt8 → Bool} {l : Bs} {i : Nat} (h : i < span p l) : ∃ c, l[i]? = some c ∧ p c = true := by
  induction l generalizing i with
  | nil => simp [span] at h
  | cons c l ih =>
    simp only [span] at h
    split at h
    · rename_i hp
      cases i with
      | zero => exact ⟨c, rfl, hp⟩
      | succ i => simpa using ih (by omega)
    · omega
theorem span_end {p : UInt8 → Bool} {l : Bs} {c : UInt8} (h : l[span p l]? = some c) : p c = false := by
  induction l with
  | nil => simp [span] at h
  | cons x l ih =>
    simp only [span] at h
    split at h
    · exact ih (by simpa using h)
    · simp at h; subst h; simpa using ‹¬ p x = true›
theorem span_eq {p : UInt8 → Bool} {l : Bs} {n : Nat} (h1 : ∀ i c, i < n → l[i]? = some c → p c = true) (h2 : ∀ c, l[n]? = some c → p c = false) (hn : n ≤ l.length) : span p l = n := by
  rcases Nat.lt_trichotomy (span p l) n with h | h | h
  · have hl : span p l < l.length := by omega
    have := h1 _ l[span p l] h (by simp [hl])
    rw [span_end (p := p) (l := l) (by simp [hl])] at this
    cases this
  · exact h
  · obtain ⟨c, h3, h4⟩ := span_lt h
    rw [h2 c h3] at h4; cases h4

theorem blanks_suf (l : Bs) : blanks l <:+ l := by
  induction l with
  | nil => exact List.suffix_refl _
  | cons c l ih => simp only [blanks]; split; exact ih.trans (List.suffix_cons c l); exact List.suffix_refl _
theorem blanks_le (l : Bs) : (blanks l).length ≤ l.length := (blanks_suf l).length_le
theorem blanks_head {l : Bs} {c : UInt8} {r : Bs} (h : blanks l = c :: r) : cBlank c = false := by
  induction l with
  | nil => cases h
  | cons x l ih =>
    simp only [blanks] at h
    split at h
    · exact ih h
    · cases h; simpa using ‹¬ cBlank c = true›

/-- What is left of a result is an end of what there was. -/
def Res.Suf {α : Type} (l : Bs) : Res α → Prop
  | .ok _ r => r <:+ l
  | .bad _ r => r <:+ l
theorem Res.Suf.map {α β : Type} {l : Bs} {x : Res α} (f : α → β) (h : x.Suf l) : (x.map f).Suf l := by cases x <;> exact h
theorem Res.Suf.trans {α : Type} {l l' : Bs} {x : Res α} (h : x.Suf l) (h' : l <:+ l') : x.Suf l' := by cases x <;> exact List.IsSuffix.trans h h'
theorem Res.Suf.bind {α β : Type} {l : Bs} {x : Res α} {f : α → Bs → Res β} (h : x.Suf l) (hf : ∀ a r, x = .ok a r → (f a r).Suf r) : (x.bind f).Suf l := by
  cases x with
  | ok a r => exact (hf a r rfl).trans h
  | bad e r => exact h

theorem wantC_suf (c : UInt8) (l : Bs) : (wantC c l).Suf l := by
  cases l with
  | nil => exact List.suffix_refl _
  | cons x l => simp only [wantC]; split; exact List.suffix_cons x l; exact List.suffix_refl _
theorem nameR_suf (e : Int) (l : Bs) : (nameR e l).Suf l := by
  cases l with
  | nil => exact List.suffix_refl _
  | cons x l => simp only [nameR]; split; exact List.suffix_refl _; exact List.drop_suffix _ _
theorem plain_suf (til l : Bs) : (plain til l).Suf l := by
  induction l with
  | nil => simp only [plain]; split; exact List.drop_suffix _ _; exact List.suffix_refl _
  | cons c l ih =>
    simp only [plain]
    split
    · exact List.drop_suffix _ _
    · split
      · exact (ih.trans (List.suffix_cons c l)).map _
      · exact List.suffix_refl _
theorem lettersGo_suf (stop : UInt8) (k : Nat) (l : Bs) : (lettersGo stop k l).Suf l := by
  induction l generalizing k with
  | nil => cases k <;> exact List.suffix_refl _
  | cons c l ih =>
    cases k with
    | succ k => exact (ih k).trans (List.suffix_cons c l)
    | zero =>
      simp only [lettersGo]
      split
      · exact List.suffix_refl _
      · split
        · cases refSpec (c :: l) with
          | ok t n => exact ((ih _).trans (List.suffix_cons c l)).map _
          | bad e => exact List.suffix_refl _
        · split
          · exact List.suffix_refl _
          · exact ((ih 0).trans (List.suffix_cons c l)).map _
theorem lettersGo_drop (stop : UInt8) (k : Nat) (l : Bs) : lettersGo stop k l = lettersGo stop 0 (l.drop k) := by
  induction l generalizing k with
  | nil => cases k <;> rfl
  | cons c l ih =>
    cases k with
    | zero => rfl
    | succ k => simp only [lettersGo, List.drop_succ_cons]; exact ih k
/-- Behind letters there is nothing, or the byte. -/
theorem lettersGo_end {stop : UInt8} {k : Nat} {l s r : Bs} (h : lettersGo stop k l = .ok s r) : r = [] ∨ ∃ r', r = stop :: r' := by
  induction l generalizing k s with
  | nil => cases k <;> (cases h; exact .inl rfl)
  | cons c l ih =>
    cases k with
    | succ k => exact ih h
    | zero =>
      simp only [lettersGo] at h
      split at h
      · rename_i hc; cases h; exact .inr ⟨l, by rw [hc]⟩
      · split at h
        · cases hr : refSpec (c :: l) with
          | ok t n =>
            rw [hr] at h
            cases hg : lettersGo stop (n - 1) l with
            | ok s' r' => simp only [hg, Res.map] at h; cases h; exact ih hg
            | bad e r' => simp only [hg, Res.map] at h; cases h
          | bad e => rw [hr] at h; cases h
        · split at h
          · cases h
          · cases hg : lettersGo stop 0 l with
            | ok s' r' => simp only [hg, Res.map] at h; cases h; exact ih hg
            | bad e r' => simp only [hg, Res.map] at h; cases h
theorem letters_suf (stop : UInt8) (l : Bs) : (letters stop l).Suf l := lettersGo_suf stop 0 l
theorem valueR_suf (l : Bs) : (valueR l).Suf l := by
  cases l with
  | nil => exact List.suffix_refl _
  | cons q l =>
    simp only [valueR]
    split
    · refine Res.Suf.trans (Res.Suf.bind (letters_suf q l) fun s r _ => ?_) (List.suffix_cons q l)
      cases r with
      | nil => exact List.suffix_refl _
      | cons x r => exact List.suffix_cons x r
    · exact List.suffix_refl _
theorem attrR_suf (acc : List At2) (l : Bs) : (attrR acc l).Suf l := by
  unfold attrR
  cases h : nameR 10 l with
  | bad e r => have := nameR_suf 10 l; rw [h] at this; exact this
  | ok nm r =>
    have hs := nameR_suf 10 l
    rw [h] at hs
    simp only [Res.bind]
    split
    · exact List.suffix_refl _
    · refine Res.Suf.trans (l := r) (Res.Suf.trans (l := blanks r) (Res.Suf.bind (wantC_suf _ _) fun _ r' _ => ?_) (blanks_suf r)) hs
      exact ((valueR_suf _).map _).trans (blanks_suf r')
theorem attrsGo_suf (f : Nat) (acc : List At2) (l : Bs) : (attrsGo f acc l).Suf l := by
  induction f generalizing acc l with
  | zero => exact List.suffix_refl _
  | succ f ih =>
    simp only [attrsGo]
    split
    · exact blanks_suf l
    · cases h : attrR acc (blanks l) with
      | ok a r => have := attrR_suf acc (blanks l); rw [h] at this; exact (ih _ r).trans (List.IsSuffix.trans this (blanks_suf l))
      | bad e r => have := attrR_suf acc (blanks l); rw [h] at this; exact List.IsSuffix.trans this (blanks_suf l)
theorem attrsR_suf (l : Bs) : (attrsR l).Suf l := attrsGo_suf _ _ _
theorem closeR_suf (l : Bs) : (closeR l).Suf l := Res.Suf.bind (nameR_suf _ _) fun _ r _ => ((wantC_suf _ _).trans (blanks_suf r)).map _
theorem openR_suf (l : Bs) : (openR l).Suf l := Res.Suf.bind (nameR_suf _ _) fun nm r _ => Res.Suf.bind (attrsR_suf r) fun as r' _ => by
  split
  · exact ((wantC_suf _ _).trans (List.suffix_cons _ _)).map _
  · exact (wantC_suf _ _).map _
theorem tokenR_suf (first : Bool) (l : Bs) : (tokenR first l).Suf l := by
  unfold tokenR
  split
  · exact ((plain_suf _ _).trans (List.drop_suffix _ _)).map _
  · split
    · exact ((plain_suf _ _).trans (List.drop_suffix _ _)).map _
    · split
      · exact ((plain_suf _ _).trans (List.drop_suffix _ _)).map _
      · split
        · exact (closeR_suf _).trans ((List.suffix_cons _ _).trans (List.suffix_cons _ _))
        · exact (openR_suf _).trans (List.suffix_cons _ _)
        · exact (letters_suf _ _).map _

/-! Ends of a text and how many bytes are ahead. -/
theorem off_le (T r : Bs) : off T r ≤ T.length := by unfold off; omega
theorem off_add {T r : Bs} (h : r <:+ T) : off T r + r.length = T.length := by unfold off; have := h.length_le; omega
theorem off_drop {T r : Bs} (h : r <:+ T) : T.drop (off T r) = r := (List.suffix_iff_eq_drop.1 h).symm
theorem off_self (T : Bs) : off T T = 0 := by unfold off; omega
theorem off_nil (T : Bs) : off T [] = T.length := by unfold off; simp
theorem off_cons {T r : Bs} {c : UInt8} (h : c :: r <:+ T) : off T r = off T (c :: r) + 1 := by
  have := h.length_le
  unfold off; simp only [List.length_cons] at this ⊢; omega
theorem off_get {T r : Bs} {c : UInt8} (h : c :: r <:+ T) : T[off T (c :: r)]? = some c := by
  have := off_drop h
  have h2 := congrArg (·[0]?) this
  simpa using h2
theorem suf_tail {T r : Bs} {c : UInt8} (h : c :: r <:+ T) : r <:+ T := (List.suffix_cons c r).trans h
theorem off_suf {T r l : Bs} (h : r <:+ l) (h2 : l <:+ T) : off T r = off T l + (l.length - r.length) := by
  have := h.length_le; have := h2.length_le; unfold off; omega

theorem bs_size (l : Bs) : (bs l).size = l.length := by simp [bs, ByteArray.size]
theorem bs_data (l : Bs) : (bs l).data.toList = l := by simp [bs]
theorem data_bs (s : S) : bs s.data.toList = s := Lib.mk_data s
theorem bs_inj {l m : Bs} (h : bs l = bs m) : l = m := by rw [← bs_data l, ← bs_data m, h]
theorem bs_extract (l : Bs) (a b : Nat) : (bs l).extract a b = bs ((l.drop a).take (b - a)) := by rw [Lib.extract_eq, bs_data]; rfl
theorem bs_append (l m : Bs) : bs l ++ bs m = bs (l ++ m) := by
  apply ByteArray.ext
  simp [bs, ByteArray.data_append]

end Go.Proofs.Ytpchljiiappmnaa
