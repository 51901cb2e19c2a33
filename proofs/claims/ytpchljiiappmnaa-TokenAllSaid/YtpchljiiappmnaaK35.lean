/- Plain laws: what is escaped is read as it is; tags of any names and values; CDATA; no program in sight. -/
import Derived.Test.YtpchljiiappmnaaK30
namespace Go.Proofs.Ytpchljiiappmnaa
open Go Go.RowKit

def escC (attr : Bool) (c : UInt8) : Bs :=
  if c = 38 then [38, 97, 109, 112, 59] else if c = 60 then [38, 108, 116, 59] else if c = 62 then [38, 103, 116, 59]
  else if c = 13 then [38, 35, 49, 51, 59] else if attr && c == 34 then [38, 113, 117, 111, 116, 59]
  else if attr && c == 9 then [38, 35, 57, 59] else if attr && c == 10 then [38, 35, 49, 48, 59] else [c]
def esc (attr : Bool) (l : Bs) : Bs := l.flatMap (escC attr)
def aposC (c : UInt8) : Bs := if c = 39 then [38, 97, 112, 111, 115, 59] else [c]
def aposR (l : Bs) : Bs := l.flatMap aposC

theorem escC_len (attr : Bool) (c : UInt8) : 1 ≤ (escC attr c).length ∧ (escC attr c).length ≤ 6 := by
  unfold escC; repeat' split
  all_goals simp
theorem esc_len (attr : Bool) (l : Bs) : l.length ≤ (esc attr l).length ∧ (esc attr l).length ≤ 6 * l.length := by
  induction l with
  | nil => exact ⟨Nat.le_refl _, Nat.le_refl _⟩
  | cons c l ih =>
    have := escC_len attr c
    unfold esc at *
    rw [List.flatMap_cons, List.length_append, List.length_cons]
    omega
theorem aposC_len (c : UInt8) : 1 ≤ (aposC c).length ∧ (aposC c).length ≤ 6 := by
  unfold aposC; split <;> simp
theorem aposR_len (l : Bs) : (aposR l).length ≤ 6 * l.length := by
  induction l with
  | nil => exact Nat.le_refl _
  | cons c l ih =>
    have := aposC_len c
    unfold aposR at *
    rw [List.flatMap_cons, List.length_append, List.length_cons]
    omega

theorem ref_amp (r : Bs) : refSpec (38 :: 97 :: 109 :: 112 :: 59 :: r) = .ok [38] 5 := by
  rw [← refDoc_eq]; simp [refDoc, refW, refWords, wLt, wGt, wAmp, wQuot, wApos, List.isPrefixOf]
theorem ref_lt (r : Bs) : refSpec (38 :: 108 :: 116 :: 59 :: r) = .ok [60] 4 := by
  rw [← refDoc_eq]; simp [refDoc, refW, refWords, wLt, wGt, wAmp, wQuot, wApos, List.isPrefixOf]
theorem ref_gt (r : Bs) : refSpec (38 :: 103 :: 116 :: 59 :: r) = .ok [62] 4 := by
  rw [← refDoc_eq]; simp [refDoc, refW, refWords, wLt, wGt, wAmp, wQuot, wApos, List.isPrefixOf]
theorem ref_quot (r : Bs) : refSpec (38 :: 113 :: 117 :: 111 :: 116 :: 59 :: r) = .ok [34] 6 := by
  rw [← refDoc_eq]; simp [refDoc, refW, refWords, wLt, wGt, wAmp, wQuot, wApos, List.isPrefixOf]
theorem ref_apos (r : Bs) : refSpec (38 :: 97 :: 112 :: 111 :: 115 :: 59 :: r) = .ok [39] 6 := by
  rw [← refDoc_eq]; simp [refDoc, refW, refWords, wLt, wGt, wAmp, wQuot, wApos, List.isPrefixOf]
theorem ref_13 (r : Bs) : refSpec (38 :: 35 :: 49 :: 51 :: 59 :: r) = .ok [13] 5 := by
  have h : span (isDig false) (49 :: 51 :: 59 :: r) = 2 := by simp [span, isDig, digitV, cDigit]
  simp only [refSpec, numRef, h]
  simp [numV, digitV, cDigit, baseOf, okLetter, letterB, letterN]
theorem ref_9 (r : Bs) : refSpec (38 :: 35 :: 57 :: 59 :: r) = .ok [9] 4 := by
  have h : span (isDig false) (57 :: 59 :: r) = 1 := by simp [span, isDig, digitV, cDigit]
  simp only [refSpec, numRef, h]
  simp [numV, digitV, cDigit, baseOf, okLetter, letterB, letterN]
theorem ref_10 (r : Bs) : refSpec (38 :: 35 :: 49 :: 48 :: 59 :: r) = .ok [10] 5 := by
  have h : span (isDig false) (49 :: 48 :: 59 :: r) = 2 := by simp [span, isDig, digitV, cDigit]
  simp only [refSpec, numRef, h]
  simp [numV, digitV, cDigit, baseOf, okLetter, letterB, letterN]

/-- Letters e are read as the letters d, whatever follows. -/
def Reads (stop : UInt8) (e d : Bs) : Prop := ∀ r, lettersGo stop 0 (e ++ r) = (lettersGo stop 0 r).map (d ++ ·)
theorem Reads.nil (stop : UInt8) : Reads stop [] [] := fun r => by
  show lettersGo stop 0 r = _
  cases lettersGo stop 0 r <;> rfl
theorem Reads.append {stop : UInt8} {e d e' d' : Bs} (h : Reads stop e d) (h' : Reads stop e' d') : Reads stop (e ++ e') (d ++ d') := fun r => by
  rw [List.append_assoc, h, h']
  cases lettersGo stop 0 r <;> simp [Res.map, List.append_assoc]
theorem reads_ref {stop : UInt8} (hs : stop ≠ 38) {e : Bs} {c : UInt8} (h : ∀ r, refSpec (38 :: (e ++ r)) = .ok [c] (e.length + 1)) : Reads stop (38 :: e) [c] := fun r => by
  show lettersGo stop 0 (38 :: (e ++ r)) = _
  simp only [lettersGo]
  rw [if_neg (Ne.symm hs), if_pos trivial, h]
  simp only [Nat.add_sub_cancel]
  rw [lettersGo_drop, List.drop_left]
theorem reads_one {stop c : UInt8} (h1 : c ≠ stop) (h2 : c ≠ 38) (h3 : c ≠ 60) (h4 : cText c = true) : Reads stop [c] [c] := fun r => by
  show lettersGo stop 0 (c :: r) = _
  simp only [lettersGo]
  rw [if_neg h1, if_neg h2, if_neg (by simp [h3, h4])]
  rfl
theorem reads_esc {attr : Bool} {stop c : UInt8} (hs : stop ≠ 38) (h1 : stop = 60 ∨ (attr = true ∧ stop = 34)) (h : cText c = true) : Reads stop (escC attr c) [c] := by
  unfold escC
  by_cases h38 : c = 38
  · rw [if_pos h38]; subst h38; exact reads_ref hs ref_amp
  by_cases h60 : c = 60
  · rw [if_neg h38, if_pos h60]; subst h60; exact reads_ref hs ref_lt
  by_cases h62 : c = 62
  · rw [if_neg h38, if_neg h60, if_pos h62]; subst h62; exact reads_ref hs ref_gt
  by_cases h13 : c = 13
  · rw [if_neg h38, if_neg h60, if_neg h62, if_pos h13]; subst h13; exact reads_ref hs ref_13
  rw [if_neg h38, if_neg h60, if_neg h62, if_neg h13]
  by_cases h34 : (attr && c == 34) = true
  · rw [if_pos h34]; simp at h34; obtain ⟨-, rfl⟩ := h34; exact reads_ref hs ref_quot
  rw [if_neg h34]
  by_cases h9 : (attr && c == 9) = true
  · rw [if_pos h9]; simp at h9; obtain ⟨-, rfl⟩ := h9; exact reads_ref hs ref_9
  rw [if_neg h9]
  by_cases h10 : (attr && c == 10) = true
  · rw [if_pos h10]; simp at h10; obtain ⟨-, rfl⟩ := h10; exact reads_ref hs ref_10
  rw [if_neg h10]
  refine reads_one ?_ h38 h60 h
  rcases h1 with rfl | ⟨rfl, rfl⟩
  · exact h60
  · intro e; subst e; simp at h34
theorem reads_escs {attr : Bool} {stop : UInt8} (hs : stop ≠ 38) (h1 : stop = 60 ∨ (attr = true ∧ stop = 34)) (l : Bs) (h : ∀ c ∈ l, cText c = true) : Reads stop (esc attr l) l := by
  induction l with
  | nil => exact Reads.nil stop
  | cons c l ih =>
    show Reads stop (escC attr c ++ esc attr l) ([c] ++ l)
    exact (reads_esc hs h1 (h c (by simp))).append (ih fun x hx => h x (by simp [hx]))
theorem aposR_append (l m : Bs) : aposR (l ++ m) = aposR l ++ aposR m := by unfold aposR; rw [List.flatMap_append]
theorem aposR_id (l : Bs) (h : (39 : UInt8) ∉ l) : aposR l = l := by
  induction l with
  | nil => rfl
  | cons c l ih =>
    simp only [List.mem_cons, not_or] at h
    show aposC c ++ aposR l = _
    rw [ih h.2]; unfold aposC; rw [if_neg (Ne.symm h.1)]; rfl
theorem reads_apos {c : UInt8} (h : cText c = true) : Reads 39 (aposR (escC true c)) [c] := by
  by_cases h39 : c = 39
  · subst h39; exact reads_ref (by decide) ref_apos
  have hn : (39 : UInt8) ∉ escC true c := by
    unfold escC; repeat' split
    all_goals first | decide | (simp; exact Ne.symm h39)
  rw [aposR_id _ hn]
  unfold escC
  by_cases h38 : c = 38
  · rw [if_pos h38]; subst h38; exact reads_ref (by decide) ref_amp
  by_cases h60 : c = 60
  · rw [if_neg h38, if_pos h60]; subst h60; exact reads_ref (by decide) ref_lt
  by_cases h62 : c = 62
  · rw [if_neg h38, if_neg h60, if_pos h62]; subst h62; exact reads_ref (by decide) ref_gt
  by_cases h13 : c = 13
  · rw [if_neg h38, if_neg h60, if_neg h62, if_pos h13]; subst h13; exact reads_ref (by decide) ref_13
  rw [if_neg h38, if_neg h60, if_neg h62, if_neg h13]
  by_cases h34 : (true && c == 34) = true
  · rw [if_pos h34]; simp at h34; subst h34; exact reads_ref (by decide) ref_quot
  rw [if_neg h34]
  by_cases h9 : (true && c == 9) = true
  · rw [if_pos h9]; simp at h9; subst h9; exact reads_ref (by decide) ref_9
  rw [if_neg h9]
  by_cases h10 : (true && c == 10) = true
  · rw [if_pos h10]; simp at h10; subst h10; exact reads_ref (by decide) ref_10
  rw [if_neg h10]
  exact reads_one h39 h38 h60 h
theorem reads_aposs (l : Bs) (h : ∀ c ∈ l, cText c = true) : Reads 39 (aposR (esc true l)) l := by
  induction l with
  | nil => exact Reads.nil 39
  | cons c l ih =>
    show Reads 39 (aposR (escC true c ++ esc true l)) ([c] ++ l)
    rw [aposR_append]
    exact (reads_apos (h c (by simp))).append (ih fun x hx => h x (by simp [hx]))

theorem esc_head (attr : Bool) (l : Bs) : (esc attr l).head? ≠ some 60 := by
  cases l with
  | nil => simp [esc]
  | cons c l =>
    show (escC attr c ++ esc attr l).head? ≠ some 60
    unfold escC; repeat' split
    all_goals simp_all
theorem esc_ne (attr : Bool) {l : Bs} (h : l ≠ []) : esc attr l ≠ [] := by
  intro e
  have := (esc_len attr l).1
  rw [e] at this
  exact h (List.eq_nil_of_length_eq_zero (by simpa using this))

theorem tokenR_text (first : Bool) {l : Bs} (h : l.head? ≠ some 60) : tokenR first l = (letters 60 l).map fun t => ⟨4, [], [], t⟩ := by
  unfold tokenR
  cases l with
  | nil => simp [sNote, sData, isHead, sHead]
  | cons c l =>
    have hc : c ≠ 60 := by simpa using h
    have h1 : sNote.isPrefixOf (c :: l) = false := by simp [sNote, List.isPrefixOf, Ne.symm hc]
    have h2 : sData.isPrefixOf (c :: l) = false := by simp [sData, List.isPrefixOf, Ne.symm hc]
    have h3 : isHead (c :: l) = false := by simp [isHead, sHead, List.isPrefixOf, Ne.symm hc]
    rw [h1, h2, h3]
    simp only [Bool.false_eq_true, if_false, Bool.and_false]
    split
    · rename_i h; cases h; exact absurd rfl hc
    · rename_i h; cases h; exact absurd rfl hc
    · rfl

theorem letters_reads {stop : UInt8} {e d : Bs} (h : Reads stop e d) (r : Bs) : letters stop (e ++ stop :: r) = .ok d (stop :: r) := by
  show lettersGo stop 0 _ = _
  rw [h]; simp [lettersGo, Res.map]
theorem letters_reads_end {stop : UInt8} {e d : Bs} (h : Reads stop e d) : letters stop e = .ok d [] := by
  have := h []
  rw [List.append_nil] at this
  show lettersGo stop 0 _ = _
  rw [this]; simp [lettersGo, Res.map]

theorem allGo_step {f : Nat} {first : Bool} {acc : List (Tk × Bs)} {l r : Bs} {t : Tk} (hl : l ≠ []) (h : tokenR first l = .ok t r) : allGo (f + 1) first acc l = allGo f false (acc ++ [(t, l)]) r := by
  cases l with
  | nil => exact absurd rfl hl
  | cons c l => simp only [allGo]; rw [h]
theorem allGo_nil (f : Nat) (first : Bool) (acc : List (Tk × Bs)) : allGo f first acc [] = .ok acc [] := by cases f <;> rfl

theorem open_a (E : Bs) : tokenR true (60 :: 97 :: 47 :: 62 :: E) = .ok ⟨2, [97], [], []⟩ E := by
  have h1 : nameLen (97 :: 47 :: 62 :: E) = 1 := by simp [nameLen, span, cFirst, cName, cDigit]
  have h2 : attrsR (47 :: 62 :: E) = .ok [] (47 :: 62 :: E) := by
    unfold attrsR
    simp [attrsGo, tagEnds, blanks, cBlank]
  have h3 : sNote.isPrefixOf (60 :: 97 :: 47 :: 62 :: E) = false := by simp [sNote, List.isPrefixOf]
  have h4 : sData.isPrefixOf (60 :: 97 :: 47 :: 62 :: E) = false := by simp [sData, List.isPrefixOf]
  have h5 : isHead (60 :: 97 :: 47 :: 62 :: E) = false := by simp [isHead, sHead, List.isPrefixOf]
  unfold tokenR
  rw [h3, h4, h5]
  simp only [Bool.false_eq_true, if_false, Bool.and_false]
  simp [openR, nameR, h1, Res.bind, h2, wantC, Res.map]

/-- What TokenPlain asks of an escaped text. -/
theorem plain_esc_nil : allR [60, 97, 47, 62] = .ok [(⟨2, [97], [], []⟩, [60, 97, 47, 62])] [] := by
  unfold allR
  show allGo (3 + 1) true [] _ = _
  rw [allGo_step (by simp) (open_a [])]; rfl
theorem plain_esc (l : Bs) (h : ∀ c ∈ l, cText c = true) (hl : l ≠ []) :
    allR (60 :: 97 :: 47 :: 62 :: esc false l) = .ok [(⟨2, [97], [], []⟩, 60 :: 97 :: 47 :: 62 :: esc false l), (⟨4, [], [], l⟩, esc false l)] [] := by
  have h1 : letters 60 (esc false l) = .ok l [] := letters_reads_end (reads_escs (by decide) (.inl rfl) l h)
  have h2 : tokenR false (esc false l) = .ok ⟨4, [], [], l⟩ [] := by rw [tokenR_text false (esc_head false l), h1]; rfl
  unfold allR
  show allGo ((esc false l).length + 2 + 1 + 1) true [] _ = _
  rw [allGo_step (by simp) (open_a _), allGo_step (esc_ne false hl) h2, allGo_nil]; rfl

/-- No end of CDATA stands within. -/
def noEnd : Bs → Bool
  | [] => true
  | c :: l => !eData.isPrefixOf (c :: l) && noEnd l
theorem plain_data (l : Bs) (h : ∀ c ∈ l, cText c = true) (hn : noEnd l = true) (hl : l.getLast? ≠ some 93) : plain eData (l ++ eData) = .ok l [] := by
  induction l with
  | nil => rfl
  | cons c l ih =>
    simp only [noEnd, Bool.and_eq_true, Bool.not_eq_true'] at hn
    have hp : eData.isPrefixOf (c :: (l ++ eData)) = false := by
      cases l with
      | nil =>
        have hc : c ≠ 93 := by simpa using hl
        simp [eData, List.isPrefixOf]
      | cons x l => cases l with
        | nil => simp [eData, List.isPrefixOf]
        | cons y l => have h1 := hn.1; simpa [eData, List.isPrefixOf] using h1
    show plain eData (c :: (l ++ eData)) = _
    simp only [plain]
    rw [hp, if_neg (by decide), if_pos (h c (by simp)), ih (fun x hx => h x (by simp [hx])) hn.2]
    · rfl
    · cases l with
      | nil => simp
      | cons x l => simpa using hl
theorem plain_cdata (l : Bs) (h : ∀ c ∈ l, cText c = true) (hn : noEnd l = true) (hl : l.getLast? ≠ some 93) :
    allR (sData ++ (l ++ eData)) = .ok [(⟨4, [], [], l⟩, sData ++ (l ++ eData))] [] := by
  have h0 : tokenR true (sData ++ (l ++ eData)) = .ok ⟨4, [], [], l⟩ [] := by
    unfold tokenR
    have h3 : sNote.isPrefixOf (sData ++ (l ++ eData)) = false := by simp [sNote, sData, List.isPrefixOf]
    have h4 : sData.isPrefixOf (sData ++ (l ++ eData)) = true := by simp [sData, List.isPrefixOf]
    rw [h3, h4]
    simp only [Bool.false_eq_true, if_false, if_true]
    rw [show (sData ++ (l ++ eData)).drop 9 = l ++ eData from rfl, plain_data l h hn hl]; rfl
  unfold allR
  rw [show (sData ++ (l ++ eData)).length = (l ++ eData).length + 8 + 1 by simp [sData]]
  rw [allGo_step (by simp [sData]) h0, allGo_nil]; rfl

end Go.Proofs.Ytpchljiiappmnaa
