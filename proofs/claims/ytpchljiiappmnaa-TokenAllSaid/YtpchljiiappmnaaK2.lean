/- Plain law of references: the document's way to cut one and the program's are the same; no program in sight. -/
import Derived.Test.YtpchljiiappmnaaK1
namespace Go.Proofs.Ytpchljiiappmnaa
open Go Go.RowKit

def refWords : List (Bs × UInt8) := [(wLt, 60), (wGt, 62), (wAmp, 38), (wQuot, 34), (wApos, 39)]
/-- The document's loop over the words. -/
def refW : List (Bs × UInt8) → Bs → Option RefR
  | [], _ => none
  | (w, t) :: ws, s => if (38 :: (w ++ [59])).isPrefixOf s then some (.ok [t] (w.length + 2)) else if s.isPrefixOf (38 :: (w ++ [59])) then some (.bad 13) else refW ws s
/-- The document's digits: nine at most are looked at. -/
def refN (hex : Bool) (ahead : Nat) (s : Bs) : RefR :=
  if 8 < min 9 (span (isDig hex) s) then .bad 12
  else if min 9 (span (isDig hex) s) = s.length then .bad 13
  else if s[min 9 (span (isDig hex) s)]? ≠ some 59 ∨ min 9 (span (isDig hex) s) = 0 ∨ okLetter (numV hex (s.take (min 9 (span (isDig hex) s)))) = false then .bad 12
  else .ok (letterB (numV hex (s.take (min 9 (span (isDig hex) s))))) (ahead + min 9 (span (isDig hex) s) + 1)
def refDoc (s : Bs) : RefR :=
  match refW refWords s with
  | some r => r
  | none =>
    if s = [38, 35] ∨ s = [38, 35, 120] then .bad 13
    else if !([38, 35] : Bs).isPrefixOf s then .bad 12
    else if ([38, 35, 120] : Bs).isPrefixOf s then refN true 3 (s.drop 3) else refN false 2 (s.drop 2)

theorem refN_eq (hex : Bool) (ahead : Nat) (s : Bs) : refN hex ahead s = numRef hex ahead s := by
  unfold refN numRef
  by_cases h : 8 < span (isDig hex) s
  · rw [if_pos (by omega), if_pos h]
  · rw [show min 9 (span (isDig hex) s) = span (isDig hex) s by omega, if_neg h, if_neg h]
    by_cases h2 : span (isDig hex) s = s.length
    · rw [if_pos h2, if_pos h2]
    · rw [if_neg h2, if_neg h2]
      by_cases h3 : span (isDig hex) s = 0 ∨ s[span (isDig hex) s]? ≠ some 59
      · rw [if_pos h3, if_pos (by rcases h3 with h | h; exact .inr (.inl h); exact .inl h)]
      · rw [if_neg h3]
        cases h4 : okLetter (numV hex (s.take (span (isDig hex) s)))
        · simp
        · rw [if_neg (by simp only [not_or] at h3; simp [h3])]; simp

/-- A word with its end at the front. -/
theorem pre_word {w r : Bs} (hw : ∀ c ∈ w, cLower c = true) : (w ++ [59]).isPrefixOf r = (decide (r.take (span cLower r) = w) && decide (r[span cLower r]? = some 59)) := by
  have h59 : cLower 59 = false := by decide
  induction w generalizing r with
  | nil =>
    cases r with
    | nil => rfl
    | cons c r =>
      by_cases hc : cLower c
      · have : c ≠ 59 := fun e => by rw [e, h59] at hc; cases hc
        simp [span, hc, List.isPrefixOf, Ne.symm this]
      · by_cases e : c = 59
        · subst e; simp [span, h59, List.isPrefixOf]
        · simp [span, hc, List.isPrefixOf, e, Ne.symm e]
  | cons x w ih =>
    have hx := hw x (by simp)
    cases r with
    | nil => simp [span]
    | cons c r =>
      simp only [List.cons_append, List.isPrefixOf]
      rw [ih fun d hd => hw d (by simp [hd])]
      by_cases e : x = c
      · subst e; simp [span, hx]
      · have e' : (x == c) = false := by simpa using e
        rw [e', Bool.false_and]
        by_cases hc : cLower c
        · simp [span, hc, Ne.symm e]
        · simp [span, hc]

/-- An end of a text that is a beginning of a word with its end. -/
theorem pre_of_word {w r : Bs} (hw : ∀ c ∈ w, cLower c = true) : r.isPrefixOf (w ++ [59]) = ((decide (span cLower r = r.length) && r.isPrefixOf w) || decide (r = w ++ [59])) := by
  have h59 : cLower 59 = false := by decide
  induction w generalizing r with
  | nil =>
    cases r with
    | nil => simp [span]
    | cons c r =>
      by_cases hc : cLower c
      · have : c ≠ 59 := fun e => by rw [e, h59] at hc; cases hc
        simp [List.isPrefixOf, this]
      · simp [List.isPrefixOf]
        by_cases e : c = 59
        · subst e; cases r <;> simp
        · simp [e]
  | cons x w ih =>
    have hx := hw x (by simp)
    cases r with
    | nil => simp [span]
    | cons c r =>
      simp only [List.cons_append, List.isPrefixOf]
      rw [ih fun d hd => hw d (by simp [hd])]
      by_cases e : c = x
      · subst e; simp [span, hx]
      · have e' : (c == x) = false := by simpa using e
        simp [e']
        exact fun h => absurd h e

theorem lower_words : ∀ p ∈ refWords, ∀ c ∈ p.1, cLower c = true := by decide

/-- The document's loop over the words, at a text that begins with & and no #. -/
theorem refW_all (r : Bs) (hr : r.head? ≠ some 35) : (match refW refWords (38 :: r) with
    | some x => x
    | none => .bad 12) = refSpec (38 :: r) := by
  have key : ∀ ws : List (Bs × UInt8), (∀ p ∈ ws, ∀ c ∈ p.1, cLower c = true) → refW ws (38 :: r) =
      (if span cLower r = r.length then (if ws.any (fun p => r.isPrefixOf p.1) then some (.bad 13) else none)
       else (match ws.find? (fun p => decide (r.take (span cLower r) = p.1) && decide (r[span cLower r]? = some 59)) with
        | some p => some (.ok [p.2] (p.1.length + 2))
        | none => none)) := by
    intro ws
    induction ws with
    | nil => intro _; simp [refW]
    | cons p ws ih =>
      intro hp
      obtain ⟨w, t⟩ := p
      have hw := hp (w, t) (by simp)
      simp only [refW, List.isPrefixOf, beq_self_eq_true, Bool.true_and]
      rw [pre_word hw, pre_of_word hw, ih fun q hq => hp q (by simp [hq])]
      by_cases hl : span cLower r = r.length
      · rw [if_pos hl]
        have h1 : r[span cLower r]? = none := by rw [hl]; simp
        have h2 : r ≠ w ++ [59] := by
          rintro rfl
          rw [hl] at h1
          have : cLower 59 = true := by
            obtain ⟨c, hc1, hc2⟩ := span_lt (p := cLower) (l := w ++ [59]) (i := w.length) (by rw [hl]; simp)
            simp at hc1; rw [hc1]; exact hc2
          revert this; decide
        have h3 : (decide (r.take (span cLower r) = w) && decide (r[span cLower r]? = some 59)) = false := by rw [h1]; simp
        rw [h3]
        simp only [hl, decide_true, Bool.true_and, h2, decide_false, Bool.or_false, List.any_cons, Bool.false_eq_true, if_false, if_true]
        by_cases h4 : r.isPrefixOf w = true
        · simp [h4]
        · have h5 : r.isPrefixOf w = false := Bool.eq_false_iff.2 h4
          simp only [h5, Bool.false_or, Bool.false_eq_true, if_false]
      · rw [if_neg hl]
        simp only [hl, decide_false, Bool.false_and, Bool.false_or, List.find?_cons]
        cases hd : decide (r.take (span cLower r) = w) && decide (r[span cLower r]? = some 59)
        · have h2 : r ≠ w ++ [59] := by
            rintro rfl
            have hs : span cLower (w ++ [59]) = w.length := span_eq (fun i c hi hc => by
              rw [List.getElem?_append_left hi] at hc
              exact hw c (List.mem_of_getElem? hc)) (fun c hc => by simp at hc; subst hc; decide) (by simp)
            rw [hs] at hd
            simp at hd
          simp [h2]
        · simp
  rw [key _ lower_words]
  have hsp : refSpec (38 :: r) = (if span cLower r = r.length then
        if r.isPrefixOf wLt || r.isPrefixOf wGt || r.isPrefixOf wAmp || r.isPrefixOf wQuot || r.isPrefixOf wApos then .bad 13 else .bad 12
      else match named (r.take (span cLower r)) with
        | some t => if r[span cLower r]? = some 59 then .ok [t] (span cLower r + 2) else .bad 12
        | none => .bad 12) := by
    unfold refSpec
    simp only [ne_eq, not_true_eq_false, if_false]
    split
    · simp at hr
    · rfl
  rw [hsp]
  by_cases hl : span cLower r = r.length
  · rw [if_pos hl, if_pos hl]
    simp only [refWords, List.any_cons, List.any_nil, Bool.or_false, Bool.or_assoc]
    split <;> rename_i h
    · split at h
      · cases h; rw [if_pos ‹_›]
      · cases h
    · split at h
      · cases h
      · rw [if_neg ‹_›]
  · rw [if_neg hl, if_neg hl]
    have hlen : (r.take (span cLower r)).length = span cLower r := by rw [List.length_take]; have := span_le cLower r; omega
    generalize ht : r.take (span cLower r) = u at *
    rw [← hlen]
    by_cases h59 : r[u.length]? = some 59
    · simp only [h59, decide_true, Bool.and_true, if_true]
      simp only [refWords, List.find?_cons, List.find?_nil, named]
      by_cases e1 : u = wLt
      · subst e1; simp
      · by_cases e2 : u = wGt
        · subst e2; simp [e1]
        · by_cases e3 : u = wAmp
          · subst e3; simp [e1, e2]
          · by_cases e4 : u = wQuot
            · subst e4; simp [e1, e2, e3]
            · by_cases e5 : u = wApos
              · subst e5; simp [e1, e2, e3, e4]
              · simp [e1, e2, e3, e4, e5]
    · simp only [h59, decide_false, Bool.and_false, if_false]
      simp only [refWords, List.find?_cons, List.find?_nil]
      cases named u <;> rfl

theorem refDoc_eq (s : Bs) : refDoc s = refSpec s := by
  cases s with
  | nil => rfl
  | cons c r =>
    by_cases hc : c = 38
    · subst hc
      by_cases hr : r.head? = some 35
      · cases r with
        | nil => cases hr
        | cons x r =>
          simp only [List.head?_cons, Option.some.injEq] at hr
          subst hr
          have hw : refW refWords (38 :: 35 :: r) = none := by simp [refW, refWords, wLt, wGt, wAmp, wQuot, wApos, List.isPrefixOf]
          unfold refDoc
          rw [hw]
          simp only
          cases r with
          | nil => rw [if_pos (.inl rfl)]; simp [refSpec, numRef, span]
          | cons y r =>
            by_cases hy : y = 120
            · subst hy
              cases r with
              | nil => rw [if_pos (.inr rfl)]; simp [refSpec, numRef, span]
              | cons z r =>
                rw [if_neg (by simp), if_neg (by simp [List.isPrefixOf]), if_pos (by simp [List.isPrefixOf]), refN_eq]
                simp [refSpec]
            · rw [if_neg (by simp [hy]), if_neg (by simp [List.isPrefixOf]), if_neg (by simp [List.isPrefixOf, Ne.symm hy]), refN_eq]
              simp [refSpec, hy]
      · rw [← refW_all r hr]
        unfold refDoc
        cases refW refWords (38 :: r) with
        | some x => rfl
        | none =>
          simp only
          have h1 : ([38, 35] : Bs).isPrefixOf (38 :: r) = false := by
            cases r with
            | nil => rfl
            | cons x r => simp only [List.head?_cons, Option.some.injEq] at hr; simp [List.isPrefixOf, Ne.symm hr]
          rw [if_neg (by rintro (h | h) <;> (simp at h; rw [h] at hr; simp at hr)), h1]; rfl
    · have hw : refW refWords (c :: r) = none := by simp [refW, refWords, List.isPrefixOf, hc, Ne.symm hc]
      unfold refDoc
      rw [hw]
      simp only
      rw [if_neg (by simp [hc]), show ([38, 35] : Bs).isPrefixOf (c :: r) = false by simp [List.isPrefixOf, Ne.symm hc]]
      simp [refSpec, hc]

/-- A reference takes a byte or more, and no more than there are. -/
theorem refSpec_size {s t : Bs} {n : Nat} (h : refSpec s = .ok t n) : 1 ≤ n ∧ n ≤ s.length := by
  have hn : ∀ hex a d, numRef hex a d = .ok t n → n ≤ a + d.length ∧ a + 1 ≤ n := by
    intro hex a d h
    unfold numRef at h
    have := span_le (isDig hex) d
    by_cases h1 : 8 < span (isDig hex) d
    · rw [if_pos h1] at h; cases h
    · rw [if_neg h1] at h
      by_cases h2 : span (isDig hex) d = d.length
      · rw [if_pos h2] at h; cases h
      · rw [if_neg h2] at h
        by_cases h3 : span (isDig hex) d = 0 ∨ d[span (isDig hex) d]? ≠ some 59
        · rw [if_pos h3] at h; cases h
        · rw [if_neg h3] at h
          split at h
          · cases h; omega
          · cases h
  cases s with
  | nil => cases h
  | cons c r =>
    simp only [refSpec] at h
    by_cases hc : c = 38
    · rw [if_neg (by simp [hc])] at h
      split at h
      · split at h
        · have := hn _ _ _ h; simp only [List.length_cons]; omega
        · have := hn _ _ _ h; simp only [List.length_cons]; omega
      · by_cases hl : span cLower r = r.length
        · rw [if_pos hl] at h
          split at h <;> cases h
        · rw [if_neg hl] at h
          have := span_le cLower r
          split at h
          · split at h
            · cases h; simp only [List.length_cons]; omega
            · cases h
          · cases h
    · rw [if_pos hc] at h; cases h

end Go.Proofs.Ytpchljiiappmnaa
