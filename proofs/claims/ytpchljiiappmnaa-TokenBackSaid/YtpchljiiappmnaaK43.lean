/- Plain law: a tag of any names and values is read as these; no program in sight. -/
import Derived.Test.YtpchljiiappmnaaK38
namespace Go.Proofs.Ytpchljiiappmnaa
open Go Go.RowKit

/-- A name and a value as the law asks for them. -/
structure GoodA (a : At2) : Prop where
  name : nameLen a.1 = a.1.length
  ne : a.1 ≠ []
  text : ∀ c ∈ a.2, cText c = true
/-- One attribute's text, in either quotes. -/
def attT (q : Bool) (a : At2) : Bs := if q then 10 :: (a.1 ++ (32 :: 61 :: 9 :: 39 :: (aposR (esc true a.2) ++ [39]))) else 32 :: (a.1 ++ (61 :: 34 :: (esc true a.2 ++ [34])))
def attsT (l : List (Bool × At2)) : Bs := l.flatMap fun p => attT p.1 p.2

theorem span_all {p : UInt8 → Bool} {n : Bs} (h : span p n = n.length) {c : UInt8} (hc : p c = false) (r : Bs) : span p (n ++ c :: r) = n.length := by
  induction n with
  | nil => simp [span, hc]
  | cons x n ih =>
    simp only [span] at h
    by_cases hx : p x = true
    · rw [if_pos hx] at h
      simp only [List.cons_append, span]
      rw [if_pos hx, ih (by simpa using h)]; rfl
    · rw [if_neg hx] at h; simp at h
theorem name_all {n : Bs} (h : nameLen n = n.length) (hne : n ≠ []) {c : UInt8} (hc : cName c = false) (r : Bs) : nameLen (n ++ c :: r) = n.length := by
  cases n with
  | nil => exact absurd rfl hne
  | cons x n =>
    simp only [List.cons_append, nameLen] at h ⊢
    by_cases hx : cFirst x = true
    · rw [if_pos hx] at h ⊢
      exact span_all (n := x :: n) h hc r
    · rw [if_neg hx] at h; simp at h
theorem name_first {n : Bs} (h : nameLen n = n.length) (hne : n ≠ []) : ∃ c r, n = c :: r ∧ cFirst c = true := by
  cases n with
  | nil => exact absurd rfl hne
  | cons x n =>
    simp only [nameLen] at h
    by_cases hx : cFirst x = true
    · exact ⟨x, n, rfl, hx⟩
    · rw [if_neg hx] at h; simp at h
theorem nameR_all {e : Int} {n : Bs} (h : nameLen n = n.length) (hne : n ≠ []) {c : UInt8} (hc : cName c = false) (r : Bs) : nameR e (n ++ c :: r) = .ok n (c :: r) := by
  have h1 := name_all h hne hc r
  obtain ⟨x, m, rfl, -⟩ := name_first h hne
  simp only [List.cons_append, nameR] at h1 ⊢
  rw [if_neg (by rw [h1]; simp), h1]
  congr 1
  · show ((x :: m) ++ c :: r).take _ = _; rw [List.take_left]
  · show ((x :: m) ++ c :: r).drop _ = _; rw [List.drop_left]
theorem first_blank {c : UInt8} (h : cFirst c = true) : cBlank c = false ∧ c ≠ 47 ∧ c ≠ 62 ∧ c ≠ 33 ∧ c ≠ 63 := by
  have h2 : ∀ n : Fin 256, cFirst (UInt8.ofNat n) = true → cBlank (UInt8.ofNat n) = false ∧ UInt8.ofNat n ≠ 47 ∧ UInt8.ofNat n ≠ 62 ∧ UInt8.ofNat n ≠ 33 ∧ UInt8.ofNat n ≠ 63 := by decide +kernel
  have := h2 ⟨c.toNat, c.toNat_lt⟩
  simp only [UInt8.ofNat_toNat] at this
  exact this h

theorem valueR_q {q : UInt8} (hq : q = 34 ∨ q = 39) {e d : Bs} (h : Reads q e d) (r : Bs) : valueR (q :: (e ++ q :: r)) = .ok d r := by
  simp only [valueR]
  rw [if_pos hq, letters_reads h r]; rfl
theorem attrR_t (acc : List At2) (q : Bool) (a : At2) (r : Bs) (ha : GoodA a) (hn : acc.any (fun b => b.1 == a.1) = false) : attrR acc ((attT q a).tail ++ r) = .ok a r := by
  rw [attrR_eq]
  cases q
  · show (nameR 10 ((a.1 ++ (61 :: 34 :: (esc true a.2 ++ [34]))) ++ r)).bind _ = _
    rw [show (a.1 ++ (61 :: 34 :: (esc true a.2 ++ [34]))) ++ r = a.1 ++ 61 :: (34 :: (esc true a.2 ++ 34 :: r)) by simp, nameR_all ha.name ha.ne (by decide)]
    show (if (acc.any fun b => b.1 == a.1) then _ else restR a.1 (61 :: 34 :: (esc true a.2 ++ 34 :: r))) = _
    rw [hn, if_neg (by decide)]
    unfold restR
    have e1 : blanks (61 :: 34 :: (esc true a.2 ++ 34 :: r)) = 61 :: 34 :: (esc true a.2 ++ 34 :: r) := by simp [blanks, cBlank]
    have e2 : blanks (34 :: (esc true a.2 ++ 34 :: r)) = 34 :: (esc true a.2 ++ 34 :: r) := by simp [blanks, cBlank]
    rw [e1]
    show (Res.map _ (valueR (blanks (34 :: (esc true a.2 ++ 34 :: r))))) = _
    rw [e2, valueR_q (.inl rfl) (reads_escs (by decide) (.inr ⟨rfl, rfl⟩) a.2 ha.text)]; rfl
  · show (nameR 10 ((a.1 ++ (32 :: 61 :: 9 :: 39 :: (aposR (esc true a.2) ++ [39]))) ++ r)).bind _ = _
    rw [show (a.1 ++ (32 :: 61 :: 9 :: 39 :: (aposR (esc true a.2) ++ [39]))) ++ r = a.1 ++ 32 :: (61 :: 9 :: 39 :: (aposR (esc true a.2) ++ 39 :: r)) by simp, nameR_all ha.name ha.ne (by decide)]
    show (if (acc.any fun b => b.1 == a.1) then _ else restR a.1 (32 :: 61 :: 9 :: 39 :: (aposR (esc true a.2) ++ 39 :: r))) = _
    rw [hn, if_neg (by decide)]
    unfold restR
    have e1 : blanks (32 :: 61 :: 9 :: 39 :: (aposR (esc true a.2) ++ 39 :: r)) = 61 :: 9 :: 39 :: (aposR (esc true a.2) ++ 39 :: r) := by simp [blanks, cBlank]
    have e2 : blanks (9 :: 39 :: (aposR (esc true a.2) ++ 39 :: r)) = 39 :: (aposR (esc true a.2) ++ 39 :: r) := by simp [blanks, cBlank]
    rw [e1]
    show (Res.map _ (valueR (blanks (9 :: 39 :: (aposR (esc true a.2) ++ 39 :: r))))) = _
    rw [e2, valueR_q (.inr rfl) (reads_aposs a.2 ha.text)]; rfl

theorem attT_tail (q : Bool) (a : At2) (ha : GoodA a) (r : Bs) : blanks (attT q a ++ r) = (attT q a).tail ++ r ∧ tagEnds (attT q a ++ r) = false := by
  obtain ⟨x, m, hx, hf⟩ := name_first ha.name ha.ne
  obtain ⟨h1, h2, h3, -, -⟩ := first_blank hf
  have hb : blanks (attT q a ++ r) = (attT q a).tail ++ r := by
    cases q <;> (simp only [attT, if_true, Bool.false_eq_true, if_false, hx, List.cons_append, List.tail_cons, blanks]; rw [if_pos (by decide), if_neg (by rw [h1]; decide)])
  refine ⟨hb, ?_⟩
  unfold tagEnds
  rw [hb]
  cases q <;> simp [attT, hx, h2, h3]

theorem attrsGo_t (tail : Bs) (ht : tail = [32, 62] ∨ tail = [47, 62]) (l : List (Bool × At2)) : ∀ f acc, l.length < f → (∀ p ∈ l, GoodA p.2) → ((acc ++ l.map (·.2)).map (·.1)).Nodup → attrsGo f acc (attsT l ++ tail) = .ok (acc ++ l.map (·.2)) (blanks tail) := by
  induction l with
  | nil =>
    intro f acc hf _ _
    obtain ⟨f, rfl⟩ : ∃ g, f = g + 1 := ⟨f - 1, by simp at hf; omega⟩
    have he : tagEnds (attsT [] ++ tail) = true := by rcases ht with rfl | rfl <;> rfl
    simp only [attrsGo]
    rw [if_pos he]
    show Res.ok acc (blanks tail) = Res.ok (acc ++ []) (blanks tail)
    rw [List.append_nil]
  | cons p l ih =>
    intro f acc hf hg hn
    obtain ⟨f, rfl⟩ : ∃ g, f = g + 1 := ⟨f - 1, by simp at hf; omega⟩
    have ha := hg p (by simp)
    obtain ⟨h1, h2⟩ := attT_tail p.1 p.2 ha (attsT l ++ tail)
    have hany : acc.any (fun b => b.1 == p.2.1) = false := by
      rw [List.any_eq_false]
      intro b hb e
      rw [List.map_append, List.nodup_append] at hn
      exact hn.2.2 b.1 (List.mem_map.2 ⟨b, hb, rfl⟩) p.2.1 (by simp) (by simpa using e)
    show attrsGo (f + 1) acc ((attT p.1 p.2 ++ attsT l) ++ tail) = _
    rw [List.append_assoc]
    simp only [attrsGo]
    rw [h2, if_neg (by decide), h1, attrR_t acc p.1 p.2 _ ha hany]
    show attrsGo f (acc ++ [p.2]) (attsT l ++ tail) = _
    rw [ih f (acc ++ [p.2]) (by simp at hf; omega) (fun x hx => hg x (by simp [hx])) (by simpa using hn)]
    simp

theorem attsT_len (l : List (Bool × At2)) : l.length ≤ (attsT l).length := by
  induction l with
  | nil => exact Nat.le_refl _
  | cons p l ih =>
    show _ ≤ (attT p.1 p.2 ++ attsT l).length
    rw [List.length_append]
    have : 1 ≤ (attT p.1 p.2).length := by unfold attT; split <;> simp
    simp; omega
/-- The law of TokenTags. -/
theorem tags_all (name : Bs) (l : List (Bool × At2)) (hn : nameLen name = name.length) (hne : name ≠ []) (hg : ∀ p ∈ l, GoodA p.2) (hd : ((l.map (·.2)).map (·.1)).Nodup) (tail : Bs) (k : Int) (ht : (tail = [32, 62] ∧ k = 1) ∨ (tail = [47, 62] ∧ k = 2)) :
    allR (60 :: (name ++ (attsT l ++ tail))) = .ok [(⟨k, name, l.map (·.2), []⟩, 60 :: (name ++ (attsT l ++ tail)))] [] := by
  obtain ⟨x, m, hx, hf⟩ := name_first hn hne
  obtain ⟨-, h47, -, h33, h63⟩ := first_blank hf
  have ht' : tail = [32, 62] ∨ tail = [47, 62] := ht.imp And.left And.left
  obtain ⟨c, r, hc, hcn⟩ : ∃ c r, attsT l ++ tail = c :: r ∧ cName c = false := by
    cases l with
    | nil => rcases ht' with rfl | rfl; exact ⟨32, [62], rfl, by decide⟩; exact ⟨47, [62], rfl, by decide⟩
    | cons p l =>
      cases hp : p.1
      · exact ⟨32, (attT p.1 p.2).tail ++ (attsT l ++ tail), by show (attT p.1 p.2 ++ attsT l) ++ tail = _; rw [List.append_assoc, hp]; rfl, by decide⟩
      · exact ⟨10, (attT p.1 p.2).tail ++ (attsT l ++ tail), by show (attT p.1 p.2 ++ attsT l) ++ tail = _; rw [List.append_assoc, hp]; rfl, by decide⟩
  have h0 : tokenR true (60 :: (name ++ (attsT l ++ tail))) = .ok ⟨k, name, l.map (·.2), []⟩ [] := by
    have e1 : 60 :: (name ++ (attsT l ++ tail)) = 60 :: x :: (m ++ (attsT l ++ tail)) := by rw [hx]; rfl
    rw [e1, tokS_open true _ h33 h63 h47, openR_eq, show x :: (m ++ (attsT l ++ tail)) = name ++ c :: r by rw [hc, hx]; rfl, nameR_all hn hne hcn]
    show (attrsR (c :: r)).bind _ = _
    rw [← hc]
    unfold attrsR
    rw [attrsGo_t tail ht' l _ [] (by have := attsT_len l; rw [List.length_append]; omega) hg (by simpa using hd)]
    rcases ht with ⟨rfl, rfl⟩ | ⟨rfl, rfl⟩ <;> rfl
  unfold allR
  show allGo ((name ++ (attsT l ++ tail)).length + 1) true [] _ = _
  rw [allGo_step (by simp) h0, allGo_nil]; rfl

end Go.Proofs.Ytpchljiiappmnaa
