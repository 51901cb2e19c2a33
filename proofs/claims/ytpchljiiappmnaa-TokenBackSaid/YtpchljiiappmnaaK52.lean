/- Plain law: tokens that were cut of a text, printed, are cut into the same, texts side by side joined; no program in sight. -/
import Derived.Test.YtpchljiiappmnaaK48
namespace Go.Proofs.Ytpchljiiappmnaa
open Go Go.RowKit

/-! What was cut: names, values, texts. -/
theorem span_take {p : UInt8 → Bool} {l : Bs} : span p (l.take (span p l)) = span p l := by
  induction l with
  | nil => rfl
  | cons c l ih =>
    simp only [span]
    split
    · rename_i h; simp only [List.take_succ_cons, span]; rw [if_pos h, ih]
    · rfl
theorem nameLen_take (l : Bs) : nameLen (l.take (nameLen l)) = nameLen l := by
  cases l with
  | nil => rfl
  | cons c l =>
    simp only [nameLen]
    by_cases h : cFirst c = true
    · rw [if_pos h]
      have hn : cName c = true := by unfold cName; rw [h]; simp
      have h1 : span cName (c :: l) = span cName l + 1 := by simp [span, hn]
      have h2 := span_take (p := cName) (l := c :: l)
      rw [h1] at h2 ⊢
      simp only [List.take_succ_cons] at h2 ⊢
      show (if cFirst c = true then _ else _) = _
      rw [if_pos h]; exact h2
    · rw [if_neg h]; rfl
theorem nameR_good {e : Int} {l nm r : Bs} (h : nameR e l = .ok nm r) : nameLen nm = nm.length ∧ nm ≠ [] := by
  cases l with
  | nil => cases h
  | cons c l =>
    simp only [nameR] at h
    split at h
    · cases h
    · rename_i h0
      cases h
      have h1 := nameLen_take (c :: l)
      have h2 := nameLen_le (c :: l)
      have h3 : ((c :: l).take (nameLen (c :: l))).length = nameLen (c :: l) := by rw [List.length_take]; omega
      refine ⟨by rw [h1, h3], fun e => h0 ?_⟩
      rw [← h3, e]; rfl

theorem text_ge {c : UInt8} (h : 32 ≤ c.toNat) : cText c = true := by unfold cText; simp [h]
theorem ofNat_text {n : Nat} (h : 32 ≤ n % 256) : cText (UInt8.ofNat n) = true := text_ge (by simpa using h)
theorem letterB_text {n : Int} (h : okLetter n = true) : ∀ c ∈ letterB n, cText c = true := by
  unfold okLetter at h
  rw [decide_eq_true_iff] at h
  intro c hc
  unfold letterB letterN at hc
  split at hc
  · rename_i h1
    simp only [List.mem_cons, List.not_mem_nil, or_false] at hc; subst hc
    rcases h with h | h | h | h
    · have : n.toNat = 9 := by omega
      rw [this]; decide
    · have : n.toNat = 10 := by omega
      rw [this]; decide
    · have : n.toNat = 13 := by omega
      rw [this]; decide
    · exact ofNat_text (by omega)
  · rename_i h1
    split at hc
    · simp only [List.mem_cons, List.not_mem_nil, or_false] at hc; rcases hc with rfl | rfl <;> exact ofNat_text (by omega)
    · split at hc
      · simp only [List.mem_cons, List.not_mem_nil, or_false] at hc; rcases hc with rfl | rfl | rfl <;> exact ofNat_text (by omega)
      · simp only [List.mem_cons, List.not_mem_nil, or_false] at hc; rcases hc with rfl | rfl | rfl | rfl <;> exact ofNat_text (by omega)
theorem numRef_text {hex : Bool} {a n : Nat} {l t : Bs} (h : numRef hex a l = .ok t n) : ∀ c ∈ t, cText c = true := by
  unfold numRef at h
  split at h
  · cases h
  split at h
  · cases h
  split at h
  · cases h
  split at h
  · rename_i ho
    cases h; exact letterB_text ho
  · cases h
theorem named_text {w : Bs} {t : UInt8} (h : named w = some t) : cText t = true := by
  unfold named at h
  repeat' split at h
  all_goals first | (cases h; decide) | cases h
theorem refSpec_text {s t : Bs} {n : Nat} (h : refSpec s = .ok t n) : ∀ c ∈ t, cText c = true := by
  cases s with
  | nil => cases h
  | cons c r =>
    simp only [refSpec] at h
    split at h
    · cases h
    · split at h
      · split at h
        · exact numRef_text h
        · exact numRef_text h
      · split at h
        · split at h <;> cases h
        · split at h
          · rename_i t' ht
            split at h
            · cases h
              intro c hc; simp at hc; subst hc; exact named_text ht
            · cases h
          · cases h
theorem letters_text {stop : UInt8} (k : Nat) {l s r : Bs} (h : lettersGo stop k l = .ok s r) : ∀ c ∈ s, cText c = true := by
  induction l generalizing k s with
  | nil => cases k <;> (cases h; simp)
  | cons c l ih =>
    cases k with
    | succ k => exact ih k h
    | zero =>
      simp only [lettersGo] at h
      split at h
      · cases h; simp
      · split at h
        · cases hr : refSpec (c :: l) with
          | bad e => rw [hr] at h; cases h
          | ok t n =>
            rw [hr] at h
            obtain ⟨a, h1, rfl⟩ := map_ok h
            intro x hx
            rcases List.mem_append.1 hx with hx | hx
            · exact refSpec_text hr x hx
            · exact ih _ h1 x hx
        · split at h
          · cases h
          · rename_i hc
            obtain ⟨a, h1, rfl⟩ := map_ok h
            intro x hx
            rcases List.mem_cons.1 hx with rfl | hx
            · simp only [not_or] at hc; simpa using hc.2
            · exact ih _ h1 x hx
theorem valueR_text {l s r : Bs} (h : valueR l = .ok s r) : ∀ c ∈ s, cText c = true := by
  cases l with
  | nil => cases h
  | cons q l =>
    simp only [valueR] at h
    split at h
    · obtain ⟨a, r1, h1, h2⟩ := bind_ok h
      split at h2
      · cases h2
      · cases h2; exact letters_text 0 h1
    · cases h
/-- What stands up to an end is read again as it is, whatever follows. -/
theorem plain_again {til l s r : Bs} (h : plain til l = .ok s r) : (∀ c ∈ s, cText c = true) ∧ l = s ++ til ++ r ∧ ∀ y, plain til (s ++ til ++ y) = .ok s y := by
  induction l generalizing s with
  | nil =>
    simp only [plain] at h
    split at h
    · rename_i ht
      cases h
      have : til = [] := by cases til with
        | nil => rfl
        | cons a b => simp [List.isPrefixOf] at ht
      subst this
      refine ⟨by simp, by simp, fun y => ?_⟩
      cases y <;> simp [plain]
    · cases h
  | cons c l ih =>
    simp only [plain] at h
    split at h
    · rename_i ht
      cases h
      obtain ⟨z, hz⟩ := List.isPrefixOf_iff_prefix.1 ht
      refine ⟨by simp, ?_, fun y => ?_⟩
      · rw [← hz]; simp
      · show plain til (til ++ y) = _
        cases hty : til ++ y with
        | nil =>
          have h1 : til = [] := (List.append_eq_nil_iff.1 hty).1
          have h2 : y = [] := (List.append_eq_nil_iff.1 hty).2
          subst h1; subst h2; rfl
        | cons a b =>
          simp only [plain]
          rw [if_pos (by rw [← hty]; exact List.isPrefixOf_iff_prefix.2 ⟨y, rfl⟩), ← hty, List.drop_left]
    · rename_i ht
      split at h
      · rename_i hc
        obtain ⟨a, h1, rfl⟩ := map_ok h
        obtain ⟨i1, i2, i3⟩ := ih h1
        refine ⟨?_, by rw [i2]; simp, fun y => ?_⟩
        · intro x hx
          rcases List.mem_cons.1 hx with rfl | hx
          · exact hc
          · exact i1 x hx
        · show plain til (c :: (a ++ til ++ y)) = _
          simp only [plain]
          have hp : til.isPrefixOf (c :: (a ++ til ++ y)) = false := by
            rw [i2] at ht
            have e1 : c :: (a ++ til ++ r) = (c :: (a ++ til)) ++ r := by simp
            have e2 : c :: (a ++ til ++ y) = (c :: (a ++ til)) ++ y := by simp
            rw [e1, pre_app (by simp; omega)] at ht
            rw [e2, pre_app (by simp; omega)]
            exact Bool.eq_false_iff.2 ht
          rw [hp, if_neg (by decide), if_pos hc, i3 y]; rfl
      · cases h

/-! Tokens that were cut. -/
theorem attrR_good {acc : List At2} {l r : Bs} {a : At2} (h : attrR acc l = .ok a r) : GoodA a ∧ acc.any (fun b => b.1 == a.1) = false := by
  rw [attrR_eq] at h
  obtain ⟨nm, r1, h1, h2⟩ := bind_ok h
  split at h2
  · cases h2
  · rename_i hn
    unfold restR at h2
    obtain ⟨_, r2, -, h4⟩ := bind_ok h2
    obtain ⟨v, h5, rfl⟩ := map_ok h4
    have hg := nameR_good h1
    exact ⟨⟨hg.1, hg.2, valueR_text h5⟩, Bool.eq_false_iff.2 hn⟩
theorem attrsGo_good (f : Nat) (acc : List At2) (l : Bs) {res : List At2} {r : Bs} (h : attrsGo f acc l = .ok res r) (h1 : ∀ a ∈ acc, GoodA a) (h2 : (acc.map (·.1)).Nodup) : (∀ a ∈ res, GoodA a) ∧ (res.map (·.1)).Nodup := by
  induction f generalizing acc l with
  | zero => cases h
  | succ f ih =>
    simp only [attrsGo] at h
    split at h
    · cases h; exact ⟨h1, h2⟩
    · cases ha : attrR acc (blanks l) with
      | bad e r' => rw [ha] at h; cases h
      | ok a r' =>
        rw [ha] at h
        obtain ⟨g1, g2⟩ := attrR_good ha
        refine ih (acc ++ [a]) r' h ?_ ?_
        · intro b hb
          rcases List.mem_append.1 hb with hb | hb
          · exact h1 b hb
          · simp at hb; subst hb; exact g1
        · rw [List.map_append, List.nodup_append]
          refine ⟨h2, by simp, ?_⟩
          intro x hx y hy e
          simp at hy; subst hy; subst e
          obtain ⟨b, hb, hbe⟩ := List.mem_map.1 hx
          rw [List.any_eq_false] at g2
          exact g2 b hb (by simpa using hbe)

/-- A token as it comes out of a text. -/
inductive GoodT : Bool → Tk → Prop where
  | op (f : Bool) (k : Int) (hk : k = 1 ∨ k = 2) (nm : Bs) (ats : List At2) (h1 : nameLen nm = nm.length) (h2 : nm ≠ []) (h3 : ∀ a ∈ ats, GoodA a) (h4 : (ats.map (·.1)).Nodup) : GoodT f ⟨k, nm, ats, []⟩
  | cl (f : Bool) (nm : Bs) (h1 : nameLen nm = nm.length) (h2 : nm ≠ []) : GoodT f ⟨3, nm, [], []⟩
  | tx (f : Bool) (t : Bs) (h : ∀ c ∈ t, cText c = true) : GoodT f ⟨4, [], [], t⟩
  | no (f : Bool) (t : Bs) (h : ∀ y, plain eNote (t ++ eNote ++ y) = .ok t y) : GoodT f ⟨5, [], [], t⟩
  | he (t : Bs) (h : ∀ y, plain eHead (t ++ eHead ++ y) = .ok t y) (h2 : ∀ y, isHead (sHead ++ (t ++ eHead ++ y)) = true) : GoodT true ⟨6, [], [], t⟩

theorem endR_ok1 {nm : Bs} {ats : List At2} {l r : Bs} {t : Tk} (h : endR nm ats l = .ok t r) : ∃ k : Int, (k = 1 ∨ k = 2) ∧ t = ⟨k, nm, ats, []⟩ := by
  cases l with
  | nil => cases h
  | cons c l =>
    by_cases hc : c = 47
    · subst hc; rw [endR_47] at h; obtain ⟨_, -, rfl⟩ := map_ok h; exact ⟨2, .inr rfl, rfl⟩
    · rw [endR_no nm ats l hc] at h; obtain ⟨_, -, rfl⟩ := map_ok h; exact ⟨1, .inl rfl, rfl⟩
theorem openR_goodT (f : Bool) {l r : Bs} {t : Tk} (h : openR l = .ok t r) : GoodT f t := by
  rw [openR_eq] at h
  obtain ⟨nm, r1, h1, h2⟩ := bind_ok h
  obtain ⟨ats, r2, h3, h4⟩ := bind_ok h2
  obtain ⟨k, hk, rfl⟩ := endR_ok1 h4
  obtain ⟨g1, g2⟩ := attrsGo_good _ [] _ h3 (by simp) (by simp)
  exact .op f k hk nm ats (nameR_good h1).1 (nameR_good h1).2 g1 g2
theorem head_again {l t r : Bs} (hh : isHead l = true) (h : l.drop 5 = t ++ eHead ++ r) (y : Bs) : isHead (sHead ++ (t ++ eHead ++ y)) = true := by
  unfold isHead at hh ⊢
  rw [Bool.and_eq_true] at hh
  obtain ⟨h1, h2⟩ := hh
  have e0 : sHead.isPrefixOf (sHead ++ (t ++ eHead ++ y)) = true := List.isPrefixOf_iff_prefix.2 ⟨_, rfl⟩
  rw [e0, Bool.true_and]
  have e1 : l[5]? = (t ++ eHead ++ r)[0]? := by rw [← h, List.getElem?_drop]
  have e2 : (sHead ++ (t ++ eHead ++ y))[5]? = (t ++ eHead ++ y)[0]? := by
    rw [List.getElem?_append_right (by simp [sHead])]; rfl
  have e3 : (t ++ eHead ++ y)[0]? = (t ++ eHead ++ r)[0]? := by cases t <;> rfl
  rw [e2, e3, ← e1]; exact h2
theorem tokenR_goodT {f : Bool} {l r : Bs} {t : Tk} (h : tokenR f l = .ok t r) : GoodT f t := by
  unfold tokenR at h
  split at h
  · obtain ⟨s, h1, rfl⟩ := map_ok h; exact .no f s (plain_again h1).2.2
  · split at h
    · obtain ⟨s, h1, rfl⟩ := map_ok h; exact .tx f s (plain_again h1).1
    · split at h
      · rename_i hh
        obtain ⟨s, h1, rfl⟩ := map_ok h
        rw [Bool.and_eq_true] at hh
        obtain ⟨rfl, hh⟩ := hh
        obtain ⟨-, g2, g3⟩ := plain_again h1
        exact .he s g3 (fun y => head_again hh g2 y)
      · split at h
        · obtain ⟨nm, r1, h1, h2⟩ := bind_ok h
          obtain ⟨_, -, rfl⟩ := map_ok h2
          exact .cl f nm (nameR_good h1).1 (nameR_good h1).2
        · exact openR_goodT f h
        · obtain ⟨s, h1, rfl⟩ := map_ok h; exact .tx f s (letters_text 0 h1)

def GoodL : Bool → List Tk → Prop
  | _, [] => True
  | f, t :: l => GoodT f t ∧ GoodL false l
theorem allGo_goodL (n : Nat) (f : Bool) (acc : List (Tk × Bs)) (l : Bs) {res : List (Tk × Bs)} {r : Bs} (h : allGo n f acc l = .ok res r) : ∃ more, res = acc ++ more ∧ GoodL f (more.map (·.1)) := by
  induction n generalizing f acc l with
  | zero => cases l with
    | nil => cases h; exact ⟨[], by simp, trivial⟩
    | cons c l => cases h
  | succ n ih =>
    cases l with
    | nil => cases h; exact ⟨[], by simp, trivial⟩
    | cons c l =>
      simp only [allGo] at h
      cases ht : tokenR f (c :: l) with
      | bad e r' => rw [ht] at h; cases h
      | ok t r' =>
        rw [ht] at h
        obtain ⟨more, e1, e2⟩ := ih false _ r' h
        exact ⟨(t, c :: l) :: more, by rw [e1]; simp, tokenR_goodT ht, e2⟩

/-! Printed, and cut again. -/
theorem attrsGo_p (tail : Bs) (ht : ∃ c y, tail = c :: y ∧ (c = 62 ∨ c = 47)) (l : List At2) : ∀ f acc, l.length < f → (∀ a ∈ l, GoodA a) → ((acc ++ l).map (·.1)).Nodup → attrsGo f acc (attsP l ++ tail) = .ok (acc ++ l) tail := by
  induction l with
  | nil =>
    intro f acc hf _ _
    obtain ⟨f, rfl⟩ : ∃ g, f = g + 1 := ⟨f - 1, by simp at hf; omega⟩
    obtain ⟨c, y, rfl, hc⟩ := ht
    have hb : blanks (c :: y) = c :: y := by rcases hc with rfl | rfl <;> simp [blanks, cBlank]
    have he : tagEnds (c :: y) = true := by unfold tagEnds; rw [hb]; simp
    show attrsGo (f + 1) acc (c :: y) = _
    simp only [attrsGo]
    rw [if_pos he, hb, List.append_nil]
  | cons a l ih =>
    intro f acc hf hg hn
    obtain ⟨f, rfl⟩ : ∃ g, f = g + 1 := ⟨f - 1, by simp at hf; omega⟩
    have ha := hg a (by simp)
    obtain ⟨h1, h2⟩ := attT_tail false a ha (attsP l ++ tail)
    have hany : acc.any (fun b => b.1 == a.1) = false := by
      rw [List.any_eq_false]
      intro b hb e
      rw [List.map_append, List.nodup_append] at hn
      exact hn.2.2 b.1 (List.mem_map.2 ⟨b, hb, rfl⟩) a.1 (by simp) (by simpa using e)
    show attrsGo (f + 1) acc ((attT false a ++ attsP l) ++ tail) = _
    rw [List.append_assoc]
    simp only [attrsGo]
    rw [h2, if_neg (by decide), h1, attrR_t acc false a _ ha hany]
    show attrsGo f (acc ++ [a]) (attsP l ++ tail) = _
    rw [ih f (acc ++ [a]) (by simp at hf; omega) (fun x hx => hg x (by simp [hx])) (by simpa using hn)]
    simp
theorem attsP_ge (l : List At2) : l.length ≤ (attsP l).length := by
  induction l with
  | nil => exact Nat.le_refl _
  | cons p l ih =>
    show _ ≤ (attT false p ++ attsP l).length
    rw [List.length_append]
    have : 1 ≤ (attT false p).length := by unfold attT; simp
    simp; omega

theorem attsP_head (l : List At2) (c : UInt8) (y : Bs) (hc : cName c = false) : ∃ d r, attsP l ++ c :: y = d :: r ∧ cName d = false := by
  cases l with
  | nil => exact ⟨c, y, rfl, hc⟩
  | cons a l => exact ⟨32, (attT false a).tail ++ (attsP l ++ c :: y), by show (attT false a ++ attsP l) ++ c :: y = _; rw [List.append_assoc]; rfl, by decide⟩

theorem GoodT.again {f : Bool} {t : Tk} (h : GoodT f t) (hk : t.kind ≠ 4) (y : Bs) : tokenR f (tokP t ++ y) = .ok t y ∧ ∃ r, tokP t = 60 :: r := by
  cases h with
  | op f k hk' nm ats h1 h2 h3 h4 =>
    obtain ⟨x, m, hx, hf⟩ := name_first h1 h2
    obtain ⟨-, h47, -, h33, h63⟩ := first_blank hf
    have gen : ∀ fin : Bs, (∃ c y', fin ++ y = c :: y' ∧ (c = 62 ∨ c = 47)) → tokenR f (tagP ⟨k, nm, ats, []⟩ fin ++ y) = endR nm ats (fin ++ y) := by
      rintro fin ⟨c, y', hc, hcc⟩
      obtain ⟨d, r, hd, hdn⟩ := attsP_head ats c y' (by rcases hcc with rfl | rfl <;> decide)
      have e1 : tagP ⟨k, nm, ats, []⟩ fin ++ y = 60 :: x :: (m ++ (attsP ats ++ (fin ++ y))) := by unfold tagP; rw [hx]; simp
      rw [e1, tokS_open f _ h33 h63 h47, openR_eq, show x :: (m ++ (attsP ats ++ (fin ++ y))) = nm ++ d :: r by rw [hc, hd, hx]; rfl, nameR_all h1 h2 hdn]
      show (attrsR (d :: r)).bind _ = _
      rw [← hd, ← hc]
      unfold attrsR
      rw [attrsGo_p (fin ++ y) ⟨c, y', hc, hcc⟩ ats _ [] (by have := attsP_ge ats; rw [List.length_append]; omega) h3 (by simpa using h4)]
      rfl
    rcases hk' with rfl | rfl
    · have e0 : tokP ⟨1, nm, ats, []⟩ = tagP ⟨1, nm, ats, []⟩ [62] := by unfold tokP; rw [if_neg (by simp), if_neg (by simp), if_neg (by simp), if_pos rfl]
      refine ⟨?_, ⟨_, by rw [e0]; rfl⟩⟩
      rw [e0, gen [62] ⟨62, y, rfl, .inl rfl⟩]; rfl
    · have e0 : tokP ⟨2, nm, ats, []⟩ = tagP ⟨2, nm, ats, []⟩ [47, 62] := by unfold tokP; rw [if_neg (by simp), if_neg (by simp), if_neg (by simp), if_neg (by simp), if_pos rfl]
      refine ⟨?_, ⟨_, by rw [e0]; rfl⟩⟩
      rw [e0, gen [47, 62] ⟨47, 62 :: y, rfl, .inr rfl⟩]; rfl
  | cl f nm h1 h2 =>
    have e0 : tokP ⟨3, nm, [], []⟩ = 60 :: 47 :: (nm ++ [62]) := by unfold tokP; rw [if_neg (by simp), if_neg (by simp), if_pos rfl]; rfl
    refine ⟨?_, ⟨_, e0⟩⟩
    rw [e0, show (60 :: 47 :: (nm ++ [62])) ++ y = 60 :: 47 :: (nm ++ 62 :: y) by simp, tokS_47]
    unfold closeR
    rw [nameR_all h1 h2 (by decide)]
    simp only [Res.bind]
    rw [show blanks (62 :: y) = 62 :: y by simp [blanks, cBlank]]
    rfl
  | tx f t h => exact absurd rfl hk
  | no f t h =>
    have e0 : tokP ⟨5, [], [], t⟩ = sNote ++ (t ++ eNote) := by unfold tokP; rw [if_pos rfl]
    refine ⟨?_, ⟨_, by rw [e0]; rfl⟩⟩
    rw [e0]
    unfold tokenR
    rw [if_pos (by rw [List.append_assoc]; exact List.isPrefixOf_iff_prefix.2 ⟨_, rfl⟩)]
    rw [show (sNote ++ (t ++ eNote) ++ y).drop 4 = t ++ eNote ++ y by rw [List.append_assoc]; rfl, h y]; rfl
  | he t h h2 =>
    have e0 : tokP ⟨6, [], [], t⟩ = sHead ++ (t ++ eHead) := by unfold tokP; rw [if_neg (by simp), if_pos rfl]
    refine ⟨?_, ⟨_, by rw [e0]; rfl⟩⟩
    rw [e0, List.append_assoc]
    have h3 := h2 y
    unfold tokenR
    rw [if_neg (by simp [sNote, sHead, List.isPrefixOf]), if_neg (by simp [sData, sHead, List.isPrefixOf]), if_pos (by rw [h3]; rfl)]
    rw [show (sHead ++ (t ++ eHead ++ y)).drop 5 = t ++ eHead ++ y from rfl, h y]; rfl

theorem text_again {f : Bool} {t : Bs} (h : ∀ c ∈ t, cText c = true) (hne : t ≠ []) {y : Bs} (hy : y = [] ∨ ∃ r, y = 60 :: r) : tokenR f (esc false t ++ y) = .ok ⟨4, [], [], t⟩ y := by
  have hh : (esc false t ++ y).head? ≠ some 60 := by
    have h1 := esc_head false t
    have h2 := esc_ne false hne
    cases he : esc false t with
    | nil => exact absurd he h2
    | cons a b => rw [he] at h1; simpa using h1
  rw [tokenR_text f hh]
  rcases hy with rfl | ⟨r, rfl⟩
  · rw [List.append_nil, letters_reads_end (reads_escs (by decide) (.inl rfl) t h)]; rfl
  · rw [letters_reads (reads_escs (by decide) (.inl rfl) t h) r]; rfl

/-! Texts side by side are joined. -/
def joinGo (out : List Tk) : List Tk → List Tk
  | [] => out
  | t :: l =>
    if t.kind = 4 ∧ t.text = [] then joinGo out l
    else match out.getLast? with
      | some u => if t.kind = 4 ∧ u.kind = 4 then joinGo (out.dropLast ++ [{ u with text := u.text ++ t.text }]) l else joinGo (out ++ [t]) l
      | none => joinGo (out ++ [t]) l
def joined (l : List Tk) : List Tk := joinGo [] l

theorem tokP_4 {t : Tk} (h : t.kind = 4) : tokP t = esc false t.text := by
  unfold tokP; rw [h]; simp
theorem printP_app (l m : List Tk) : printP (l ++ m) = printP l ++ printP m := by unfold printP; rw [List.flatMap_append]
theorem printP_one (t : Tk) : printP [t] = tokP t := by simp [printP]
theorem joinGo_print (out l : List Tk) : printP (joinGo out l) = printP out ++ printP l := by
  induction l generalizing out with
  | nil => simp [joinGo, printP]
  | cons t l ih =>
    have hc : printP (t :: l) = tokP t ++ printP l := rfl
    simp only [joinGo]
    split
    · rename_i h
      rw [ih, hc, tokP_4 h.1, h.2]; rfl
    · split
      · rename_i u hu
        split
        · rename_i h
          have hou : out = out.dropLast ++ [u] := by
            have hne : out ≠ [] := fun e => by rw [e] at hu; cases hu
            rw [List.getLast?_eq_some_getLast hne] at hu
            cases hu
            exact (List.dropLast_concat_getLast hne).symm
          rw [ih, printP_app, printP_one, tokP_4 (by exact h.2), hc, tokP_4 h.1]
          conv => rhs; rw [hou]
          rw [printP_app, printP_one, tokP_4 h.2]
          show _ ++ esc false (u.text ++ t.text) ++ _ = _
          unfold esc
          rw [List.flatMap_append]; simp
        · rw [ih, printP_app, printP_one, hc]; simp
      · rw [ih, printP_app, printP_one, hc]; simp

/-- A list as it comes out of joining: no empty text, no two texts side by side. -/
def Alt : Bool → List Tk → Prop
  | _, [] => True
  | f, t :: l => GoodT f t ∧ (t.kind = 4 → t.text ≠ [] ∧ ∀ u r, l = u :: r → u.kind ≠ 4) ∧ Alt false l
theorem GoodT.more {t : Tk} (h : GoodT false t) : GoodT true t := by
  cases h with
  | op f k hk nm ats h1 h2 h3 h4 => exact .op _ k hk nm ats h1 h2 h3 h4
  | cl f nm h1 h2 => exact .cl _ nm h1 h2
  | tx f t h => exact .tx _ t h
  | no f t h => exact .no _ t h
theorem GoodT.text {f : Bool} {t : Tk} (h : GoodT f t) (hk : t.kind = 4) : t = ⟨4, [], [], t.text⟩ ∧ ∀ c ∈ t.text, cText c = true := by
  cases h with
  | op f k hk' nm ats h1 h2 h3 h4 => rcases hk' with rfl | rfl <;> cases hk
  | cl f nm h1 h2 => cases hk
  | tx f t h => exact ⟨rfl, h⟩
  | no f t h => cases hk
  | he t h h2 => cases hk
theorem Alt.snoc {f : Bool} {out : List Tk} {t : Tk} (h : Alt f out) (ht : GoodT (if out = [] then f else false) t) (h4 : t.kind = 4 → t.text ≠ [] ∧ ∀ u, out.getLast? = some u → u.kind ≠ 4) : Alt f (out ++ [t]) := by
  induction out generalizing f with
  | nil => exact ⟨by simpa using ht, fun hk => ⟨(h4 hk).1, fun u r e => by cases e⟩, trivial⟩
  | cons v out ih =>
    obtain ⟨g1, g2, g3⟩ := h
    have ht' : GoodT false t := by simpa using ht
    refine ⟨g1, fun hk => ?_, ih g3 (by split <;> exact ht') (fun hk => ⟨(h4 hk).1, fun u hu => (h4 hk).2 u ?_⟩)⟩
    · refine ⟨(g2 hk).1, fun u r e => ?_⟩
      cases out with
      | nil =>
        simp at e
        obtain ⟨rfl, -⟩ := e
        intro hk2
        exact (h4 hk2).2 v rfl hk
      | cons z out =>
        simp at e
        exact (g2 hk).2 u out (by rw [e.1])
    · cases out with
      | nil => cases hu
      | cons z out => simpa using hu
theorem Alt.last {f : Bool} {out : List Tk} {u : Tk} {s : Bs} (h : Alt f out) (hu : out.getLast? = some u) (hk : u.kind = 4) (hs : ∀ c ∈ s, cText c = true) : Alt f (out.dropLast ++ [{ u with text := u.text ++ s }]) := by
  induction out generalizing f with
  | nil => cases hu
  | cons v out ih =>
    obtain ⟨g1, g2, g3⟩ := h
    cases out with
    | nil =>
      simp at hu; subst hu
      obtain ⟨e, ht⟩ := g1.text hk
      refine ⟨?_, fun _ => ⟨?_, fun u r e => by cases e⟩, trivial⟩
      · rw [e]
        exact .tx f _ (fun c hc => by
          rcases List.mem_append.1 hc with hc | hc
          · exact ht c hc
          · exact hs c hc)
      · intro e2
        exact (g2 hk).1 (List.append_eq_nil_iff.1 e2).1
    | cons z out =>
      have hu' : (z :: out).getLast? = some u := by simpa using hu
      have hi := ih g3 hu'
      refine ⟨g1, fun hkv => ⟨(g2 hkv).1, fun w r e => ?_⟩, hi⟩
      have hz := (g2 hkv).2 z out rfl
      cases out with
      | nil =>
        simp at hu'; subst hu'
        exact absurd hk hz
      | cons y out =>
        simp at e
        rw [← e.1]; exact hz
theorem joinGo_alt (f : Bool) (out l : List Tk) (h : Alt f out) (hl : GoodL (if out = [] then f else false) l) : Alt f (joinGo out l) := by
  induction l generalizing out with
  | nil => exact h
  | cons t l ih =>
    obtain ⟨g1, g2⟩ := hl
    have weak : ∀ (b : Bool) (m : List Tk), GoodL false m → GoodL b m := fun b m hm => by
      cases m with
      | nil => trivial
      | cons x m => exact ⟨by cases b; exact hm.1; exact hm.1.more, hm.2⟩
    simp only [joinGo]
    split
    · exact ih out h (weak _ l g2)
    · rename_i hne
      have hnx : t.kind = 4 → t.text ≠ [] := fun hk e => hne ⟨hk, e⟩
      split
      · rename_i u hu
        split
        · rename_i hk
          exact ih _ (h.last hu hk.2 (g1.text hk.1).2) (by rw [if_neg (by simp)]; exact g2)
        · rename_i hk
          refine ih _ (h.snoc g1 fun hk4 => ⟨hnx hk4, fun u' hu' hk' => hk ⟨hk4, ?_⟩⟩) (by rw [if_neg (by simp)]; exact g2)
          rw [hu] at hu'; cases hu'; exact hk'
      · rename_i hu
        refine ih _ (h.snoc g1 fun hk4 => ⟨hnx hk4, fun u' hu' => ?_⟩) (by rw [if_neg (by simp)]; exact g2)
        rw [hu] at hu'; cases hu'

theorem tokP_ne {f : Bool} {t : Tk} (h : GoodT f t) (h4 : t.kind = 4 → t.text ≠ []) : tokP t ≠ [] := by
  by_cases hk : t.kind = 4
  · rw [tokP_4 hk]; exact esc_ne false (h4 hk)
  · obtain ⟨-, r, hr⟩ := h.again hk []
    rw [hr]; simp
theorem alt_all (l : List Tk) : ∀ n f acc, Alt f l → (printP l).length ≤ n → ∃ more, allGo n f acc (printP l) = .ok (acc ++ more) [] ∧ more.map (·.1) = l := by
  induction l with
  | nil => intro n f acc _ _; exact ⟨[], by rw [show printP [] = [] from rfl, allGo_nil]; simp, rfl⟩
  | cons t l ih =>
    intro n f acc h hn
    obtain ⟨g1, g2, g3⟩ := h
    have hc : printP (t :: l) = tokP t ++ printP l := rfl
    have hne := tokP_ne g1 (fun hk => (g2 hk).1)
    have hlen : 1 ≤ (tokP t).length := List.length_pos_iff.2 hne
    rw [hc, List.length_append] at hn
    obtain ⟨n, rfl⟩ : ∃ m, n = m + 1 := ⟨n - 1, by omega⟩
    have h1 : tokenR f (tokP t ++ printP l) = .ok t (printP l) := by
      by_cases hk : t.kind = 4
      · obtain ⟨e, ht⟩ := g1.text hk
        rw [tokP_4 hk]
        have := text_again (f := f) ht (g2 hk).1 (y := printP l) (by
          cases l with
          | nil => exact .inl rfl
          | cons u r =>
            right
            obtain ⟨-, z, hz⟩ := g3.1.again ((g2 hk).2 u r rfl) []
            exact ⟨z ++ printP r, by show tokP u ++ printP r = _; rw [hz]; rfl⟩)
        rw [this, ← e]
      · exact (g1.again hk _).1
    obtain ⟨more, e1, e2⟩ := ih n false (acc ++ [(t, tokP t ++ printP l)]) g3 (by omega)
    refine ⟨(t, tokP t ++ printP l) :: more, ?_, by rw [List.map_cons, e2]⟩
    rw [hc, allGo_step (by intro e; exact hne (List.append_eq_nil_iff.1 e).1) h1, e1]; simp

/-- The law of TokenBack. -/
theorem back_all {T : Bs} {acc : List (Tk × Bs)} {r : Bs} (h : allR T = .ok acc r) : ∃ more, allR (printP (acc.map (·.1))) = .ok more [] ∧ more.map (·.1) = joined (acc.map (·.1)) ∧ printP (joined (acc.map (·.1))) = printP (acc.map (·.1)) := by
  obtain ⟨more, e1, hg⟩ := allGo_goodL _ true [] T h
  rw [List.nil_append] at e1
  subst e1
  have hp : printP (joined (acc.map (·.1))) = printP (acc.map (·.1)) := by unfold joined; rw [joinGo_print]; rfl
  have ha : Alt true (joined (acc.map (·.1))) := joinGo_alt true [] _ trivial hg
  obtain ⟨m, h1, h2⟩ := alt_all _ (printP (joined (acc.map (·.1)))).length true [] ha (Nat.le_refl _)
  refine ⟨m, ?_, h2, hp⟩
  unfold allR
  rw [← hp, h1, List.nil_append]

end Go.Proofs.Ytpchljiiappmnaa
