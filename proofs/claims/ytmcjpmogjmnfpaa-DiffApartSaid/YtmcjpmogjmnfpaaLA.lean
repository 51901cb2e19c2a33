/- What edits make of a list of pins: the program's and the document's answer are the same; no program in sight. -/
import Derived.Test.YtmcjpmogjmnfpaaLE
namespace Go.Proofs.Ytmcjpmogjmnfpaa
open Go Go.RowKit

/-- The news of some edits, in their order. -/
def newsP (l : List Edit) : List Pin := l.filterMap fun e => if e.has then some e.new else none
/-- The pins that no edit turns. -/
def leftP (a : List Pin) (l : List Edit) : List Pin := a.filter fun p => !(l.any fun e => decide (e.key = p.key))
/-- The document's: one edit. -/
def stepP (pins : List Pin) (e : Edit) : List Pin := pins.filter (fun p => decide (p.key ≠ e.key)) ++ (if e.has then [e.new] else [])
def refPins (a : List Pin) (l : List Edit) : List Pin := l.foldl stepP a
def refRow (pins : List Pin) : List Pin := (keysP pins).map fun k => (findP pins k).getD noPin

theorem mayE_cons {e : Edit} {l : List Edit} (h : mayE (e :: l) = true) : editOk e = true ∧ mayE l = true ∧ ∀ f ∈ l, cmpK e.key f.key = -1 := by
  unfold mayE at h ⊢
  rw [Bool.and_eq_true, rise_iff, List.all_cons, Bool.and_eq_true, List.map_cons] at h
  obtain ⟨⟨h1, h2⟩, h3⟩ := h
  obtain ⟨h4, h5⟩ := List.pairwise_cons.1 h3
  refine ⟨h1, by rw [Bool.and_eq_true, rise_iff]; exact ⟨h2, h5⟩, fun f hf => h4 _ (List.mem_map.2 ⟨f, hf, rfl⟩)⟩
theorem editOk_new {e : Edit} (h : editOk e = true) (hh : e.has = true) : e.new.key = e.key := by
  unfold editOk at h
  simp only [Bool.and_eq_true] at h
  have := h.1.2
  rw [hh] at this
  simpa [sideOk] using this
theorem newsP_key : ∀ {l : List Edit}, mayE l = true → ∀ p ∈ newsP l, ∃ e ∈ l, e.key = p.key
  | [], _, p, hp => by simp [newsP] at hp
  | e :: l, h, p, hp => by
    obtain ⟨h1, h2, -⟩ := mayE_cons h
    obtain ⟨f, hf, hp⟩ := List.mem_filterMap.1 hp
    by_cases hh : f.has = true
    · rw [if_pos hh] at hp
      cases hp
      refine ⟨f, hf, ?_⟩
      rcases List.mem_cons.1 hf with rfl | hf'
      · exact (editOk_new h1 hh).symm
      · obtain ⟨g, hg, e1⟩ := newsP_key h2 f.new (List.mem_filterMap.2 ⟨f, hf', by rw [if_pos hh]⟩)
        have : editOk f = true := by
          unfold mayE at h2
          rw [Bool.and_eq_true, List.all_eq_true] at h2
          exact h2.1 f hf'
        exact (editOk_new this hh).symm
    · rw [if_neg hh] at hp; cases hp
theorem leftP_cons (a : List Pin) (e : Edit) (l : List Edit) : leftP (a.filter fun p => decide (p.key ≠ e.key)) l = leftP a (e :: l) := by
  unfold leftP
  rw [List.filter_filter]
  congr 1
  funext p
  rw [List.any_cons, Bool.not_or, Bool.and_comm]
  congr 1
  by_cases h : p.key = e.key
  · simp [h]
  · have : e.key ≠ p.key := fun e' => h e'.symm
    simp [h, this]
theorem leftP_app (a b : List Pin) (l : List Edit) : leftP (a ++ b) l = leftP a l ++ leftP b l := by unfold leftP; rw [List.filter_append]
theorem leftP_all {b : List Pin} {l : List Edit} (h : ∀ p ∈ b, ∀ e ∈ l, e.key ≠ p.key) : leftP b l = b := by
  unfold leftP
  rw [List.filter_eq_self]
  intro p hp
  rw [Bool.not_eq_true', List.any_eq_false]
  intro e he
  simpa using h p hp e he
theorem refPins_eq : ∀ (l : List Edit) (a : List Pin), mayE l = true → refPins a l = leftP a l ++ newsP l
  | [], a, _ => by
    have : leftP a [] = a := leftP_all fun p _ e he => by simp at he
    rw [this]; simp [refPins, newsP]
  | e :: l, a, h => by
    obtain ⟨h1, h2, h3⟩ := mayE_cons h
    have ih := refPins_eq l (stepP a e) h2
    show refPins (stepP a e) l = _
    rw [ih]
    unfold stepP
    rw [leftP_app, leftP_cons, List.append_assoc]
    congr 1
    by_cases hh : e.has = true
    · rw [if_pos hh, leftP_all (fun p hp f hf => by
        simp at hp; subst hp
        rw [editOk_new h1 hh]
        exact (ne_of_less (h3 f hf)).symm)]
      unfold newsP
      rw [List.filterMap_cons, if_pos hh]; rfl
    · rw [if_neg hh]
      unfold newsP
      rw [List.filterMap_cons, if_neg hh]; simp [leftP]

/-! A rising list of pins is fixed by its members. -/
theorem riseP_ext : ∀ {l m : List Pin}, RiseP l → RiseP m → (∀ x, x ∈ l ↔ x ∈ m) → l = m
  | [], [], _, _, _ => rfl
  | [], b :: m, _, _, h => absurd ((h b).2 (List.mem_cons_self ..)) (by simp)
  | a :: l, [], _, _, h => absurd ((h a).1 (List.mem_cons_self ..)) (by simp)
  | a :: l, b :: m, h1, h2, h => by
    obtain ⟨g1, g2⟩ := riseP_cons.1 h1
    obtain ⟨k1, k2⟩ := riseP_cons.1 h2
    have hab : a = b := by
      rcases List.mem_cons.1 ((h a).1 (List.mem_cons_self ..)) with e | e
      · exact e
      · rcases List.mem_cons.1 ((h b).2 (List.mem_cons_self ..)) with e' | e'
        · exact e'.symm
        · exact absurd (cmpK_trans (k1 a e) (g1 b e')) cmpK_irr
    subst hab
    rw [riseP_ext g2 k2 fun x => ⟨fun hx => ?_, fun hx => ?_⟩]
    · rcases List.mem_cons.1 ((h x).1 (List.mem_cons_of_mem _ hx)) with e | e
      · subst e; exact absurd (g1 _ hx) cmpK_irr
      · exact e
    · rcases List.mem_cons.1 ((h x).2 (List.mem_cons_of_mem _ hx)) with e | e
      · subst e; exact absurd (k1 _ hx) cmpK_irr
      · exact e
/-- Each Key once. -/
abbrev OnceP (l : List Pin) : Prop := (l.map (·.key)).Nodup
theorem riseP_once {l : List Pin} (h : RiseP l) : OnceP l := List.Pairwise.imp (fun h => ne_of_less h) h
theorem findP_once : ∀ {l : List Pin}, OnceP l → ∀ p ∈ l, findP l p.key = some p
  | [], _, p, hp => by simp at hp
  | a :: l, h, p, hp => by
    obtain ⟨h1, h2⟩ := List.nodup_cons.1 (show (a.key :: l.map (·.key)).Nodup from h)
    rcases List.mem_cons.1 hp with rfl | hp
    · exact findP_hit _ _
    · rw [findP_miss (fun e => h1 (by rw [e]; exact List.mem_map.2 ⟨p, hp, rfl⟩))]
      exact findP_once h2 p hp
theorem refRow_keys (pins : List Pin) : (refRow pins).map (·.key) = keysP pins := by
  unfold refRow
  rw [List.map_map]
  conv => rhs; rw [← List.map_id (keysP pins)]
  refine List.map_congr_left fun k hk => ?_
  obtain ⟨p, hp, e⟩ := (keysP_mem _ _).1 hk
  have h := findP_some ⟨p, hp, e⟩
  obtain ⟨q, hq⟩ := Option.isSome_iff_exists.1 h
  show ((findP pins k).getD noPin).key = id k
  rw [hq]; exact findP_key hq
theorem refRow_rise (pins : List Pin) : RiseP (refRow pins) := by
  show Rise ((refRow pins).map (·.key))
  rw [refRow_keys]; exact keysP_rise pins
theorem refRow_mem {pins : List Pin} (h : OnceP pins) (x : Pin) : x ∈ refRow pins ↔ x ∈ pins := by
  unfold refRow
  rw [List.mem_map]
  constructor
  · rintro ⟨k, hk, e⟩
    obtain ⟨p, hp, e2⟩ := (keysP_mem _ _).1 hk
    rw [← e2, findP_once h p hp] at e
    rw [← e]; exact hp
  · intro hx
    exact ⟨x.key, (keysP_mem _ _).2 ⟨x, hx, rfl⟩, by rw [findP_once h x hx]; rfl⟩
/-- What is sorted by Key and has each Key once rises. -/
theorem sorted_rise {s : List Pin} (h : s.Pairwise fun p q => cmpK p.key q.key ≠ 1) (ho : OnceP s) : RiseP s := by
  induction s with
  | nil => exact .nil
  | cons a s ih =>
    obtain ⟨h1, h2⟩ := List.pairwise_cons.1 h
    obtain ⟨o1, o2⟩ := List.nodup_cons.1 (show (a.key :: s.map (·.key)).Nodup from ho)
    refine riseP_cons.2 ⟨fun p hp => ?_, ih h2 o2⟩
    rcases cmpK_range a.key p.key with h | h | h
    · exact h
    · exact absurd (List.mem_map.2 ⟨p, hp, (cmpK_eq h).symm⟩) o1
    · exact absurd h (h1 p hp)
theorem newsP_once : ∀ {l : List Edit}, mayE l = true → OnceP (newsP l)
  | [], _ => List.nodup_nil
  | e :: l, h => by
    obtain ⟨h1, h2, h3⟩ := mayE_cons h
    have ih := newsP_once h2
    by_cases hh : e.has = true
    · have e1 : newsP (e :: l) = e.new :: newsP l := by unfold newsP; rw [List.filterMap_cons, if_pos hh]
      rw [e1]
      refine List.nodup_cons.2 ⟨fun hm => ?_, ih⟩
      obtain ⟨p, hp, e2⟩ := List.mem_map.1 hm
      obtain ⟨f, hf, e3⟩ := newsP_key h2 p hp
      have e4 : p.key = e.new.key := e2
      exact ne_of_less (h3 f hf) (by rw [e3, e4, editOk_new h1 hh])
    · have e1 : newsP (e :: l) = newsP l := by unfold newsP; rw [List.filterMap_cons, if_neg hh]
      rw [e1]; exact ih
theorem both_once {a : List Pin} {l : List Edit} (ha : OnceP a) (h : mayE l = true) : OnceP (newsP l ++ leftP a l) := by
  show ((newsP l ++ leftP a l).map (·.key)).Nodup
  rw [List.map_append, List.nodup_append]
  refine ⟨newsP_once h, ?_, fun x hx y hy e => ?_⟩
  · exact List.Nodup.sublist ((List.filter_sublist).map _) ha
  · obtain ⟨p, hp, rfl⟩ := List.mem_map.1 hx
    obtain ⟨q, hq, rfl⟩ := List.mem_map.1 hy
    obtain ⟨f, hf, e3⟩ := newsP_key h p hp
    unfold leftP at hq
    obtain ⟨-, hq2⟩ := List.mem_filter.1 hq
    rw [Bool.not_eq_true', List.any_eq_false] at hq2
    have := hq2 f hf
    simp at this
    exact this (e3.trans e)
/-- The law of DiffApplies. -/
theorem apply_same {a : List Pin} {l : List Edit} {s : List Pin} (ha : RiseP a) (h : mayE l = true) (hp : s.Perm (newsP l ++ leftP a l)) (hs : s.Pairwise fun p q => cmpK p.key q.key ≠ 1) : s = refRow (refPins a l) := by
  have ho := both_once (riseP_once ha) h
  have hos : OnceP s := ((hp.map (·.key)).nodup_iff).2 ho
  have hor : OnceP (refPins a l) := by
    rw [refPins_eq l a h]
    exact (((List.perm_append_comm (l₁ := newsP l) (l₂ := leftP a l)).map Pin.key).nodup_iff).1 ho
  refine riseP_ext (sorted_rise hs hos) (refRow_rise _) fun x => ?_
  rw [refRow_mem hor, hp.mem_iff, refPins_eq l a h]
  simp only [List.mem_append, or_comm]

end Go.Proofs.Ytmcjpmogjmnfpaa
