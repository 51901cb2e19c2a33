/- Edits that are joined: just those that go together are, what is joined may be, and does what both do; no program in sight. -/
import Derived.Test.YtmcjpmogjmnfpaaLB
import Derived.Test.YtmcjpmogjmnfpaaL26
namespace Go.Proofs.Ytmcjpmogjmnfpaa
open Go Go.RowKit

def findE (l : List Edit) (k : Key) : Option Edit := l.find? (fun p => decide (p.key = k))
/-- Two lists side by side. -/
def mergeE {β : Type} (f : Key → Option Edit → Option Edit → List β) : List Edit → List Edit → List β
  | [], [] => []
  | a :: l, [] => f a.key (some a) none ++ mergeE f l []
  | [], b :: m => f b.key none (some b) ++ mergeE f [] m
  | a :: l, b :: m =>
    if cmpK a.key b.key = -1 then f a.key (some a) none ++ mergeE f l (b :: m)
    else if cmpK a.key b.key = 1 then f b.key none (some b) ++ mergeE f (a :: l) m
    else f a.key (some a) (some b) ++ mergeE f l m
termination_by l m => l.length + m.length
/-- The Keys of both, merged. -/
def mergeKE : List Edit → List Edit → List Key
  | [], [] => []
  | a :: l, [] => a.key :: mergeKE l []
  | [], b :: m => b.key :: mergeKE [] m
  | a :: l, b :: m =>
    if cmpK a.key b.key = -1 then a.key :: mergeKE l (b :: m)
    else if cmpK a.key b.key = 1 then b.key :: mergeKE (a :: l) m
    else a.key :: mergeKE l m
termination_by l m => l.length + m.length
abbrev RiseE (l : List Edit) : Prop := Rise (l.map (·.key))
theorem riseE_cons {a : Edit} {l : List Edit} : RiseE (a :: l) ↔ (∀ p ∈ l, cmpK a.key p.key = -1) ∧ RiseE l := by
  show List.Pairwise (fun a b => cmpK a b = -1) (a.key :: l.map (·.key)) ↔ _
  rw [List.pairwise_cons]
  simp
theorem mergeKE_mem : ∀ (l m : List Edit) (x : Key), x ∈ mergeKE l m ↔ (∃ p ∈ l, p.key = x) ∨ ∃ p ∈ m, p.key = x
  | [], [], x => by rw [mergeKE]; simp
  | a :: l, [], x => by rw [mergeKE, List.mem_cons, mergeKE_mem l [] x]; simp [eq_comm]
  | [], b :: m, x => by rw [mergeKE, List.mem_cons, mergeKE_mem [] m x]; simp [eq_comm]
  | a :: l, b :: m, x => by
    rw [mergeKE]
    split
    · rw [List.mem_cons, mergeKE_mem l (b :: m) x]
      simp only [List.mem_cons, exists_eq_or_imp, eq_comm (a := x), or_assoc]
    · split
      · rw [List.mem_cons, mergeKE_mem (a :: l) m x]
        simp only [List.mem_cons, exists_eq_or_imp, eq_comm (a := x)]
        constructor
        · rintro (h | (h | h) | h)
          · exact .inr (.inl h)
          · exact .inl (.inl h)
          · exact .inl (.inr h)
          · exact .inr (.inr h)
        · rintro ((h | h) | h | h)
          · exact .inr (.inl (.inl h))
          · exact .inr (.inl (.inr h))
          · exact .inl h
          · exact .inr (.inr h)
      · rename_i h1 h2
        have he : a.key = b.key := by
          rcases cmpK_range a.key b.key with h | h | h
          · exact absurd h h1
          · exact cmpK_eq h
          · exact absurd h h2
        rw [List.mem_cons, mergeKE_mem l m x]
        simp only [List.mem_cons, exists_eq_or_imp, eq_comm (a := x), ← he]
        constructor
        · rintro (h | h | h)
          · exact .inl (.inl h)
          · exact .inl (.inr h)
          · exact .inr (.inr h)
        · rintro ((h | h) | h | h)
          · exact .inl h
          · exact .inr (.inl h)
          · exact .inl h
          · exact .inr (.inr h)
termination_by l m => l.length + m.length
theorem mergeKE_rise : ∀ (l m : List Edit), RiseE l → RiseE m → Rise (mergeKE l m)
  | [], [], _, _ => by rw [mergeKE]; exact .nil
  | a :: l, [], h, h' => by
    rw [mergeKE]
    obtain ⟨h1, h2⟩ := riseE_cons.1 h
    refine List.pairwise_cons.2 ⟨fun x hx => ?_, mergeKE_rise l [] h2 h'⟩
    rcases (mergeKE_mem l [] x).1 hx with ⟨p, hp, rfl⟩ | ⟨p, hp, rfl⟩
    · exact h1 p hp
    · simp at hp
  | [], b :: m, h, h' => by
    rw [mergeKE]
    obtain ⟨h1, h2⟩ := riseE_cons.1 h'
    refine List.pairwise_cons.2 ⟨fun x hx => ?_, mergeKE_rise [] m h h2⟩
    rcases (mergeKE_mem [] m x).1 hx with ⟨p, hp, rfl⟩ | ⟨p, hp, rfl⟩
    · simp at hp
    · exact h1 p hp
  | a :: l, b :: m, h, h' => by
    rw [mergeKE]
    obtain ⟨h1, h2⟩ := riseE_cons.1 h
    obtain ⟨k1, k2⟩ := riseE_cons.1 h'
    rcases merge_cases a.key b.key with hc | ⟨hc, hc'⟩ | ⟨hc, hc'⟩
    · rw [if_pos hc]
      refine List.pairwise_cons.2 ⟨fun x hx => ?_, mergeKE_rise l (b :: m) h2 h'⟩
      rcases (mergeKE_mem l (b :: m) x).1 hx with ⟨p, hp, rfl⟩ | ⟨p, hp, rfl⟩
      · exact h1 p hp
      · rcases List.mem_cons.1 hp with rfl | hp
        · exact hc
        · exact cmpK_trans hc (k1 p hp)
    · rw [if_neg (by omega), if_pos hc']
      refine List.pairwise_cons.2 ⟨fun x hx => ?_, mergeKE_rise (a :: l) m h k2⟩
      rcases (mergeKE_mem (a :: l) m x).1 hx with ⟨p, hp, rfl⟩ | ⟨p, hp, rfl⟩
      · rcases List.mem_cons.1 hp with rfl | hp
        · exact hc
        · exact cmpK_trans hc (h1 p hp)
      · exact k1 p hp
    · rw [if_neg (by omega), if_neg (by omega)]
      refine List.pairwise_cons.2 ⟨fun x hx => ?_, mergeKE_rise l m h2 k2⟩
      rcases (mergeKE_mem l m x).1 hx with ⟨p, hp, rfl⟩ | ⟨p, hp, rfl⟩
      · exact h1 p hp
      · rw [hc]; exact k1 p hp
termination_by l m => l.length + m.length

theorem flat_congrE {β : Type} {l : List Key} {f g : Key → List β} (h : ∀ x ∈ l, f x = g x) : l.flatMap f = l.flatMap g := by
  induction l with
  | nil => rfl
  | cons a l ih => rw [List.flatMap_cons, List.flatMap_cons, h a (List.mem_cons_self ..), ih fun x hx => h x (List.mem_cons_of_mem _ hx)]
theorem findE_none {l : List Edit} {k : Key} (h : ∀ p ∈ l, p.key ≠ k) : findE l k = none := by
  unfold findE
  rw [List.find?_eq_none]
  intro p hp
  simpa using h p hp
theorem findE_hit (a : Edit) (l : List Edit) : findE (a :: l) a.key = some a := by simp [findE]
theorem findE_miss {a : Edit} {l : List Edit} {k : Key} (h : a.key ≠ k) : findE (a :: l) k = findE l k := by
  unfold findE
  rw [List.find?_cons_of_neg (by simpa using h)]
theorem less_noneE {k : Key} {l : List Edit} (h : ∀ p ∈ l, cmpK k p.key = -1) : findE l k = none := findE_none fun p hp e => ne_of_less (h p hp) e.symm
theorem mergeE_eq {β : Type} (f : Key → Option Edit → Option Edit → List β) : ∀ (l m : List Edit), RiseE l → RiseE m → mergeE f l m = (mergeKE l m).flatMap fun k => f k (findE l k) (findE m k)
  | [], [], _, _ => by rw [mergeE, mergeKE]; rfl
  | a :: l, [], h, h' => by
    obtain ⟨h1, h2⟩ := riseE_cons.1 h
    have hr := List.pairwise_cons.1 (by have := mergeKE_rise (a :: l) [] h h'; rwa [mergeKE] at this)
    rw [mergeE, mergeKE, List.flatMap_cons, findE_hit, findE_none (l := []) (by simp), mergeE_eq f l [] h2 h']
    congr 1
    exact flat_congrE fun x hx => by rw [findE_miss (ne_of_less (hr.1 x hx))]
  | [], b :: m, h, h' => by
    obtain ⟨h1, h2⟩ := riseE_cons.1 h'
    have hr := List.pairwise_cons.1 (by have := mergeKE_rise [] (b :: m) h h'; rwa [mergeKE] at this)
    rw [mergeE, mergeKE, List.flatMap_cons, findE_hit, findE_none (l := []) (by simp), mergeE_eq f [] m h h2]
    congr 1
    exact flat_congrE fun x hx => by rw [findE_miss (a := b) (ne_of_less (hr.1 x hx))]
  | a :: l, b :: m, h, h' => by
    obtain ⟨h1, h2⟩ := riseE_cons.1 h
    obtain ⟨k1, k2⟩ := riseE_cons.1 h'
    have hr0 := mergeKE_rise (a :: l) (b :: m) h h'
    rw [mergeKE] at hr0
    rw [mergeE, mergeKE]
    rcases merge_cases a.key b.key with hc | ⟨hc, hc'⟩ | ⟨hc, hc'⟩
    · rw [if_pos hc] at hr0
      rw [if_pos hc, if_pos hc, List.flatMap_cons, findE_hit, less_noneE (l := b :: m) (fun p hp => by
        rcases List.mem_cons.1 hp with rfl | hp
        · exact hc
        · exact cmpK_trans hc (k1 p hp)), mergeE_eq f l (b :: m) h2 h']
      congr 1
      exact flat_congrE fun x hx => by rw [findE_miss (a := a) (ne_of_less ((List.pairwise_cons.1 hr0).1 x hx))]
    · rw [if_neg (by omega), if_pos hc'] at hr0
      rw [if_neg (by omega), if_pos hc', if_neg (by omega), if_pos hc', List.flatMap_cons, findE_hit, less_noneE (l := a :: l) (fun p hp => by
        rcases List.mem_cons.1 hp with rfl | hp
        · exact hc
        · exact cmpK_trans hc (h1 p hp)), mergeE_eq f (a :: l) m h k2]
      congr 1
      exact flat_congrE fun x hx => by rw [findE_miss (a := b) (ne_of_less ((List.pairwise_cons.1 hr0).1 x hx))]
    · rw [if_neg (by omega), if_neg (by omega)] at hr0
      rw [if_neg (by omega), if_neg (by omega), if_neg (by omega), if_neg (by omega), List.flatMap_cons, findE_hit, mergeE_eq f l m h2 k2]
      have hb : findE (b :: m) a.key = some b := by rw [hc]; exact findE_hit b m
      rw [hb]
      congr 1
      exact flat_congrE fun x hx => by
        have hx1 := (List.pairwise_cons.1 hr0).1 x hx
        rw [findE_miss (a := a) (ne_of_less hx1), findE_miss (a := b) (by rw [← hc]; exact ne_of_less hx1)]
termination_by l m => l.length + m.length

theorem findE_some {l : List Edit} {k : Key} (h : ∃ p ∈ l, p.key = k) : (findE l k).isSome = true := by
  obtain ⟨p, hp, e⟩ := h
  unfold findE
  rw [List.find?_isSome]
  exact ⟨p, hp, by simpa using e⟩
theorem findE_key {l : List Edit} {k : Key} {p : Edit} (h : findE l k = some p) : p.key = k := by
  unfold findE at h
  simpa using List.find?_some h

/-- What is put down for a Key where two rows of edits are joined. -/
def oneJ (k : Key) : Option Edit → Option Edit → List Edit
  | some x, none => [x]
  | none, some y => [y]
  | some x, some y => if x.has ≠ y.had ∨ x.new ≠ y.old then [] else if x.had ≠ y.has ∨ x.old ≠ y.new then [⟨k, x.had, y.has, x.old, y.new⟩] else []
  | none, none => []
def okJ : Option Edit → Option Edit → Bool
  | some x, some y => x.has == y.had && decide (x.new = y.old)
  | _, _ => true
def joinE (l m : List Edit) : List Edit := mergeE oneJ l m
def okM (l m : List Edit) : Bool := (mergeE (fun _ a b => [okJ a b]) l m).all id
def joinR (l m : List Edit) : Option (List Edit) := if mayE l && mayE m && okM l m then some (joinE l m) else none
def togB (x y : Edit) : Bool := decide (x.key ≠ y.key) || x.has == y.had && decide (x.new = y.old)
def togetherB (l m : List Edit) : Bool := mayE l && mayE m && l.all fun x => m.all (togB x)

theorem riseE_of_may {l : List Edit} (h : mayE l = true) : RiseE l := by
  unfold mayE at h
  rw [Bool.and_eq_true, rise_iff] at h
  exact h.2
theorem ok_of_may {l : List Edit} (h : mayE l = true) : ∀ e ∈ l, editOk e = true := by
  unfold mayE at h
  rw [Bool.and_eq_true, List.all_eq_true] at h
  exact h.1
theorem findE_once : ∀ {l : List Edit}, RiseE l → ∀ p ∈ l, findE l p.key = some p
  | [], _, p, hp => by simp at hp
  | a :: l, h, p, hp => by
    obtain ⟨h1, h2⟩ := riseE_cons.1 h
    rcases List.mem_cons.1 hp with rfl | hp
    · exact findE_hit _ _
    · rw [findE_miss (ne_of_less (h1 p hp))]
      exact findE_once h2 p hp
theorem findE_in {l : List Edit} {k : Key} {p : Edit} (h : findE l k = some p) : p ∈ l := List.mem_of_find?_eq_some h
theorem findE_iff {l : List Edit} (h : RiseE l) {k : Key} {e : Edit} : findE l k = some e ↔ e ∈ l ∧ e.key = k :=
  ⟨fun h => ⟨findE_in h, findE_key h⟩, fun ⟨h1, h2⟩ => by subst h2; exact findE_once h e h1⟩
theorem findP_iff {l : List Pin} (h : OnceP l) {k : Key} {e : Pin} : findP l k = some e ↔ e ∈ l ∧ e.key = k :=
  ⟨fun h => ⟨findP_in h, findP_key h⟩, fun ⟨h1, h2⟩ => by subst h2; exact findP_once h e h1⟩
theorem okM_iff {l m : List Edit} (h : RiseE l) (h' : RiseE m) : okM l m = true ↔ ∀ k, okJ (findE l k) (findE m k) = true := by
  unfold okM
  rw [mergeE_eq _ l m h h', List.all_eq_true]
  constructor
  · intro hk k
    by_cases hm : k ∈ mergeKE l m
    · exact hk _ (List.mem_flatMap.2 ⟨k, hm, List.mem_singleton.2 rfl⟩)
    · rw [mergeKE_mem] at hm
      simp only [not_or, not_exists, not_and] at hm
      rw [findE_none hm.1]; rfl
  · intro hk x hx
    obtain ⟨k, hk1, hx⟩ := List.mem_flatMap.1 hx
    simp only [List.mem_cons, List.not_mem_nil, or_false] at hx
    rw [hx]; exact hk k
theorem together_same (l m : List Edit) : (joinR l m).isSome = togetherB l m := by
  unfold joinR togetherB
  cases h1 : mayE l with
  | false => simp
  | true =>
  cases h2 : mayE m with
  | false => simp
  | true =>
  simp only [Bool.true_and]
  have h3 := riseE_of_may h1
  have h4 := riseE_of_may h2
  have h5 : okM l m = l.all fun x => m.all (togB x) := by
    rw [Bool.eq_iff_iff, okM_iff h3 h4, List.all_eq_true]
    constructor
    · intro hk x hx
      rw [List.all_eq_true]
      intro y hy
      unfold togB
      by_cases hxy : x.key = y.key
      · have h6 := hk x.key
        rw [findE_once h3 x hx, (findE_iff h4).2 ⟨hy, hxy.symm⟩] at h6
        rw [show decide (x.key ≠ y.key) = false by simpa using hxy, Bool.false_or]
        exact h6
      · rw [show decide (x.key ≠ y.key) = true by simpa using hxy, Bool.true_or]
    · intro hk k
      cases h6 : findE l k with
      | none => rfl
      | some x =>
        cases h7 : findE m k with
        | none => rfl
        | some y =>
          have h8 := List.all_eq_true.1 (hk x (findE_in h6)) y (findE_in h7)
          unfold togB at h8
          rw [show decide (x.key ≠ y.key) = false by simp [findE_key h6, findE_key h7], Bool.false_or] at h8
          exact h8
  rw [h5]
  cases (l.all fun x => m.all (togB x)) <;> simp
theorem oneJ_key {k : Key} {a b : Option Edit} (ha : ∀ x, a = some x → x.key = k) (hb : ∀ y, b = some y → y.key = k) : ∀ e ∈ oneJ k a b, e.key = k := by
  intro e he
  cases a with
  | none =>
    cases b with
    | none => simp [oneJ] at he
    | some y => simp only [oneJ, List.mem_cons, List.not_mem_nil, or_false] at he; rw [he]; exact hb y rfl
  | some x =>
    cases b with
    | none => simp only [oneJ, List.mem_cons, List.not_mem_nil, or_false] at he; rw [he]; exact ha x rfl
    | some y =>
      simp only [oneJ] at he
      split at he
      · simp at he
      · split at he
        · simp only [List.mem_cons, List.not_mem_nil, or_false] at he; rw [he]
        · simp at he
theorem mem_joinE {l m : List Edit} (h : RiseE l) (h' : RiseE m) {e : Edit} : e ∈ joinE l m ↔ e ∈ oneJ e.key (findE l e.key) (findE m e.key) := by
  unfold joinE
  rw [mergeE_eq _ l m h h', List.mem_flatMap]
  constructor
  · rintro ⟨k, -, he⟩
    have := oneJ_key (fun x hx => findE_key hx) (fun y hy => findE_key hy) e he
    rw [this]; exact he
  · intro he
    refine ⟨e.key, ?_, he⟩
    rw [mergeKE_mem]
    cases h1 : findE l e.key with
    | some x => exact .inl ⟨x, findE_in h1, findE_key h1⟩
    | none =>
      cases h2 : findE m e.key with
      | some y => exact .inr ⟨y, findE_in h2, findE_key h2⟩
      | none => rw [h1, h2] at he; simp [oneJ] at he
theorem oneJ_le (k : Key) (a b : Option Edit) : (oneJ k a b).length ≤ 1 := by
  cases a <;> cases b <;> simp only [oneJ, List.length_cons, List.length_nil] <;> (try omega)
  split
  · simp
  · split <;> simp
theorem oneJ_keys (f g : Key → Option Edit) (hf : ∀ k x, f k = some x → x.key = k) (hg : ∀ k x, g k = some x → x.key = k) : ∀ l : List Key, ((l.flatMap fun k => oneJ k (f k) (g k)).map (·.key)).Sublist l
  | [] => .slnil
  | k :: l => by
    have ih := oneJ_keys f g hf hg l
    rw [List.flatMap_cons, List.map_append]
    have h1 := oneJ_le k (f k) (g k)
    have h2 := oneJ_key (k := k) (hf k) (hg k)
    generalize oneJ k (f k) (g k) = r at h1 h2 ⊢
    match r, h1, h2 with
    | [], _, _ => exact ih.cons k
    | [e], _, h2 =>
      obtain rfl := h2 e (by simp)
      simpa using ih.cons_cons e.key
theorem joinE_rise {l m : List Edit} (h : RiseE l) (h' : RiseE m) : RiseE (joinE l m) := by
  unfold joinE
  rw [mergeE_eq _ l m h h']
  exact (mergeKE_rise l m h h').sublist (oneJ_keys _ _ (fun _ _ hx => findE_key hx) (fun _ _ hx => findE_key hx) _)
theorem side_key {k : Key} {is : Bool} {p : Pin} (h : sideOk k is p = true) (hi : is = true) : p.key = k := by subst hi; simpa [sideOk] using h
theorem side_no {k : Key} {is : Bool} {p : Pin} (h : sideOk k is p = true) (hi : is = false) : p = noPin := by subst hi; simpa [sideOk] using h
theorem joinE_may {l m : List Edit} (h : mayE l = true) (h' : mayE m = true) : mayE (joinE l m) = true := by
  have h1 := riseE_of_may h
  have h2 := riseE_of_may h'
  unfold mayE
  rw [Bool.and_eq_true, rise_iff, List.all_eq_true]
  refine ⟨fun e he => ?_, joinE_rise h1 h2⟩
  rw [mem_joinE h1 h2] at he
  cases h3 : findE l e.key with
  | none =>
    cases h4 : findE m e.key with
    | none => rw [h3, h4] at he; simp [oneJ] at he
    | some y => rw [h3, h4] at he; simp only [oneJ, List.mem_cons, List.not_mem_nil, or_false] at he; rw [he]; exact ok_of_may h' y (findE_in h4)
  | some x =>
    cases h4 : findE m e.key with
    | none => rw [h3, h4] at he; simp only [oneJ, List.mem_cons, List.not_mem_nil, or_false] at he; rw [he]; exact ok_of_may h x (findE_in h3)
    | some y =>
      have hx := ok_of_may h x (findE_in h3)
      have hy := ok_of_may h' y (findE_in h4)
      have kx := findE_key h3
      have ky := findE_key h4
      rw [h3, h4] at he
      simp only [oneJ] at he
      split at he
      · simp at he
      · split at he
        · rename_i hc
          simp only [List.mem_cons, List.not_mem_nil, or_false] at he
          generalize e.key = k at *
          subst he
          unfold editOk at hx hy ⊢
          simp only [Bool.and_eq_true] at hx hy ⊢
          obtain ⟨⟨⟨x1, x2⟩, x3⟩, x4⟩ := hx
          obtain ⟨⟨⟨y1, y2⟩, y3⟩, y4⟩ := hy
          rw [kx] at x2
          rw [ky] at y3
          refine ⟨⟨⟨?_, x2⟩, y3⟩, ?_⟩
          · cases hh : x.had with
            | true => rfl
            | false =>
              cases hg : y.has with
              | true => rfl
              | false =>
                exfalso
                rcases hc with hc | hc
                · rw [hh, hg] at hc; exact hc rfl
                · exact hc ((side_no x2 hh).trans (side_no y3 hg).symm)
          · rcases hc with hc | hc
            · rw [show (x.had == y.has) = false by simpa using hc]; simp
            · rw [show decide (x.old = y.new) = false by simpa using hc]; simp
        · simp at he

/-! What applying does, Key by Key. -/
theorem refPins_once {a : List Pin} {l : List Edit} (ha : RiseP a) (hm : mayE l = true) : OnceP (refPins a l) := by
  rw [refPins_eq _ a hm]
  exact (((List.perm_append_comm (l₁ := newsP l) (l₂ := leftP a l)).map Pin.key).nodup_iff).1 (both_once (riseP_once ha) hm)
def afterP (a : Option Pin) (e : Option Edit) : Option Pin := match e with | some e => if e.has then some e.new else none | none => a
theorem find_apply {a : List Pin} {l : List Edit} (ha : RiseP a) (hm : mayE l = true) (k : Key) : findP (refRow (refPins a l)) k = afterP (findP a k) (findE l k) := by
  have hr := riseE_of_may hm
  have hor := refPins_once ha hm
  apply Option.ext
  intro p
  rw [findP_iff (riseP_once (refRow_rise _)), refRow_mem hor, refPins_eq _ a hm, List.mem_append]
  unfold afterP
  cases he : findE l k with
  | some e =>
    have e1 := findE_in he
    have e2 := findE_key he
    constructor
    · rintro ⟨hp | hp, hk⟩
      · unfold leftP at hp
        have h2 := (List.mem_filter.1 hp).2
        rw [Bool.not_eq_true', List.any_eq_false] at h2
        exact absurd (e2.trans hk.symm) (by simpa using h2 e e1)
      · unfold newsP at hp
        obtain ⟨f, hf, hp⟩ := List.mem_filterMap.1 hp
        by_cases hh : f.has = true
        · rw [if_pos hh] at hp
          cases hp
          have h3 := editOk_new (ok_of_may hm f hf) hh
          have h4 := (findE_iff hr).2 ⟨hf, h3.symm.trans hk⟩
          rw [he] at h4
          cases h4
          simp [hh]
        · rw [if_neg hh] at hp; cases hp
    · intro h
      by_cases hh : e.has = true
      · simp only [hh, if_true, Option.some.injEq] at h
        subst h
        refine ⟨.inr ?_, (editOk_new (ok_of_may hm e e1) hh).trans e2⟩
        unfold newsP
        exact List.mem_filterMap.2 ⟨e, e1, by rw [if_pos hh]⟩
      · simp [hh] at h
  | none =>
    have hno : ∀ f ∈ l, f.key ≠ k := fun f hf e => by
      have := (findE_iff hr).2 ⟨hf, e⟩
      rw [he] at this; cases this
    simp only
    rw [findP_iff (riseP_once ha)]
    constructor
    · rintro ⟨hp | hp, hk⟩
      · exact ⟨(List.mem_filter.1 hp).1, hk⟩
      · obtain ⟨f, hf, e⟩ := newsP_key hm p hp
        exact absurd (e.trans hk) (hno f hf)
    · rintro ⟨hp, hk⟩
      refine ⟨.inl (List.mem_filter.2 ⟨hp, ?_⟩), hk⟩
      rw [Bool.not_eq_true', List.any_eq_false]
      intro f hf
      simpa [hk] using hno f hf
theorem riseP_find {l m : List Pin} (h : RiseP l) (h' : RiseP m) (hf : ∀ k, findP l k = findP m k) : l = m :=
  riseP_ext h h' fun x => by
    have h1 := @findP_iff l (riseP_once h) x.key x
    have h2 := @findP_iff m (riseP_once h') x.key x
    rw [hf] at h1
    constructor
    · intro hx; exact (h2.1 (h1.2 ⟨hx, rfl⟩)).1
    · intro hx; exact (h1.1 (h2.2 ⟨hx, rfl⟩)).1
theorem fitsB_iff {a : List Pin} {l : List Edit} : fitsB a l = true ↔ FitsP a l := by
  unfold fitsB FitsP
  rw [List.all_eq_true]
  refine forall_congr' fun e => forall_congr' fun _ => ?_
  unfold fitB pinEq
  rw [Bool.and_eq_true, decide_eq_true_eq, beq_iff_eq]
theorem findE_join {l m : List Edit} (h : RiseE l) (h' : RiseE m) (k : Key) : findE (joinE l m) k = (oneJ k (findE l k) (findE m k)).head? := by
  apply Option.ext
  intro e
  rw [findE_iff (joinE_rise h h'), mem_joinE h h']
  have h1 := oneJ_le k (findE l k) (findE m k)
  have h2 := oneJ_key (k := k) (fun x hx => findE_key (l := l) hx) (fun y hy => findE_key (l := m) hy)
  constructor
  · rintro ⟨he, rfl⟩
    generalize oneJ e.key (findE l e.key) (findE m e.key) = r at *
    match r, h1 with
    | [], _ => simp at he
    | [f], _ => simp at he; simp [he]
  · intro he
    have h3 : e ∈ oneJ k (findE l k) (findE m k) := List.mem_of_head? he
    have h4 := h2 e h3
    subst h4
    exact ⟨h3, rfl⟩
/-- What is joined does what both do. -/
theorem joined_does {a b c : Lock} {l m j : List Edit} (hj : joinR l m = some j) (hb : applyR a l = some b) (hc : applyR b m = some c) : applyR a j = some c := by
  unfold joinR at hj
  split at hj
  · rename_i h0
    cases hj
    simp only [Bool.and_eq_true] at h0
    obtain ⟨⟨hl, hm⟩, hok⟩ := h0
    have rl := riseE_of_may hl
    have rm := riseE_of_may hm
    rw [okM_iff rl rm] at hok
    unfold applyR at hb hc ⊢
    split at hb
    · rename_i h1
      cases hb
      split at hc
      · rename_i h2
        cases hc
        simp only [Bool.and_eq_true] at h1 h2
        obtain ⟨⟨⟨a1, -⟩, a3⟩, a4⟩ := h1
        obtain ⟨⟨⟨-, -⟩, b3⟩, b4⟩ := h2
        rw [fitsB_iff] at a3 b3
        have ra : RiseP a.pins := by
          unfold lockMay at a1
          simp only [Bool.and_eq_true] at a1
          exact (rise_iff _).1 a1.1.1.2
        have hjm := joinE_may hl hm
        have fb : ∀ k, findP (outL a l).pins k = afterP (findP a.pins k) (findE l k) := find_apply ra hl
        have fc : ∀ k, findP (outL (outL a l) m).pins k = afterP (findP (outL a l).pins k) (findE m k) := find_apply (refRow_rise _) hm
        have fd : ∀ k, findP (outL a (joinE l m)).pins k = afterP (findP a.pins k) (findE (joinE l m) k) := find_apply ra hjm
        have A : ∀ k x, findE l k = some x → (findP a.pins k).isSome = x.had ∧ (findP a.pins k).getD noPin = x.old := fun k x h => by
          have := a3 x (findE_in h)
          rwa [findE_key h] at this
        have B : ∀ k y, findE m k = some y → (findP (outL a l).pins k).isSome = y.had ∧ (findP (outL a l).pins k).getD noPin = y.old := fun k y h => by
          have := b3 y (findE_in h)
          rwa [findE_key h] at this
        have same : outL a (joinE l m) = outL (outL a l) m := by
          have hp : (outL a (joinE l m)).pins = (outL (outL a l) m).pins := by
            refine riseP_find (refRow_rise _) (refRow_rise _) fun k => ?_
            rw [fd, fc, fb, findE_join rl rm]
            have ok := hok k
            cases h3 : findE l k with
            | none => cases h4 : findE m k <;> rfl
            | some x =>
              cases h4 : findE m k with
              | none => rfl
              | some y =>
                rw [h3, h4] at ok
                simp only [okJ, Bool.and_eq_true, beq_iff_eq, decide_eq_true_eq] at ok
                simp only [oneJ]
                rw [if_neg (by simp [ok.1, ok.2])]
                split
                · rfl
                · rename_i hn
                  simp only [not_or, Decidable.not_not] at hn
                  obtain ⟨x1, x2⟩ := A k x h3
                  simp only [List.head?_nil, afterP]
                  rw [hn.1] at x1
                  rw [hn.2] at x2
                  cases h5 : findP a.pins k with
                  | none => rw [h5] at x1; rw [← x1]; simp
                  | some q => rw [h5] at x1 x2; rw [← x1]; simp at x2 ⊢; exact x2
          show (⟨a.root, _⟩ : Lock) = ⟨a.root, _⟩
          exact congrArg _ hp
        have hfit : fitsB a.pins (joinE l m) = true := by
          rw [fitsB_iff]
          intro e he
          rw [mem_joinE rl rm] at he
          have fbk := fb e.key
          have ok := hok e.key
          cases h3 : findE l e.key with
          | none =>
            cases h4 : findE m e.key with
            | none => rw [h3, h4] at he; simp [oneJ] at he
            | some y =>
              have := B _ y h4
              rw [fbk, h3] at this
              rw [h3, h4] at he; simp only [oneJ, List.mem_cons, List.not_mem_nil, or_false] at he
              rw [← he] at this
              exact this
          | some x =>
            have hx := A _ x h3
            cases h4 : findE m e.key with
            | none =>
              rw [h3, h4] at he; simp only [oneJ, List.mem_cons, List.not_mem_nil, or_false] at he
              rw [← he] at hx
              exact hx
            | some y =>
              rw [h3, h4] at he
              simp only [oneJ] at he
              split at he
              · simp at he
              · split at he
                · simp only [List.mem_cons, List.not_mem_nil, or_false] at he
                  rw [he]
                  exact hx
                · simp at he
        rw [if_pos (by rw [same, b4, a1, hjm, hfit]; rfl), same]
      · cases hc
    · cases hb
  · cases hj

end Go.Proofs.Ytmcjpmogjmnfpaa
