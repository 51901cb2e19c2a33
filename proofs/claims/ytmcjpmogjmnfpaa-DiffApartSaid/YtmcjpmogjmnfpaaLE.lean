/- What is another one in two lists of pins: the merging of the program and the document's answer are the same; no program in sight. -/
import Derived.Test.YtmcjpmogjmnfpaaL0
namespace Go.Proofs.Ytmcjpmogjmnfpaa
open Go Go.RowKit

/-- An edit of a Key. -/
def editOf (k : Key) (a b : Option Pin) : Edit := ⟨k, a.isSome, b.isSome, a.getD noPin, b.getD noPin⟩
/-- What the program puts down for a Key. -/
def oneE (k : Key) (a b : Option Pin) : List Edit := if a = none ∨ b = none ∨ a ≠ b then [editOf k a b] else []
/-- Two lists side by side. -/
def mergeP (f : Key → Option Pin → Option Pin → List Edit) : List Pin → List Pin → List Edit
  | [], [] => []
  | a :: l, [] => f a.key (some a) none ++ mergeP f l []
  | [], b :: m => f b.key none (some b) ++ mergeP f [] m
  | a :: l, b :: m =>
    if cmpK a.key b.key = -1 then f a.key (some a) none ++ mergeP f l (b :: m)
    else if cmpK a.key b.key = 1 then f b.key none (some b) ++ mergeP f (a :: l) m
    else f a.key (some a) (some b) ++ mergeP f l m
termination_by l m => l.length + m.length
def editsP (a b : List Pin) : List Edit := mergeP oneE a b

/-! The document's. -/
def findP (l : List Pin) (k : Key) : Option Pin := l.find? (fun p => decide (p.key = k))
/-- How many Keys of a list are ahead of k. -/
def aheadK (k : Key) : List Key → Nat
  | [] => 0
  | x :: l => if cmpK x k = -1 then aheadK k l + 1 else 0
def insK (out : List Key) (k : Key) : List Key := if out[aheadK k out]? = some k then out else out.take (aheadK k out) ++ k :: out.drop (aheadK k out)
def keysP (l : List Pin) : List Key := l.foldl (fun out p => insK out p.key) []
def oneR (k : Key) (a b : Option Pin) : List Edit := if a.isSome ≠ b.isSome ∨ a.getD noPin ≠ b.getD noPin then [editOf k a b] else []
def refEdits (a b : List Pin) : List Edit := (keysP (a ++ b)).flatMap fun k => oneR k (findP a k) (findP b k)

abbrev Rise (l : List Key) : Prop := l.Pairwise fun a b => cmpK a b = -1
theorem cmpK_irr {a : Key} : cmpK a a ≠ -1 := by rw [cmpK_refl]; decide
theorem rise_iff : ∀ l : List Key, rises l = true ↔ Rise l
  | [] => by simp [rises]
  | [a] => by simp [rises]
  | a :: b :: l => by
    rw [rises, Bool.and_eq_true, decide_eq_true_eq, rise_iff (b :: l)]
    constructor
    · rintro ⟨h1, h2⟩
      refine List.pairwise_cons.2 ⟨fun x hx => ?_, h2⟩
      rcases List.mem_cons.1 hx with rfl | hx
      · exact h1
      · exact cmpK_trans h1 ((List.pairwise_cons.1 h2).1 x hx)
    · intro h
      obtain ⟨h1, h2⟩ := List.pairwise_cons.1 h
      exact ⟨h1 b (List.mem_cons_self ..), h2⟩
theorem rise_ext : ∀ {l m : List Key}, Rise l → Rise m → (∀ x, x ∈ l ↔ x ∈ m) → l = m
  | [], [], _, _, _ => rfl
  | [], b :: m, _, _, h => absurd ((h b).2 (List.mem_cons_self ..)) (by simp)
  | a :: l, [], _, _, h => absurd ((h a).1 (List.mem_cons_self ..)) (by simp)
  | a :: l, b :: m, h1, h2, h => by
    obtain ⟨g1, g2⟩ := List.pairwise_cons.1 h1
    obtain ⟨k1, k2⟩ := List.pairwise_cons.1 h2
    have hab : a = b := by
      rcases List.mem_cons.1 ((h a).1 (List.mem_cons_self ..)) with e | e
      · exact e
      · rcases List.mem_cons.1 ((h b).2 (List.mem_cons_self ..)) with e' | e'
        · exact e'.symm
        · exact absurd (cmpK_trans (k1 a e) (g1 b e')) cmpK_irr
    subst hab
    rw [rise_ext g2 k2 fun x => ⟨fun hx => ?_, fun hx => ?_⟩]
    · rcases List.mem_cons.1 ((h x).1 (List.mem_cons_of_mem _ hx)) with e | e
      · subst e; exact absurd (g1 _ hx) cmpK_irr
      · exact e
    · rcases List.mem_cons.1 ((h x).2 (List.mem_cons_of_mem _ hx)) with e | e
      · subst e; exact absurd (k1 _ hx) cmpK_irr
      · exact e

theorem insK_cons (x : Key) (l : List Key) (k : Key) : insK (x :: l) k = if cmpK x k = -1 then x :: insK l k else if x = k then x :: l else k :: x :: l := by
  unfold insK
  rw [aheadK]
  by_cases h : cmpK x k = -1
  · rw [if_pos h, if_pos h]
    simp only [List.getElem?_cons_succ, List.take_succ_cons, List.drop_succ_cons]
    split
    · rfl
    · rfl
  · rw [if_neg h, if_neg h]
    simp
theorem insK_mem (l : List Key) (k x : Key) : x ∈ insK l k ↔ x ∈ l ∨ x = k := by
  induction l with
  | nil => simp [insK, aheadK]
  | cons y l ih =>
    rw [insK_cons]
    split
    · simp only [List.mem_cons, ih, or_assoc]
    · split
      · rename_i h; subst h
        simp only [List.mem_cons]
        constructor
        · intro h; exact .inl h
        · rintro (h | h)
          · exact h
          · exact .inl h
      · simp only [List.mem_cons]
        constructor
        · rintro (h | h | h)
          · exact .inr h
          · exact .inl (.inl h)
          · exact .inl (.inr h)
        · rintro ((h | h) | h)
          · exact .inr (.inl h)
          · exact .inr (.inr h)
          · exact .inl h
theorem insK_rise {l : List Key} (k : Key) (h : Rise l) : Rise (insK l k) := by
  induction l with
  | nil => simp [insK, aheadK]
  | cons y l ih =>
    obtain ⟨h1, h2⟩ := List.pairwise_cons.1 h
    rw [insK_cons]
    split
    · rename_i hy
      refine List.pairwise_cons.2 ⟨fun x hx => ?_, ih h2⟩
      rcases (insK_mem l k x).1 hx with hx | rfl
      · exact h1 x hx
      · exact hy
    · split
      · exact h
      · rename_i hy hne
        have hk : cmpK k y = -1 := by
          have h0 := cmpK_range y k
          have h3 := cmpK_anti y k
          rcases h0 with h0 | h0 | h0
          · exact absurd h0 hy
          · exact absurd (cmpK_eq h0) hne
          · omega
        refine List.pairwise_cons.2 ⟨fun x hx => ?_, h⟩
        rcases List.mem_cons.1 hx with rfl | hx
        · exact hk
        · exact cmpK_trans hk (h1 x hx)
theorem fold_keys (l : List Pin) : ∀ out : List Key, Rise out → Rise (l.foldl (fun out p => insK out p.key) out) ∧ ∀ x, x ∈ l.foldl (fun out p => insK out p.key) out ↔ x ∈ out ∨ ∃ p ∈ l, p.key = x := by
  induction l with
  | nil => intro out h; exact ⟨h, fun x => by simp⟩
  | cons p l ih =>
    intro out h
    obtain ⟨h1, h2⟩ := ih (insK out p.key) (insK_rise _ h)
    refine ⟨h1, fun x => ?_⟩
    rw [List.foldl_cons, h2 x, insK_mem]
    constructor
    · rintro ((h | h) | ⟨q, hq, e⟩)
      · exact .inl h
      · exact .inr ⟨p, List.mem_cons_self .., h.symm⟩
      · exact .inr ⟨q, List.mem_cons_of_mem _ hq, e⟩
    · rintro (h | ⟨q, hq, e⟩)
      · exact .inl (.inl h)
      · rcases List.mem_cons.1 hq with rfl | hq
        · exact .inl (.inr e.symm)
        · exact .inr ⟨q, hq, e⟩
theorem keysP_rise (l : List Pin) : Rise (keysP l) := (fold_keys l [] .nil).1
theorem keysP_mem (l : List Pin) (x : Key) : x ∈ keysP l ↔ ∃ p ∈ l, p.key = x := by
  have := (fold_keys l [] .nil).2 x
  unfold keysP
  rw [this]; simp

/-- The Keys of both, merged. -/
def mergeK : List Pin → List Pin → List Key
  | [], [] => []
  | a :: l, [] => a.key :: mergeK l []
  | [], b :: m => b.key :: mergeK [] m
  | a :: l, b :: m =>
    if cmpK a.key b.key = -1 then a.key :: mergeK l (b :: m)
    else if cmpK a.key b.key = 1 then b.key :: mergeK (a :: l) m
    else a.key :: mergeK l m
termination_by l m => l.length + m.length
abbrev RiseP (l : List Pin) : Prop := Rise (l.map (·.key))
theorem riseP_cons {a : Pin} {l : List Pin} : RiseP (a :: l) ↔ (∀ p ∈ l, cmpK a.key p.key = -1) ∧ RiseP l := by
  show List.Pairwise (fun a b => cmpK a b = -1) (a.key :: l.map (·.key)) ↔ _
  rw [List.pairwise_cons]
  simp
theorem mergeK_mem : ∀ (l m : List Pin) (x : Key), x ∈ mergeK l m ↔ (∃ p ∈ l, p.key = x) ∨ ∃ p ∈ m, p.key = x
  | [], [], x => by rw [mergeK]; simp
  | a :: l, [], x => by rw [mergeK, List.mem_cons, mergeK_mem l [] x]; simp [eq_comm]
  | [], b :: m, x => by rw [mergeK, List.mem_cons, mergeK_mem [] m x]; simp [eq_comm]
  | a :: l, b :: m, x => by
    rw [mergeK]
    split
    · rw [List.mem_cons, mergeK_mem l (b :: m) x]
      simp only [List.mem_cons, exists_eq_or_imp, eq_comm (a := x), or_assoc]
    · split
      · rw [List.mem_cons, mergeK_mem (a :: l) m x]
        simp only [List.mem_cons, exists_eq_or_imp, eq_comm (a := x)]
        constructor
        · rintro (h | (h | h) | h)
          · exact .inr (.inl h)
          · exact .inl (.inl h)
          · exact .inl (.inr h)
          · exact .inr (.inr h)
        · rintro ((h | h) | h | h)
          · exact .inr (.inl (.inl h))
          · exact .inr (.inl (.inr h))
          · exact .inl h
          · exact .inr (.inr h)
      · rename_i h1 h2
        have he : a.key = b.key := by
          rcases cmpK_range a.key b.key with h | h | h
          · exact absurd h h1
          · exact cmpK_eq h
          · exact absurd h h2
        rw [List.mem_cons, mergeK_mem l m x]
        simp only [List.mem_cons, exists_eq_or_imp, eq_comm (a := x), ← he]
        constructor
        · rintro (h | h | h)
          · exact .inl (.inl h)
          · exact .inl (.inr h)
          · exact .inr (.inr h)
        · rintro ((h | h) | h | h)
          · exact .inl h
          · exact .inr (.inl h)
          · exact .inl h
          · exact .inr (.inr h)
termination_by l m => l.length + m.length
theorem merge_cases (a b : Key) : cmpK a b = -1 ∨ cmpK b a = -1 ∧ cmpK a b = 1 ∨ a = b ∧ cmpK a b = 0 := by
  have h1 := cmpK_anti a b
  rcases cmpK_range a b with h | h | h
  · exact .inl h
  · exact .inr (.inr ⟨cmpK_eq h, h⟩)
  · exact .inr (.inl ⟨by omega, h⟩)
theorem mergeK_rise : ∀ (l m : List Pin), RiseP l → RiseP m → Rise (mergeK l m)
  | [], [], _, _ => by rw [mergeK]; exact .nil
  | a :: l, [], h, h' => by
    rw [mergeK]
    obtain ⟨h1, h2⟩ := riseP_cons.1 h
    refine List.pairwise_cons.2 ⟨fun x hx => ?_, mergeK_rise l [] h2 h'⟩
    rcases (mergeK_mem l [] x).1 hx with ⟨p, hp, rfl⟩ | ⟨p, hp, rfl⟩
    · exact h1 p hp
    · simp at hp
  | [], b :: m, h, h' => by
    rw [mergeK]
    obtain ⟨h1, h2⟩ := riseP_cons.1 h'
    refine List.pairwise_cons.2 ⟨fun x hx => ?_, mergeK_rise [] m h h2⟩
    rcases (mergeK_mem [] m x).1 hx with ⟨p, hp, rfl⟩ | ⟨p, hp, rfl⟩
    · simp at hp
    · exact h1 p hp
  | a :: l, b :: m, h, h' => by
    rw [mergeK]
    obtain ⟨h1, h2⟩ := riseP_cons.1 h
    obtain ⟨k1, k2⟩ := riseP_cons.1 h'
    rcases merge_cases a.key b.key with hc | ⟨hc, hc'⟩ | ⟨hc, hc'⟩
    · rw [if_pos hc]
      refine List.pairwise_cons.2 ⟨fun x hx => ?_, mergeK_rise l (b :: m) h2 h'⟩
      rcases (mergeK_mem l (b :: m) x).1 hx with ⟨p, hp, rfl⟩ | ⟨p, hp, rfl⟩
      · exact h1 p hp
      · rcases List.mem_cons.1 hp with rfl | hp
        · exact hc
        · exact cmpK_trans hc (k1 p hp)
    · rw [if_neg (by omega), if_pos hc']
      refine List.pairwise_cons.2 ⟨fun x hx => ?_, mergeK_rise (a :: l) m h k2⟩
      rcases (mergeK_mem (a :: l) m x).1 hx with ⟨p, hp, rfl⟩ | ⟨p, hp, rfl⟩
      · rcases List.mem_cons.1 hp with rfl | hp
        · exact hc
        · exact cmpK_trans hc (h1 p hp)
      · exact k1 p hp
    · rw [if_neg (by omega), if_neg (by omega)]
      refine List.pairwise_cons.2 ⟨fun x hx => ?_, mergeK_rise l m h2 k2⟩
      rcases (mergeK_mem l m x).1 hx with ⟨p, hp, rfl⟩ | ⟨p, hp, rfl⟩
      · exact h1 p hp
      · rw [hc]; exact k1 p hp
termination_by l m => l.length + m.length

theorem findP_none {l : List Pin} {k : Key} (h : ∀ p ∈ l, p.key ≠ k) : findP l k = none := by
  unfold findP
  rw [List.find?_eq_none]
  intro p hp
  simpa using h p hp
theorem findP_hit (a : Pin) (l : List Pin) : findP (a :: l) a.key = some a := by simp [findP]
theorem findP_miss {a : Pin} {l : List Pin} {k : Key} (h : a.key ≠ k) : findP (a :: l) k = findP l k := by
  unfold findP
  rw [List.find?_cons_of_neg (by simpa using h)]
theorem flat_congr {l : List Key} {f g : Key → List Edit} (h : ∀ x ∈ l, f x = g x) : l.flatMap f = l.flatMap g := by
  induction l with
  | nil => rfl
  | cons a l ih => rw [List.flatMap_cons, List.flatMap_cons, h a (List.mem_cons_self ..), ih fun x hx => h x (List.mem_cons_of_mem _ hx)]
theorem ne_of_less {a b : Key} (h : cmpK a b = -1) : a ≠ b := fun e => by subst e; exact cmpK_irr h
theorem less_none {k : Key} {l : List Pin} (h : ∀ p ∈ l, cmpK k p.key = -1) : findP l k = none := findP_none fun p hp e => ne_of_less (h p hp) e.symm
theorem mergeP_eq (f : Key → Option Pin → Option Pin → List Edit) : ∀ (l m : List Pin), RiseP l → RiseP m → mergeP f l m = (mergeK l m).flatMap fun k => f k (findP l k) (findP m k)
  | [], [], _, _ => by rw [mergeP, mergeK]; rfl
  | a :: l, [], h, h' => by
    obtain ⟨h1, h2⟩ := riseP_cons.1 h
    have hr := List.pairwise_cons.1 (by have := mergeK_rise (a :: l) [] h h'; rwa [mergeK] at this)
    rw [mergeP, mergeK, List.flatMap_cons, findP_hit, findP_none (l := []) (by simp), mergeP_eq f l [] h2 h']
    congr 1
    exact flat_congr fun x hx => by rw [findP_miss (ne_of_less (hr.1 x hx))]
  | [], b :: m, h, h' => by
    obtain ⟨h1, h2⟩ := riseP_cons.1 h'
    have hr := List.pairwise_cons.1 (by have := mergeK_rise [] (b :: m) h h'; rwa [mergeK] at this)
    rw [mergeP, mergeK, List.flatMap_cons, findP_hit, findP_none (l := []) (by simp), mergeP_eq f [] m h h2]
    congr 1
    exact flat_congr fun x hx => by rw [findP_miss (a := b) (ne_of_less (hr.1 x hx))]
  | a :: l, b :: m, h, h' => by
    obtain ⟨h1, h2⟩ := riseP_cons.1 h
    obtain ⟨k1, k2⟩ := riseP_cons.1 h'
    have hr0 := mergeK_rise (a :: l) (b :: m) h h'
    rw [mergeK] at hr0
    rw [mergeP, mergeK]
    rcases merge_cases a.key b.key with hc | ⟨hc, hc'⟩ | ⟨hc, hc'⟩
    · rw [if_pos hc] at hr0
      rw [if_pos hc, if_pos hc, List.flatMap_cons, findP_hit, less_none (l := b :: m) (fun p hp => by
        rcases List.mem_cons.1 hp with rfl | hp
        · exact hc
        · exact cmpK_trans hc (k1 p hp)), mergeP_eq f l (b :: m) h2 h']
      congr 1
      exact flat_congr fun x hx => by rw [findP_miss (a := a) (ne_of_less ((List.pairwise_cons.1 hr0).1 x hx))]
    · rw [if_neg (by omega), if_pos hc'] at hr0
      rw [if_neg (by omega), if_pos hc', if_neg (by omega), if_pos hc', List.flatMap_cons, findP_hit, less_none (l := a :: l) (fun p hp => by
        rcases List.mem_cons.1 hp with rfl | hp
        · exact hc
        · exact cmpK_trans hc (h1 p hp)), mergeP_eq f (a :: l) m h k2]
      congr 1
      exact flat_congr fun x hx => by rw [findP_miss (a := b) (ne_of_less ((List.pairwise_cons.1 hr0).1 x hx))]
    · rw [if_neg (by omega), if_neg (by omega)] at hr0
      rw [if_neg (by omega), if_neg (by omega), if_neg (by omega), if_neg (by omega), List.flatMap_cons, findP_hit, mergeP_eq f l m h2 k2]
      have hb : findP (b :: m) a.key = some b := by rw [hc]; exact findP_hit b m
      rw [hb]
      congr 1
      exact flat_congr fun x hx => by
        have hx1 := (List.pairwise_cons.1 hr0).1 x hx
        rw [findP_miss (a := a) (ne_of_less hx1), findP_miss (a := b) (by rw [← hc]; exact ne_of_less hx1)]
termination_by l m => l.length + m.length

theorem one_same {k : Key} {a b : Option Pin} (h : a.isSome = true ∨ b.isSome = true) : oneE k a b = oneR k a b := by
  unfold oneE oneR
  cases a with
  | none => cases b with
    | none => simp at h
    | some q => rw [if_pos (.inl rfl), if_pos (.inl (by simp))]
  | some p => cases b with
    | none => rw [if_pos (.inr (.inl rfl)), if_pos (.inl (by simp))]
    | some q =>
      by_cases e : p = q
      · subst e; rw [if_neg (by simp), if_neg (by simp)]
      · rw [if_pos (.inr (.inr (by simpa using e))), if_pos (.inr (by simpa using e))]
theorem findP_some {l : List Pin} {k : Key} (h : ∃ p ∈ l, p.key = k) : (findP l k).isSome = true := by
  obtain ⟨p, hp, e⟩ := h
  unfold findP
  rw [List.find?_isSome]
  exact ⟨p, hp, by simpa using e⟩
/-- The law of DiffEdits, its first half. -/
theorem edits_same {a b : List Pin} (h : RiseP a) (h' : RiseP b) : editsP a b = refEdits a b := by
  unfold editsP refEdits
  rw [mergeP_eq oneE a b h h', rise_ext (keysP_rise (a ++ b)) (mergeK_rise a b h h') fun x => by
    rw [keysP_mem, mergeK_mem]
    simp only [List.mem_append, or_and_right, exists_or]]
  exact flat_congr fun x hx => one_same (((mergeK_mem a b x).1 hx).imp findP_some findP_some)

/-- Which edits may be. -/
def sideOk (k : Key) (is : Bool) (p : Pin) : Bool := if is then decide (p.key = k) else decide (p = noPin)
def editOk (e : Edit) : Bool := (e.had || e.has) && sideOk e.key e.had e.old && sideOk e.key e.has e.new && !(decide (e.old = e.new) && e.had == e.has)
def mayE (l : List Edit) : Bool := l.all editOk && rises (l.map (·.key))
theorem findP_key {l : List Pin} {k : Key} {p : Pin} (h : findP l k = some p) : p.key = k := by
  unfold findP at h
  simpa using List.find?_some h
theorem side_find (l : List Pin) (k : Key) : sideOk k (findP l k).isSome ((findP l k).getD noPin) = true := by
  cases h : findP l k with
  | none => simp [sideOk]
  | some p => simp [sideOk, findP_key h]
theorem oneR_keys (f g : Key → Option Pin) : ∀ l : List Key, ((l.flatMap fun k => oneR k (f k) (g k)).map (·.key)).Sublist l
  | [] => .slnil
  | k :: l => by
    have ih := oneR_keys f g l
    rw [List.flatMap_cons, List.map_append]
    unfold oneR at ih ⊢
    split
    · exact ih.cons_cons k
    · exact ih.cons k
/-- The law of DiffEdits, its second half. -/
theorem edits_may {a b : List Pin} (h : RiseP a) (h' : RiseP b) : mayE (editsP a b) = true := by
  rw [edits_same h h']
  unfold mayE
  rw [Bool.and_eq_true, rise_iff, List.all_eq_true]
  refine ⟨fun e he => ?_, (keysP_rise (a ++ b)).sublist (oneR_keys _ _ _)⟩
  obtain ⟨k, hk, he⟩ := List.mem_flatMap.1 he
  obtain ⟨p, hp, hpk⟩ := (keysP_mem _ _).1 hk
  unfold oneR at he
  split at he
  · rename_i hc
    simp only [List.mem_cons, List.not_mem_nil, or_false] at he
    subst he
    unfold editOk editOf
    simp only [Bool.and_eq_true, Bool.or_eq_true, side_find, and_true]
    refine ⟨?_, ?_⟩
    · rcases List.mem_append.1 hp with hp | hp
      · exact .inl (findP_some ⟨p, hp, hpk⟩)
      · exact .inr (findP_some ⟨p, hp, hpk⟩)
    · rcases hc with hc | hc
      · rw [show ((findP a k).isSome == (findP b k).isSome) = false by simpa using hc]; simp
      · rw [show decide ((findP a k).getD noPin = (findP b k).getD noPin) = false by simpa using hc]; simp
  · simp at he

end Go.Proofs.Ytmcjpmogjmnfpaa
