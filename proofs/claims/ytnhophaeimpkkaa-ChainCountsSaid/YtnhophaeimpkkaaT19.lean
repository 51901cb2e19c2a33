/- The plain law: merging is associative where names differ; no program in sight. -/
import Derived.Test.YtnhophaeimpkkaaT18
namespace Go.Proofs.Ytnhophaeimpkkaa
open Go Go.RowKit

def names (l : List Prp) : List S := l.map (·.name)

theorem put_put (l : List Prp) (y x : Prp) (h : y.name = x.name) : put (put l y) x = put l x := by
  induction l with
  | nil => simp [put, h]
  | cons z l ih =>
    simp only [put]
    by_cases hz : z.name = y.name
    · rw [if_pos hz, if_pos (hz.trans h)]; simp only [put]; rw [if_pos (hz.trans h)]
    · rw [if_neg hz, if_neg (fun e => hz (e.trans h.symm))]; simp only [put]; rw [if_neg (fun e => hz (e.trans h.symm)), ih]

theorem put_comm (l : List Prp) (z x : Prp) (hne : z.name ≠ x.name) (hm : x.name ∈ names l) : put (put l z) x = put (put l x) z := by
  induction l with
  | nil => simp [names] at hm
  | cons y l ih =>
    simp only [put]
    by_cases h1 : y.name = z.name
    · have h2 : ¬ y.name = x.name := fun e => hne (h1.symm.trans e)
      rw [if_pos h1, if_neg h2]; simp only [put]; rw [if_neg h2, if_pos h1]
    · by_cases h2 : y.name = x.name
      · rw [if_neg h1, if_pos h2]; simp only [put]; rw [if_pos h2, if_neg h1]
      · rw [if_neg h1, if_neg h2]; simp only [put]; rw [if_neg h2, if_neg h1, ih (by simp only [names, List.map_cons, List.mem_cons] at hm; rcases hm with e | e; exact absurd e.symm h2; exact e)]

theorem names_in (l : List Prp) (x : Prp) (h : x.name ∈ names l) : names (put l x) = names l := by
  induction l with
  | nil => simp [names] at h
  | cons y l ih =>
    simp only [put]
    by_cases h1 : y.name = x.name
    · rw [if_pos h1]; simp [names]
    · rw [if_neg h1]
      show y.name :: names (put l x) = y.name :: names l
      rw [ih (by simp only [names, List.map_cons, List.mem_cons] at h; rcases h with e | e; exact absurd e.symm h1; exact e)]

theorem names_out (l : List Prp) (x : Prp) (h : x.name ∉ names l) : put l x = l ++ [x] := by
  induction l with
  | nil => rfl
  | cons y l ih =>
    simp only [names, List.map_cons, List.mem_cons, not_or] at h
    simp only [put]
    rw [if_neg (fun e => h.1 e.symm), ih h.2]; rfl

theorem mem_put (l : List Prp) (x : Prp) (n : S) : n ∈ names (put l x) ↔ n = x.name ∨ n ∈ names l := by
  by_cases h : x.name ∈ names l
  · rw [names_in l x h]; exact ⟨.inr, fun e => e.elim (fun e => e ▸ h) (fun e => e)⟩
  · rw [names_out l x h]; simp [names, or_comm]

theorem over_put (m l : List Prp) (x : Prp) (hm : x.name ∉ names m) (hl : x.name ∈ names l) : put (over l m) x = over (put l x) m := by
  induction m generalizing l with
  | nil => rfl
  | cons z m ih =>
    have hz : z.name ≠ x.name := fun e => hm (by simp [names, e])
    have hm' : x.name ∉ names m := fun e => hm (by simp only [names, List.map_cons]; exact List.mem_cons_of_mem _ e)
    show put (over (put l z) m) x = over (put (put l x) z) m
    rw [ih _ hm' ((mem_put _ _ _).2 (.inr hl)), put_comm l z x hz hl]

theorem put_over (b c : List Prp) (x : Prp) (hb : (names b).Nodup) : put (over c b) x = over c (put b x) := by
  induction b generalizing c with
  | nil => rfl
  | cons y b ih =>
    have hb' : y.name ∉ names b ∧ (names b).Nodup := by simpa [names] using hb
    simp only [put]
    by_cases h : y.name = x.name
    · rw [if_pos h]
      show put (over (put c y) b) x = over (put c ⟨y.name, x.value⟩) b
      have hx : (⟨y.name, x.value⟩ : Prp) = x := by cases x; simp at h ⊢; exact h
      rw [hx, over_put b (put c y) x (h ▸ hb'.1) ((mem_put _ _ _).2 (.inl h.symm)), put_put c y x h]
    · rw [if_neg h]
      exact ih (put c y) hb'.2

theorem nodup_put (b : List Prp) (x : Prp) (hb : (names b).Nodup) : (names (put b x)).Nodup := by
  by_cases h : x.name ∈ names b
  · rw [names_in b x h]; exact hb
  · rw [names_out b x h]
    unfold names at *
    rw [List.map_append, List.nodup_append]
    exact ⟨hb, by simp, fun a ha c hc => by simp at hc; subst hc; exact fun e => h (e ▸ ha)⟩

theorem over_assoc (a b c : List Prp) (hb : (names b).Nodup) : over (over c b) a = over c (over b a) := by
  induction a generalizing b with
  | nil => rfl
  | cons x a ih =>
    show over (put (over c b) x) a = over c (over (put b x) a)
    rw [put_over b c x hb, ih _ (nodup_put b x hb)]

theorem at_first (l : List Prp) (i j k : Nat) (x y : Prp) (hi : l[i]? = some x) (hj : l[j]? = some y) (hij : i < j) (he : x.name = y.name) : at_ k l y.name < (k + j : Nat) := by
  induction l generalizing i j k with
  | nil => simp at hi
  | cons z l ih =>
    simp only [at_]
    by_cases h : z.name = y.name
    · rw [if_pos h]; omega
    · rw [if_neg h]
      cases i with
      | zero => simp at hi; subst hi; exact absurd he h
      | succ i =>
        cases j with
        | zero => omega
        | succ j =>
          have := ih i j (k + 1) (by simpa using hi) (by simpa using hj) (by omega)
          have e : k + 1 + j = k + (j + 1) := by omega
          rw [← e]; exact this

/-- Each property stands where its name stands first. -/
def Firsts (l : List Prp) (k : Nat) : Prop := ∀ i x, i < k → l[i]? = some x → at_ 0 l x.name = (i : Int)

theorem nodup_of_firsts (l : List Prp) (h : Firsts l l.length) : (names l).Nodup := by
  unfold names List.Nodup
  rw [List.pairwise_iff_getElem]
  intro i j hi hj hij he
  simp only [List.length_map] at hi hj
  simp only [List.getElem_map] at he
  have h1 := at_first l i j 0 l[i] l[j] (by simp [hi]) (by simp [hj]) hij he
  have h2 := h j l[j] hj (by simp [hj])
  omega

theorem has_append (l m : List Dep) (k : Key) : has (l ++ m) k = (has l k || has m k) := by
  induction l with
  | nil => rfl
  | cons d l ih => simp only [List.cons_append, has, ih, Bool.or_assoc]

theorem has_kept (a b : List Dep) (k : Key) : has (b.filter (fun d => !(has a (keyOf d)))) k = (has b k && !(has a k)) := by
  induction b with
  | nil => rfl
  | cons d b ih =>
    by_cases h : has a (keyOf d) = true
    · rw [List.filter_cons_of_neg (by simp [h]), ih]
      simp only [has]
      by_cases e : keyOf d = k
      · subst e; simp [h]
      · simp [e]
    · simp only [Bool.not_eq_true] at h
      rw [List.filter_cons_of_pos (by simp [h])]
      simp only [has, ih]
      by_cases e : keyOf d = k
      · subst e; simp [h]
      · simp [e]

theorem underD_assoc (a b c : List Dep) : underD a (underD b c) = underD (underD a b) c := by
  unfold underD
  rw [List.filter_append, List.filter_filter, List.append_assoc]
  congr 2
  apply List.filter_congr
  intro d _
  rw [has_append, has_kept]
  cases has a (keyOf d) <;> cases has b (keyOf d) <;> rfl

theorem merge_assoc (a b c : Pom) (hb : (names b.props).Nodup) : merge a (merge b c) = merge (merge a b) c := by
  obtain ⟨hp, pa, g, ar, v, pk, pr, ma, de⟩ := a
  simp only [merge, underD_assoc, over_assoc pr b.props c.props hb]
  cases hp
  · simp
  · simp only [Bool.true_and]
    congr 1
    · split <;> simp_all
    · split <;> simp_all

/-- At most n of each list, ten exclusions in each. -/
structure Fit (n : Nat) (P : Pom) : Prop where
  props : P.props.length ≤ n
  man : P.managed.length ≤ n
  deps : P.deps.length ≤ n
  manX : ∀ d ∈ P.managed, d.excl.length ≤ 10
  depsX : ∀ d ∈ P.deps, d.excl.length ≤ 10

theorem fit_light {P : Pom} (h : Light P) : Fit 30 P := ⟨h.props, h.managed, h.deps, fun d hd => (h.managedL d hd).excl, fun d hd => (h.depsL d hd).excl⟩

theorem under_fit (l m : List Dep) : (underD l m).length ≤ l.length + m.length := by
  unfold underD; rw [List.length_append]; have := List.length_filter_le (fun d : Dep => !(has l (keyOf d))) m; omega
theorem under_mem {l m : List Dep} {d : Dep} (h : d ∈ underD l m) : d ∈ l ∨ d ∈ m := by
  unfold underD at h
  rcases List.mem_append.1 h with h | h
  · exact .inl h
  · exact .inr (List.mem_filter.1 h).1

theorem fit_merge {n m : Nat} {c p : Pom} (hc : Fit n c) (hp : Fit m p) : Fit (n + m) (merge c p) := by
  have h1 := over_len p.props c.props
  have h2 := under_fit c.managed p.managed
  have h3 := under_fit c.deps p.deps
  have := hc.props; have := hp.props; have := hc.man; have := hp.man; have := hc.deps; have := hp.deps
  exact ⟨by show (over p.props c.props).length ≤ _; omega, by show (underD c.managed p.managed).length ≤ _; omega, by show (underD c.deps p.deps).length ≤ _; omega,
    fun d hd => (under_mem hd).elim (hc.manX d) (hp.manX d), fun d hd => (under_mem hd).elim (hc.depsX d) (hp.depsX d)⟩

theorem small_fit {n m : Nat} {c p : Pom} (hc : Fit n c) (hp : Fit m p) (h : n + m ≤ 1000) : Small c p := by
  have := hc.props; have := hp.props; have := hc.man; have := hp.man; have := hc.deps; have := hp.deps
  refine ⟨by omega, by omega, by omega, fun d hd => ?_, fun d hd => ?_⟩
  · have := (under_mem hd).elim (hc.manX d) (hp.manX d); omega
  · have := (under_mem hd).elim (hc.depsX d) (hp.depsX d); omega

theorem fit_yes {n : Nat} {P : Pom} (h : Fit n P) (hn : n ≤ 1000) : P.props.length ≤ 140737488355328 ∧ P.managed.length ≤ 140737488355328 ∧ P.deps.length ≤ 140737488355328 ∧ (∀ d ∈ P.managed, d.excl.length ≤ 140737488355328) ∧ ∀ d ∈ P.deps, d.excl.length ≤ 140737488355328 := by
  have := h.props; have := h.man; have := h.deps
  exact ⟨by omega, by omega, by omega, fun d hd => by have := h.manX d hd; omega, fun d hd => by have := h.depsX d hd; omega⟩

end Go.Proofs.Ytnhophaeimpkkaa
