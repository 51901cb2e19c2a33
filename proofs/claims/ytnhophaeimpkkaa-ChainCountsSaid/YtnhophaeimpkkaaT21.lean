/- The plain law of ChainCounts: what a child says counts; slices of slices; no program in sight. -/
import Derived.Test.YtnhophaeimpkkaaT19
namespace Go.Proofs.Ytnhophaeimpkkaa
open Go Go.RowKit

theorem get_put (l : List Prp) (x : Prp) (n : S) : get (put l x) n = if x.name = n then (x.value, true) else get l n := by
  induction l with
  | nil => simp [put, get]
  | cons y l ih =>
    simp only [put]
    by_cases h : y.name = x.name
    · rw [if_pos h]
      simp only [get]
      by_cases h2 : x.name = n
      · rw [if_pos (h.trans h2), if_pos h2]
      · rw [if_neg (fun e => h2 (h.symm.trans e)), if_neg h2, if_neg (fun e => h2 (h.symm.trans e))]
    · rw [if_neg h]
      simp only [get]
      by_cases h2 : y.name = n
      · rw [if_pos h2, if_neg (fun e => h (h2.trans e.symm)), if_pos h2]
      · rw [if_neg h2, ih, if_neg h2]

/-- The value that counts: the last of the name. -/
def lastV (n : S) : List Prp → S → S
  | [], v => v
  | y :: l, v => lastV n l (if y.name = n then y.value else v)

theorem get_over_true (l c : List Prp) (n v : S) (h : get l n = (v, true)) : get (over l c) n = (lastV n c v, true) := by
  induction c generalizing l v with
  | nil => exact h
  | cons x c ih =>
    show get (over (put l x) c) n = _
    simp only [lastV]
    refine ih _ _ ?_
    rw [get_put, h]
    split <;> rfl

theorem get_over_at (l c : List Prp) (i : Nat) (hi : i < c.length) : get (over l c) c[i].name = (lastV c[i].name (c.drop i) c[i].value, true) := by
  have e : c = c.take i ++ c[i] :: c.drop (i + 1) := by rw [← List.drop_eq_getElem_cons hi, List.take_append_drop]
  have h1 : over l c = over (put (over l (c.take i)) c[i]) (c.drop (i + 1)) := by
    conv => lhs; rw [e]
    unfold over
    rw [List.foldl_append]; rfl
  rw [h1, get_over_true _ _ _ c[i].value (by rw [get_put, if_pos rfl]), drop_cons' hi]
  simp only [lastV, if_true]

theorem get_mem (l : List Prp) (n : S) (h : n ∈ names l) : ∃ v, get l n = (v, true) := by
  induction l with
  | nil => simp [names] at h
  | cons y l ih =>
    simp only [get]
    by_cases h2 : y.name = n
    · exact ⟨y.value, by rw [if_pos h2]⟩
    · rw [if_neg h2]
      exact ih (by simp only [names, List.map_cons, List.mem_cons] at h; rcases h with e | e; exact absurd e.symm h2; exact e)

theorem get_over_old (l c : List Prp) (i : Nat) (hi : i < l.length) : (get (over l c) l[i].name).2 = true := by
  obtain ⟨v, hv⟩ := get_mem l l[i].name (List.mem_map.2 ⟨l[i], by simp, rfl⟩)
  rw [get_over_true l c _ v hv]

theorem has_mem {l : List Dep} {d : Dep} (h : d ∈ l) : has l (keyOf d) = true := by
  induction l with
  | nil => cases h
  | cons x l ih =>
    simp only [has, Bool.or_eq_true, decide_eq_true_eq]
    rcases List.mem_cons.1 h with rfl | h
    · exact .inl rfl
    · exact .inr (ih h)

theorem under_new {l m : List Dep} {d : Dep} (h : d ∈ (underD l m).drop l.length) : has l (keyOf d) = false ∧ has m (keyOf d) = true := by
  unfold underD at h
  rw [List.drop_left] at h
  obtain ⟨h1, h2⟩ := List.mem_filter.1 h
  exact ⟨by simpa using h2, has_mem h1⟩

theorem under_has {l m : List Dep} {d : Dep} (h : d ∈ m) : has (underD l m) (keyOf d) = true := by
  unfold underD
  rw [has_append, has_kept, has_mem h]
  cases has l (keyOf d) <;> rfl

theorem under_take (l m : List Dep) : (underD l m).take l.length = l := by unfold underD; rw [List.take_left]
theorem under_ge (l m : List Dep) : l.length ≤ (underD l m).length := by unfold underD; rw [List.length_append]; omega

theorem SliceOf.take {α : Type} {n : Nat} {C : α → List Value} {w : World} {ao : Option Addr} {len cap : Nat} {l : List α} (h : SliceOf n C w (.slice ao len cap) l) {k : Nat} (hk : k ≤ l.length) : SliceOf n C w (.slice ao k cap) (l.take k) := by
  obtain ⟨ao', cap', h1, h2, hm, h3, h4⟩ := h
  cases h1
  refine ⟨ao, cap, by rw [List.length_take, Nat.min_eq_left hk], by rw [List.length_take]; omega, hm, h3, fun i x hx => h4 i x ?_⟩
  rw [List.getElem?_take] at hx
  split at hx
  · exact hx
  · cases hx

theorem SliceOf.drop {α : Type} {n : Nat} {C : α → List Value} {w : World} {b o len cap : Nat} {l : List α} (h : SliceOf n C w (.slice (some ⟨b, o, none⟩) len cap) l) {k : Nat} (hk : k ≤ l.length) : SliceOf n C w (.slice (some ⟨b, o + k * n, none⟩) (len - k) (cap - k)) (l.drop k) := by
  obtain ⟨ao', cap', h1, h2, hm, h3, h4⟩ := h
  cases h1
  refine ⟨_, _, by rw [List.length_drop], by rw [List.length_drop]; omega, by omega, by simp, fun i x hx => ?_⟩
  rw [List.getElem?_drop] at hx
  obtain ⟨b', o', e, hlt, hc⟩ := h4 _ _ hx
  cases e
  refine ⟨b, o + k * n, rfl, hlt, fun j u hu => ?_⟩
  have := hc j u hu
  rw [Nat.add_mul] at this
  rw [Nat.add_assoc o]; exact this

theorem SliceOf.dropEnd {α : Type} {n : Nat} {C : α → List Value} {w : World} {ao : Option Addr} {len : Nat} {l : List α} {k : Nat} (h : SliceOf n C w (.slice ao len k) l) (hk : k ≤ l.length) : len - k = 0 ∧ l.drop k = [] := by
  obtain ⟨ao', cap', h1, h2, -, -, -⟩ := h
  cases h1
  exact ⟨by omega, List.drop_of_length_le h2⟩

/-- Where a cut slice begins: the walk's form, taken as it stands. -/
def cut (a : Option Addr) (l m s : Nat) : Option Addr := if m = l then a else a.map (·.add (l * s))
theorem sliced_cut (a : Option Addr) (l h m s : Nat) : sliced a l h m s = .slice (cut a l m s) (h - l) (m - l) := rfl
theorem cut_zero (a : Option Addr) (m s : Nat) : cut a 0 m s = a := by
  unfold cut
  split
  · rfl
  · cases a with
    | none => rfl
    | some x => simp [Addr.add]

theorem SliceOf.cut {α : Type} {n : Nat} {C : α → List Value} {w : World} {ao : Option Addr} {len cap : Nat} {l : List α} (h : SliceOf n C w (.slice ao len cap) l) {k : Nat} (hk : k ≤ l.length) : SliceOf n C w (.slice (cut ao k cap n) (len - k) (cap - k)) (l.drop k) := by
  have h0 := h
  obtain ⟨ao', cap', h1, h2, hm, h3, h4⟩ := h
  cases h1
  refine ⟨_, _, by rw [List.length_drop], by rw [List.length_drop]; omega, by omega, ?_, fun i x hx => ?_⟩
  · intro hn
    unfold Go.Proofs.Ytnhophaeimpkkaa.cut at hn
    split at hn
    · omega
    · cases ao with
      | none => have := h3 rfl; omega
      | some a => simp at hn
  · have hi : k + i < l.length := by
      rw [List.getElem?_drop] at hx
      exact (List.getElem?_eq_some_iff.1 hx).1
    have hx' := hx
    rw [List.getElem?_drop] at hx
    obtain ⟨b', o', e, hlt, hc⟩ := h4 _ _ hx
    cases e
    obtain ⟨ao2, cap2, e1, -, -, -, h6⟩ := h0.drop hk
    simp only [Value.slice.injEq] at e1
    obtain ⟨rfl, -, -⟩ := e1
    obtain ⟨b3, o3, e3, hl3, hc3⟩ := h6 i x hx'
    cases e3
    refine ⟨b', _, ?_, hl3, hc3⟩
    unfold Go.Proofs.Ytnhophaeimpkkaa.cut
    rw [if_neg (by omega)]
    simp [Addr.add]

theorem DepsOf.take {w : World} {ao : Option Addr} {len cap : Nat} {ds : List Dep} (h : DepsOf w (.slice ao len cap) ds) {k : Nat} (hk : k ≤ ds.length) : DepsOf w (.slice ao k cap) (ds.take k) := by
  obtain ⟨l, rfl, h2, h3⟩ := h
  exact ⟨l.take k, List.map_take, h2.take (by simpa using hk), fun q hq => h3 q (List.mem_of_mem_take hq)⟩

theorem has_B {l : List (Dep × Value)} {key : Key} {b : Bool} (hh : has (l.map (·.1)) key = b) {v : Value} {w : World} (hs : SliceOf 8 depC w v l) (hok : ∀ p ∈ l, DepOk w p) (hl : l.length ≤ 140737488355328) :
    Calls Try.prog 15 #[v, .agg (keyC key).toArray] w fun e w' => e = .returned (.bool b) ∧ Below w.heap.size w w' := by
  subst hh; exact has_any l key v w hs hok hl

def RetD (ds : List Dep) (w : World) (e : Ending) (w' : World) : Prop := ∃ v, e = .returned v ∧ DepsOf w' v ds ∧ Below w.heap.size w w'

theorem chainUnder_D (cl pl : List Dep) (v u : Value) (w : World) (h1 : DepsOf w v cl) (h2 : DepsOf w u pl) (hl : (cl.length + pl.length) * 120 ≤ 140737488355328) (hx : ∀ d ∈ underD cl pl, d.excl.length * 32 ≤ 140737488355328) :
    Calls Try.prog 18 #[v, u] w (RetD (underD cl pl) w) := by
  obtain ⟨l, rfl, s1, o1⟩ := h1
  obtain ⟨m, rfl, s2, o2⟩ := h2
  rw [← underL_fst] at hx ⊢
  refine (chainUnder_any l m v u w s1 o1 s2 o2 (Lib.hid (by simpa using hl)) (fun q hq => hx _ (List.mem_map.2 ⟨q, hq, rfl⟩))).mono fun e w' hR => ?_
  obtain ⟨v', cur, rfl, ho, hf, hok, hb⟩ := hR
  exact ⟨v', rfl, ⟨cur, hf, ho.slice depC_len, fun q hq => (hok q hq).slice idC_len⟩, hb⟩

theorem refUnder_D (cl pl : List Dep) (v u : Value) (w : World) (h1 : DepsOf w v cl) (h2 : DepsOf w u pl) (hl : (cl.length + pl.length) * 120 ≤ 140737488355328) :
    Calls Try.prog 19 #[v, u] w (RetD (underD cl pl) w) := by
  obtain ⟨l, rfl, s1, o1⟩ := h1
  obtain ⟨m, rfl, s2, o2⟩ := h2
  rw [← underL_fst]
  refine (refUnder_any l m v u w s1 o1 s2 o2 (Lib.hid (by simpa using hl))).mono fun e w' hR => ?_
  obtain ⟨v', rfl, ho, hb⟩ := hR
  exact ⟨v', rfl, ⟨_, rfl, ho.slice depC_len, fun q hq => (underL_ok o1 o2 q hq).below hb⟩, hb⟩

end Go.Proofs.Ytnhophaeimpkkaa
