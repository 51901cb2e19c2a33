/- The counts: what the entries say behind each round; no program in sight. -/
import Derived.Test.YtnhophaeimpkkaaMap
namespace Go.Proofs.Ytnhophaeimpkkaa
open Go Go.RowKit

def valR : List Ent → Key → Int
  | [], _ => 0
  | e :: L, k => if k = e.key then e.n else valR L k

theorem val_eq (L : List Ent) (k : Key) : val L k = valR L k := by
  unfold val idx
  induction L with
  | nil => rfl
  | cons e L ih =>
    simp only [List.findIdx?_cons, valR]
    by_cases h : k = e.key
    · simp [h]
    · rw [if_neg h, ← ih]
      simp only [h, decide_false, Bool.false_eq_true, if_false]
      cases L.findIdx? (fun e => decide (k = e.key)) <;> simp

structure MapOk (L : List Ent) (c : Nat) : Prop where
  lt : ∀ e ∈ L, e.born < c
  apart : L.Pairwise (fun a b => a.born ≠ b.born)

def bump (L : List Ent) (c : Nat) (k : Key) : List Ent := setB (insL L c k) (stamp L c k) (val L k + 1)

theorem bump_none {L : List Ent} {c : Nat} {k : Key} (h : MapOk L c) (hk : idx L k = none) : bump L c k = L ++ [⟨k, val L k + 1, c⟩] ∧ insC L c k = c + 1 ∧ insL L c k = L ++ [⟨k, 0, c⟩] ∧ stamp L c k = c := by
  have e1 : insL L c k = L ++ [⟨k, 0, c⟩] := by simp [insL, hk]
  have e2 : stamp L c k = c := by simp [stamp, hk]
  refine ⟨?_, by simp [insC, hk], e1, e2⟩
  have hf : (L ++ [(⟨k, 0, c⟩ : Ent)]).findIdx? (fun e : Ent => (e.born : Int) == (c : Int)) = some L.length := by
    rw [List.findIdx?_append]
    have : L.findIdx? (fun e => (e.born : Int) == (c : Int)) = none := by
      rw [List.findIdx?_eq_none_iff]
      intro e he
      have := h.lt e he
      simp; omega
    simp [this, List.findIdx?_cons]
  unfold bump setB
  rw [e1, e2, hf]
  apply List.ext_getElem?
  intro i
  simp only [List.getElem?_modify]
  by_cases hi : i < L.length
  · have : L.length ≠ i := by omega
    simp [this, List.getElem?_append_left hi]
  · by_cases h2 : i = L.length
    · subst h2; simp
    · have : ¬ i < L.length + 1 := by omega
      rw [List.getElem?_eq_none (by simp; omega), List.getElem?_eq_none (by simp; omega)]
      simp

theorem bump_some {L : List Ent} {c : Nat} {k : Key} {j : Nat} (h : MapOk L c) (hk : idx L k = some j) :
    ∃ hj : j < L.length, L[j].key = k ∧ bump L c k = L.modify j (fun e => { e with n := val L k + 1 }) ∧ insC L c k = c ∧ insL L c k = L ∧ stamp L c k = L[j].born := by
  obtain ⟨hj, hjk, -⟩ := List.findIdx?_eq_some_iff_getElem.1 hk
  have hkey : L[j].key = k := by simpa using (of_decide_eq_true hjk).symm
  have e1 : insL L c k = L := by simp [insL, hk]
  have e2 : stamp L c k = L[j].born := by simp [stamp, hk, hj]
  refine ⟨hj, hkey, ?_, by simp [insC, hk], e1, e2⟩
  have hf : L.findIdx? (fun e => (e.born : Int) == (L[j].born : Int)) = some j := by
    rw [List.findIdx?_eq_some_iff_getElem]
    refine ⟨hj, by simp, fun i hi => ?_⟩
    have := List.pairwise_iff_getElem.1 h.apart i j (by omega) hj hi
    simp; omega
  unfold bump setB
  rw [e1, e2, hf]

theorem insL_born {L : List Ent} {c : Nat} {k : Key} (h : MapOk L c) : ∃ e ∈ insL L c k, e.born = stamp L c k := by
  cases hk : idx L k with
  | none =>
    obtain ⟨-, -, e1, e2⟩ := bump_none h hk
    rw [e1, e2]
    exact ⟨⟨k, 0, c⟩, by simp, rfl⟩
  | some j =>
    obtain ⟨hj, -, -, -, e1, e2⟩ := bump_some h hk
    rw [e1, e2]
    exact ⟨L[j], by simp, rfl⟩

theorem bump_ok {L : List Ent} {c : Nat} {k : Key} (h : MapOk L c) : MapOk (bump L c k) (insC L c k) := by
  cases hk : idx L k with
  | none =>
    obtain ⟨e0, e3, -, -⟩ := bump_none h hk
    rw [e0, e3]
    refine ⟨fun e he => ?_, ?_⟩
    · rcases List.mem_append.1 he with he | he
      · have := h.lt e he; omega
      · simp at he; subst he; exact Nat.lt_succ_self _
    · rw [List.pairwise_append]
      refine ⟨h.apart, by simp, fun a ha b hb => ?_⟩
      simp at hb; subst hb
      have := h.lt a ha
      exact Nat.ne_of_lt this
  | some j =>
    obtain ⟨hj, -, e0, e3, -, -⟩ := bump_some h hk
    rw [e0, e3]
    have hm : ∀ (i : Nat) (e : Ent), (L.modify j fun e => { e with n := val L k + 1 })[i]? = some e → ∃ e', L[i]? = some e' ∧ e'.born = e.born := by
      intro i e he
      rw [List.getElem?_modify] at he
      split at he
      · cases hi : L[i]? with
        | none => rw [hi] at he; cases he
        | some e' => rw [hi] at he; cases he; exact ⟨e', rfl, rfl⟩
      · cases hi : L[i]? with
        | none => rw [hi] at he; cases he
        | some e' => rw [hi] at he; cases he; exact ⟨e', rfl, rfl⟩
    refine ⟨fun e he => ?_, ?_⟩
    · obtain ⟨i, hi, rfl⟩ := List.mem_iff_getElem.1 he
      obtain ⟨e', h1, h2⟩ := hm i _ (List.getElem?_eq_getElem hi)
      rw [← h2]
      exact h.lt e' (List.mem_of_getElem? h1)
    · rw [List.pairwise_iff_getElem]
      intro a b ha hb hab
      obtain ⟨ea, h1, h2⟩ := hm a _ (List.getElem?_eq_getElem ha)
      obtain ⟨eb, h3, h4⟩ := hm b _ (List.getElem?_eq_getElem hb)
      obtain ⟨la, rfl⟩ := List.getElem?_eq_some_iff.1 h1
      obtain ⟨lb, rfl⟩ := List.getElem?_eq_some_iff.1 h3
      rw [← h2, ← h4]
      exact List.pairwise_iff_getElem.1 h.apart a b la lb hab

theorem valR_append (L : List Ent) (e : Ent) (x : Key) : valR (L ++ [e]) x = if (L.findIdx? (fun e => decide (x = e.key))).isSome then valR L x else if x = e.key then e.n else 0 := by
  induction L with
  | nil => simp [valR]
  | cons a L ih =>
    simp only [List.cons_append, valR, List.findIdx?_cons]
    by_cases h : x = a.key
    · simp [h]
    · rw [if_neg h, ih, if_neg h]
      simp only [h, decide_false, Bool.false_eq_true, if_false, Option.isSome_map]

theorem valR_modify (L : List Ent) (j : Nat) (hj : j < L.length) (v : Int) (x : Key) (hfirst : idx L L[j].key = some j) : valR (L.modify j fun e => { e with n := v }) x = if x = L[j].key then v else valR L x := by
  induction L generalizing j with
  | nil => simp at hj
  | cons a L ih =>
    cases j with
    | zero =>
      simp only [List.modify_zero_cons, valR, List.getElem_cons_zero]
      split <;> rfl
    | succ j =>
      simp only [List.length_cons] at hj
      have hj' : j < L.length := by omega
      simp only [List.getElem_cons_succ] at hfirst ⊢
      unfold idx at hfirst
      rw [List.findIdx?_cons] at hfirst
      have hne : ¬ L[j].key = a.key := by
        intro h; simp [h] at hfirst
      simp only [hne, decide_false, Bool.false_eq_true, if_false] at hfirst
      have hf' : idx L L[j].key = some j := by
        unfold idx
        cases hq : L.findIdx? (fun e => decide (L[j].key = e.key)) with
        | none => rw [hq] at hfirst; simp at hfirst
        | some i => rw [hq] at hfirst; simp at hfirst; rw [hfirst]
      simp only [List.modify_succ_cons, valR]
      rw [ih j hj' hf']
      by_cases hx : x = a.key
      · subst hx
        rw [if_pos rfl, if_neg (fun e => hne e.symm), if_pos rfl]
      · rw [if_neg hx, if_neg hx]

theorem bump_val {L : List Ent} {c : Nat} {k : Key} (h : MapOk L c) (x : Key) : val (bump L c k) x = if x = k then val L k + 1 else val L x := by
  cases hk : idx L k with
  | none =>
    obtain ⟨e0, -, -, -⟩ := bump_none h hk
    rw [e0, val_eq, valR_append]
    by_cases hx : x = k
    · subst hx
      unfold idx at hk
      simp [hk]
    · rw [if_neg hx, if_neg hx]
      cases hq : L.findIdx? (fun e => decide (x = e.key)) with
      | none => simp [val, idx, hq]
      | some j => simp [val_eq]
  | some j =>
    obtain ⟨hj, hkey, e0, -, -, -⟩ := bump_some h hk
    subst hkey
    rw [e0, val_eq, valR_modify L j hj _ x hk, val_eq L x]

theorem ins_val {L : List Ent} {c : Nat} {k : Key} (h : MapOk L c) : val (insL L c k) k = val L k := by
  cases hk : idx L k with
  | none =>
    obtain ⟨-, -, e1, -⟩ := bump_none h hk
    rw [e1, val_eq, valR_append]
    unfold idx at hk
    simp [hk, val, idx]
  | some j =>
    obtain ⟨-, -, -, -, e1, -⟩ := bump_some h hk
    rw [e1]

end Go.Proofs.Ytnhophaeimpkkaa
