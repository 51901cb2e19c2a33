/- A region that draws its order, by an invariant on what has come up: the count of what is left, and that something may come up, in general; no program in sight. -/
import Derived.Test.YtecffghcpknmjaaGreatDoorG1

namespace Go.Proofs.YtecffghcpknmjaaGreatDoor
open Go Go.RowKit

/-- Each operation waits only for ones ahead of it in the text. -/
def backB (ops : Array Oper) : Bool := (List.range ops.size).all fun j => ((ops[j]?).map fun o => o.after.all fun e => !Region.binds .any e || decide (e.on < j)).getD true
theorem ready_ne {ops : Array Oper} {listed : Array Bool} (hb : backB ops = true) (hs : listed.size = ops.size) : ∀ (j : Nat), listed[j]? = some false → Region.ready .any ops listed ≠ [] := by
  intro j
  induction j using Nat.strongRecOn with
  | ind j ih =>
    intro hj e
    have hlt : j < listed.size := (Array.getElem?_eq_some_iff.1 hj).1
    have hlo : j < ops.size := by omega
    by_cases hx : ∃ i, i < j ∧ listed[i]? = some false
    · obtain ⟨i, hi, h⟩ := hx
      exact ih i hi h e
    · have hm : j ∈ Region.ready .any ops listed := by
        unfold Region.ready
        rw [List.mem_filter, List.mem_range]
        refine ⟨hlo, ?_⟩
        have h0 : listed.getD j true = false := by simp [Array.getD_eq_getD_getElem?, hj]
        rw [h0, Array.getElem?_eq_getElem hlo]
        simp only [Bool.not_false, Bool.true_and, Option.map_some, Option.getD_some]
        rw [Array.all_eq_true_iff_forall_mem]
        intro ed hed
        unfold backB at hb
        rw [List.all_eq_true] at hb
        have h1 := hb j (List.mem_range.2 hlo)
        rw [Array.getElem?_eq_getElem hlo] at h1
        simp only [Option.map_some, Option.getD_some] at h1
        rw [Array.all_eq_true_iff_forall_mem] at h1
        have h2 := h1 ed hed
        rw [Bool.or_eq_true] at h2 ⊢
        rcases h2 with h2 | h2
        · exact .inl h2
        · right
          have h3 : ed.on < j := of_decide_eq_true h2
          have h4 : ed.on < listed.size := by omega
          have h5 : listed[ed.on]? ≠ some false := fun h => hx ⟨_, h3, h⟩
          rw [Array.getElem?_eq_getElem h4] at h5
          rw [Array.getD_eq_getD_getElem?, Array.getElem?_eq_getElem h4]
          simpa using h5
      rw [e] at hm
      cases hm
theorem ready_nil {ops : Array Oper} {listed : Array Bool} (hs : listed.size = ops.size) (h : listed.toList.count false = 0) : Region.ready .any ops listed = [] := by
  unfold Region.ready
  rw [List.filter_eq_nil_iff]
  intro i hi
  have hlt : i < listed.size := by have := List.mem_range.1 hi; omega
  rw [List.count_eq_zero] at h
  have h1 : listed[i] ≠ false := fun e => h (by rw [← e]; simp)
  have h2 : listed.getD i true = true := by
    rw [Array.getD_eq_getD_getElem?, Array.getElem?_eq_getElem hlt]
    simpa using h1
  simp [h2]
theorem count_set : ∀ (l : List Bool) (i : Nat), l[i]? = some false → (l.set i true).count false + 1 = l.count false
  | [], i, h => by simp at h
  | b :: l, 0, h => by
    simp at h
    subst h
    simp
  | b :: l, i + 1, h => by
    have h1 := count_set l i (by simpa using h)
    rw [List.set_cons_succ, List.count_cons, List.count_cons]
    omega
/-- The region, by an invariant that speaks of the frame at its head, of what has come up, of the frame and of the world. -/
theorem wp_region_flags {P : Program} {ops : Array Oper} {Q : Exit → Act → World → Prop} {id : Nat} {a : Act} {w : World} (J : Act → Array Bool → Act → World → Prop) (hm : P.follows .mixedOrders = true) (k : Nat) (hk : ops.size = k) (hb : backB ops = true)
    (hi : J a (Array.replicate k false) a w.drew)
    (h0 : ∀ a' w', J a (Array.replicate k true) a' w' → Q .normal a' w')
    (hs : ∀ listed a' w', J a listed a' w' → ∀ i ∈ Region.ready .any ops listed, wpOp P ops Q i (fun a'' w'' => J a (listed.setIfInBounds i true) a'' w'') a' w') :
    (Code.region id ops true).wp P Q a w := by
  refine wp_region_inv (fun n listed a' w' => listed.size = k ∧ listed.toList.count false = n ∧ J a listed a' w') hm k hk ⟨by simp, by simp, hi⟩ ?_ ?_ ?_
  · rintro listed a' w' ⟨h1, h2, h3⟩
    refine ⟨ready_nil (by omega) h2, h0 a' w' ?_⟩
    have : listed = Array.replicate k true := by
      apply Array.ext
      · simp [h1]
      · intro i hi hi'
        rw [List.count_eq_zero] at h2
        have h4 : listed[i] ≠ false := fun e => h2 (by rw [← e]; simp)
        simpa using h4
    rw [← this]; exact h3
  · rintro n listed a' w' ⟨h1, h2, h3⟩
    have hmem : false ∈ listed.toList := by
      rw [← List.count_pos_iff]; omega
    obtain ⟨j, hj, e⟩ := List.mem_iff_getElem.1 hmem
    exact ready_ne hb (by omega) j (by rw [Array.getElem?_eq_getElem (by simpa using hj)]; simpa using e)
  · rintro n listed a' w' ⟨h1, h2, h3⟩ i hi
    have hu := (mem_ready.1 hi).1
    refine wpOp_mono (fun a'' w'' h4 => ⟨by simpa using h1, ?_, h4⟩) (hs listed a' w' h3 i hi)
    have h5 : listed.toList[i]? = some false := by
      rw [Array.getElem?_toList]
      rw [Array.getD_eq_getD_getElem?] at hu
      cases h : listed[i]? with
      | none => rw [h] at hu; simp at hu
      | some b => rw [h] at hu; simpa using hu
    have h6 := count_set _ _ h5
    rw [Array.toList_setIfInBounds]
    omega
theorem wp_region_flags0 {P : Program} {ops : Array Oper} {Q : Exit → Act → World → Prop} {id : Nat} {a : Act} {w : World} (J : Array Bool → Act → World → Prop) (hm : P.follows .mixedOrders = true) (k : Nat) (hk : ops.size = k) (hb : backB ops = true)
    (hi : J (Array.replicate k false) a w.drew)
    (h0 : ∀ a' w', J (Array.replicate k true) a' w' → Q .normal a' w')
    (hs : ∀ listed a' w', J listed a' w' → ∀ i ∈ Region.ready .any ops listed, wpOp P ops Q i (fun a'' w'' => J (listed.setIfInBounds i true) a'' w'') a' w') :
    (Code.region id ops true).wp P Q a w := wp_region_flags (fun _ => J) hm k hk hb hi h0 hs
/-- One operation that has come up: it is carried out, or its guard keeps it out. -/
theorem wpOp_do {P : Program} {ops : Array Oper} {Q : Exit → Act → World → Prop} {i : Nat} {K : Act → World → Prop} {a : Act} {w : World} {o : Oper} (ho : ops[i]? = some o) (hw : Region.wanted o (yielded ops a.tmps) = true) (h : o.wp P a w K Q) : wpOp P ops Q i K a w := by
  unfold wpOp
  rw [ho]
  simp only [hw, if_true]
  exact .inl h
theorem wpOp_skip {P : Program} {ops : Array Oper} {Q : Exit → Act → World → Prop} {i : Nat} {K : Act → World → Prop} {a : Act} {w : World} {o : Oper} (ho : ops[i]? = some o) (hw : Region.wanted o (yielded ops a.tmps) = false) (h : K (a.put o.dst undef) w) : wpOp P ops Q i K a w := by
  unfold wpOp
  rw [ho]
  simp only [hw, Bool.false_eq_true, if_false]
  exact h

end Go.Proofs.YtecffghcpknmjaaGreatDoor
