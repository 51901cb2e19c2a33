/- What DiffBack asks of edits, in plain words; no program in sight. -/
import Derived.Test.YtmcjpmogjmnfpaaLC
import Derived.Test.YtmcjpmogjmnfpaaL20
namespace Go.Proofs.Ytmcjpmogjmnfpaa
open Go Go.RowKit

theorem mergeP_len : ∀ l m : List Pin, (mergeP oneE l m).length ≤ l.length + m.length
  | [], [] => by rw [mergeP]; simp
  | a :: l, [] => by
    have h1 := mergeP_len l []
    have h2 := oneE_len a.key (some a) none
    rw [mergeP, List.length_append]
    simp only [List.length_cons, List.length_nil] at h1 ⊢
    omega
  | [], b :: m => by
    have h1 := mergeP_len [] m
    have h2 := oneE_len b.key none (some b)
    rw [mergeP, List.length_append]
    simp only [List.length_cons, List.length_nil] at h1 ⊢
    omega
  | a :: l, b :: m => by
    have h1 := mergeP_len l (b :: m)
    have h2 := mergeP_len (a :: l) m
    have h3 := mergeP_len l m
    have k1 := oneE_len a.key (some a) none
    have k2 := oneE_len b.key none (some b)
    have k3 := oneE_len a.key (some a) (some b)
    rw [mergeP]
    simp only [List.length_cons] at h1 h2 ⊢
    split
    · rw [List.length_append]; omega
    · split
      · rw [List.length_append]; omega
      · rw [List.length_append]; omega
termination_by l m => l.length + m.length
theorem oneE_sm {k : Key} {a b : Option Pin} (hk : keySm k) (ha : ∀ p, a = some p → pinSm p) (hb : ∀ p, b = some p → pinSm p) : ∀ e ∈ oneE k a b, editSm e := by
  intro e he
  unfold oneE at he
  split at he
  · simp only [List.mem_cons, List.not_mem_nil, or_false] at he
    subst he
    refine ⟨hk, ?_, ?_⟩
    · cases a with
      | none => exact noPin_sm
      | some p => exact ha p rfl
    · cases b with
      | none => exact noPin_sm
      | some p => exact hb p rfl
  · simp at he
theorem mergeP_sm : ∀ l m : List Pin, (∀ p ∈ l, pinSm p) → (∀ p ∈ m, pinSm p) → ∀ e ∈ mergeP oneE l m, editSm e
  | [], [], _, _, e, he => by rw [mergeP] at he; simp at he
  | a :: l, [], hl, hm, e, he => by
    rw [mergeP] at he
    have ka := hl a (List.mem_cons_self ..)
    rcases List.mem_append.1 he with he | he
    · exact oneE_sm ka.1 (fun p h => by cases h; exact ka) (fun p h => by cases h) e he
    · exact mergeP_sm l [] (fun p h => hl p (List.mem_cons_of_mem _ h)) hm e he
  | [], b :: m, hl, hm, e, he => by
    rw [mergeP] at he
    have kb := hm b (List.mem_cons_self ..)
    rcases List.mem_append.1 he with he | he
    · exact oneE_sm kb.1 (fun p h => by cases h) (fun p h => by cases h; exact kb) e he
    · exact mergeP_sm [] m hl (fun p h => hm p (List.mem_cons_of_mem _ h)) e he
  | a :: l, b :: m, hl, hm, e, he => by
    rw [mergeP] at he
    have ka := hl a (List.mem_cons_self ..)
    have kb := hm b (List.mem_cons_self ..)
    have hl' : ∀ p ∈ l, pinSm p := fun p h => hl p (List.mem_cons_of_mem _ h)
    have hm' : ∀ p ∈ m, pinSm p := fun p h => hm p (List.mem_cons_of_mem _ h)
    split at he
    · rcases List.mem_append.1 he with he | he
      · exact oneE_sm ka.1 (fun p h => by cases h; exact ka) (fun p h => by cases h) e he
      · exact mergeP_sm l (b :: m) hl' hm e he
    · split at he
      · rcases List.mem_append.1 he with he | he
        · exact oneE_sm kb.1 (fun p h => by cases h) (fun p h => by cases h; exact kb) e he
        · exact mergeP_sm (a :: l) m hl hm' e he
      · rcases List.mem_append.1 he with he | he
        · exact oneE_sm ka.1 (fun p h => by cases h; exact ka) (fun p h => by cases h; exact kb) e he
        · exact mergeP_sm l m hl' hm' e he
termination_by l m => l.length + m.length
theorem editsR_len (a b : Lock) : (editsR a b).length ≤ a.pins.length + b.pins.length := by
  unfold editsR
  split
  · exact mergeP_len _ _
  · simp
theorem editsR_sm {a b : Lock} (ha : lockSm a) (hb : lockSm b) : ∀ e ∈ editsR a b, editSm e := by
  unfold editsR
  split
  · exact mergeP_sm _ _ ha.2 hb.2
  · intro e he; simp at he
theorem turnE_len (l : List Edit) : (turnE l).length = l.length := by unfold turnE; simp
theorem turnE_sm {l : List Edit} (h : ∀ e ∈ l, editSm e) : ∀ e ∈ turnE l, editSm e := by
  intro e he
  unfold turnE at he
  obtain ⟨f, hf, rfl⟩ := List.mem_map.1 he
  obtain ⟨h1, h2, h3⟩ := h f hf
  exact ⟨h1, h3, h2⟩
/-- A lock with another one's root. -/
def rooted (a b : Lock) : Lock := ⟨a.root, b.pins⟩
theorem rooted_sm {a b : Lock} (ha : lockSm a) (hb : lockSm b) : lockSm (rooted a b) := ⟨ha.1, hb.2⟩
theorem rooted_may {a b : Lock} (ha : lockMay a = true) (hb : lockMay b = true) : lockMay (rooted a b) = true := by
  unfold lockMay rooted at *
  simp only [Bool.and_eq_true] at *
  exact ⟨⟨⟨hb.1.1.1, hb.1.1.2⟩, ha.1.2⟩, hb.2⟩
theorem apply_to {a : Lock} {b : Lock} (ha : lockMay a = true) (hb : lockMay b = true) (hr : a.root = b.root) : applyR a (refEdits a.pins b.pins) = some b := by
  have ra := rise_of_may ha
  have rb := rise_of_may hb
  have ho : outL a (refEdits a.pins b.pins) = b := by
    unfold outL
    rw [apply_edits ra rb, hr]
  unfold applyR
  rw [ho, ha, hb, fitsB_iff.2 (edits_fit a.pins b.pins)]
  have hm : mayE (refEdits a.pins b.pins) = true := by rw [← edits_same ra rb]; exact edits_may ra rb
  rw [hm]; rfl
theorem back_laws {a b : Lock} (ha : lockMay a = true) (hb : lockMay b = true) :
    applyR a (editsR a (rooted a b)) = some (rooted a b) ∧ applyR (rooted a b) (turnE (editsR a (rooted a b))) = some a ∧ applyR a [] = some a ∧ editsR a a = [] ∧ editsR (rooted a b) a = turnE (editsR a (rooted a b)) := by
  have hc := rooted_may ha hb
  generalize hcc : rooted a b = c at *
  have hr : a.root = c.root := by rw [← hcc]; rfl
  have ra := rise_of_may ha
  have rc := rise_of_may hc
  have e1 : editsR a c = refEdits a.pins c.pins := by unfold editsR; rw [ha, hc]; exact edits_same ra rc
  have e2 : editsR c a = refEdits c.pins a.pins := by unfold editsR; rw [ha, hc]; exact edits_same rc ra
  have e3 : editsR a a = refEdits a.pins a.pins := by unfold editsR; rw [ha]; exact edits_same ra ra
  refine ⟨by rw [e1]; exact apply_to ha hc hr, by rw [e1, turn_edits]; exact apply_to hc ha hr.symm, ?_, by rw [e3, edits_self], by rw [e1, e2, turn_edits]⟩
  have := apply_to ha ha rfl
  rwa [edits_self] at this

end Go.Proofs.Ytmcjpmogjmnfpaa
