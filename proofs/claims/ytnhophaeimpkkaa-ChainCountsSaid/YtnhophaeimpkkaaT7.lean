/- The walks of slices.Clone; its conditions stand in the theorems. -/
import Derived.Test.YtnhophaeimpkkaaT6
import Derived.Test.YtnhophaeimpkkaaOwn
import Derived.WalkKit
import Derived.WalkSpells
import Derived.WalkLawsBesides
namespace Go.Proofs.Ytnhophaeimpkkaa
open Go Go.RowKit

/-- The post of a function that makes a slice of its own. -/
def RetOwn {α : Type} (E : TypeId) (n : Nat) (C : α → List Value) (l : List α) (w : World) (e : Ending) (w' : World) : Prop := ∃ v, e = .returned v ∧ Owns w.heap.size E n C w' v l ∧ Below w.heap.size w w'

theorem idC_len (x : Id) : (idC x).length = 2 := rfl
theorem prpC_len (x : Prp) : (prpC x).length = 2 := rfl
theorem depC_len (x : Dep × Value) : (depC x).length = 8 := rfl
theorem idC_one (x : Id) : ∀ u ∈ idC x, u.oneCell' = true := by simp [idC, Value.oneCell']
theorem prpC_one (x : Prp) : ∀ u ∈ prpC x, u.oneCell' = true := by simp [prpC, Value.oneCell']
theorem depC_one {w : World} {x : Dep × Value} (h : DepOk w x) : ∀ u ∈ depC x, u.oneCell' = true := by
  obtain ⟨d, ex⟩ := x
  obtain ⟨ao, cap, rfl⟩ := h.shape
  simp [depC, Value.oneCell']

theorem info_id : (Try.prog.info? 66).map (fun i => (i.zero, i.size, i.bytes)) = some (some (.agg #[.string ⟨#[]⟩, .string ⟨#[]⟩]), 2, 32) := by kernel_rfl
theorem info_prp : (Try.prog.info? 36).map (fun i => (i.zero, i.size, i.bytes)) = some (some (.agg #[.string ⟨#[]⟩, .string ⟨#[]⟩]), 2, 32) := by kernel_rfl
theorem info_dep : (Try.prog.info? 34).map (fun i => (i.zero, i.size, i.bytes)) = some (some (.agg #[.string ⟨#[]⟩, .string ⟨#[]⟩, .string ⟨#[]⟩, .string ⟨#[]⟩, .string ⟨#[]⟩, .int .i64 0, .int .i64 0, .slice none 0 0]), 8, 120) := by kernel_rfl


set_option maxHeartbeats 400000 in
theorem cloneId_any (l : List Id) (v : Value) (w : World) (hs : SliceOf 2 idC w v l) (hl : l.length * 32 ≤ 140737488355328) :
    Calls Try.prog 34 #[v] w (RetOwn 66 2 idC l w) := by
  obtain ⟨ao, cap, rfl⟩ := hs.shape
  have hq := fun (w : World) (a : Option Addr) (n c : Nat) => Lib.run_eql_slice_nil (P := Try.prog) w 32 66 a n c 0 0 Try.underlying32
  have Hl := Lib.hid hl
  clear hl
  cases ao with
  | none =>
    have h0 : l = [] := by
      obtain ⟨ao', cap', h1, h2, -, h3, -⟩ := hs
      cases h1
      exact List.eq_nil_of_length_eq_zero (by have := h3 rfl; omega)
    have hcap : cap = 0 := by
      obtain ⟨ao', cap', h1, h2, -, h3, -⟩ := hs
      cases h1; exact h3 rfl
    subst h0; subst hcap
    clear hs Hl
    simp only [List.length_nil]
    go_enter Try.func34, Try.ntmps34
    go_wp2
    go_ret
    exact ⟨_, rfl, Owns.nil, Below.refl _ _⟩
  | some ad =>
    go_enter Try.func34, Try.ntmps34
    go_wp2_with (at_builtin; refine wpList_append_slice _ rfl _ _ 32 rfl w.heap.size 66 Try.underlying32 info_id rfl (by decide) idC_len (.slice (some ⟨w.heap.size, 0, none⟩) 0 0) [] rfl (Owns.empty rfl (Nat.le_refl _)) _ l rfl (hs.below ((Below.refl _ _).alloc (Nat.le_refl _) _)) (fun y _ => idC_one y) (by simpa using Hl.out) (by decide) (by simp) ?_; intro v' w1 hown hgrow hloc)
    go_wp2
    go_ret
    exact ⟨_, rfl, hown, ((Below.refl _ _).alloc (Nat.le_refl _) _).grown hgrow (by simp) (by simp [Value.ownBlock])⟩

set_option maxHeartbeats 400000 in
theorem clonePrp_any (l : List Prp) (v : Value) (w : World) (hs : SliceOf 2 prpC w v l) (hl : l.length * 32 ≤ 140737488355328) :
    Calls Try.prog 47 #[v] w (RetOwn 36 2 prpC l w) := by
  obtain ⟨ao, cap, rfl⟩ := hs.shape
  have hq := fun (w : World) (a : Option Addr) (n c : Nat) => Lib.run_eql_slice_nil (P := Try.prog) w 24 36 a n c 0 0 Try.underlying24
  have Hl := Lib.hid hl
  clear hl
  cases ao with
  | none =>
    have h0 : l = [] := by
      obtain ⟨ao', cap', h1, h2, -, h3, -⟩ := hs
      cases h1
      exact List.eq_nil_of_length_eq_zero (by have := h3 rfl; omega)
    have hcap : cap = 0 := by
      obtain ⟨ao', cap', h1, h2, -, h3, -⟩ := hs
      cases h1; exact h3 rfl
    subst h0; subst hcap
    clear hs Hl
    simp only [List.length_nil]
    go_enter Try.func47, Try.ntmps47
    go_wp2
    go_ret
    exact ⟨_, rfl, Owns.nil, Below.refl _ _⟩
  | some ad =>
    go_enter Try.func47, Try.ntmps47
    go_wp2_with (at_builtin; refine wpList_append_slice _ rfl _ _ 24 rfl w.heap.size 36 Try.underlying24 info_prp rfl (by decide) prpC_len (.slice (some ⟨w.heap.size, 0, none⟩) 0 0) [] rfl (Owns.empty rfl (Nat.le_refl _)) _ l rfl (hs.below ((Below.refl _ _).alloc (Nat.le_refl _) _)) (fun y _ => prpC_one y) (by simpa using Hl.out) (by decide) (by simp) ?_; intro v' w1 hown hgrow hloc)
    go_wp2
    go_ret
    exact ⟨_, rfl, hown, ((Below.refl _ _).alloc (Nat.le_refl _) _).grown hgrow (by simp) (by simp [Value.ownBlock])⟩

set_option maxHeartbeats 400000 in
theorem cloneDep_any (l : List (Dep × Value)) (v : Value) (w : World) (hs : SliceOf 8 depC w v l) (hok : ∀ p ∈ l, DepOk w p) (hl : l.length * 120 ≤ 140737488355328) :
    Calls Try.prog 51 #[v] w (RetOwn 34 8 depC l w) := by
  obtain ⟨ao, cap, rfl⟩ := hs.shape
  have hq := fun (w : World) (a : Option Addr) (n c : Nat) => Lib.run_eql_slice_nil (P := Try.prog) w 25 34 a n c 0 0 Try.underlying25
  have Hl := Lib.hid hl
  clear hl
  cases ao with
  | none =>
    have h0 : l = [] := by
      obtain ⟨ao', cap', h1, h2, -, h3, -⟩ := hs
      cases h1
      exact List.eq_nil_of_length_eq_zero (by have := h3 rfl; omega)
    have hcap : cap = 0 := by
      obtain ⟨ao', cap', h1, h2, -, h3, -⟩ := hs
      cases h1; exact h3 rfl
    subst h0; subst hcap
    clear hs Hl hok
    simp only [List.length_nil]
    go_enter Try.func51, Try.ntmps51
    go_wp2
    go_ret
    exact ⟨_, rfl, Owns.nil, Below.refl _ _⟩
  | some ad =>
    go_enter Try.func51, Try.ntmps51
    go_wp2_with (at_builtin; refine wpList_append_slice _ rfl _ _ 25 rfl w.heap.size 34 Try.underlying25 info_dep rfl (by decide) depC_len (.slice (some ⟨w.heap.size, 0, none⟩) 0 0) [] rfl (Owns.empty rfl (Nat.le_refl _)) _ l rfl (hs.below ((Below.refl _ _).alloc (Nat.le_refl _) _)) (fun y hy => depC_one (hok y hy)) (by simpa using Hl.out) (by decide) (by simp) ?_; intro v' w1 hown hgrow hloc)
    go_wp2
    go_ret
    exact ⟨_, rfl, hown, ((Below.refl _ _).alloc (Nat.le_refl _) _).grown hgrow (by simp) (by simp [Value.ownBlock])⟩

end Go.Proofs.Ytnhophaeimpkkaa
