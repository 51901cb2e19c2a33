/- The walk of lives; its conditions stand in the theorems. -/
import Derived.Test.YtnhophaeimpkkaaT16
import Derived.Test.YtnhophaeimpkkaaOwn2
import Derived.Deep.RegionHeld3
import Derived.Deep.DrawnRows
import Derived.WalkKit
import Derived.WalkSpells
import Derived.WalkLawsBesides
namespace Go.Proofs.Ytnhophaeimpkkaa
open Go Go.RowKit

def c0 : Pom := ⟨true, ⟨⟨#[103]⟩, ⟨#[112]⟩, ⟨#[49]⟩⟩, ⟨#[]⟩, ⟨#[97]⟩, ⟨#[]⟩, ⟨#[]⟩, [⟨⟨#[112]⟩, ⟨#[50]⟩⟩], [], []⟩
def p0 : Pom := ⟨false, ⟨⟨#[]⟩, ⟨#[]⟩, ⟨#[]⟩⟩, ⟨#[]⟩, ⟨#[112]⟩, ⟨#[]⟩, ⟨#[]⟩, [⟨⟨#[112]⟩, ⟨#[49]⟩⟩, ⟨⟨#[113]⟩, ⟨#[49]⟩⟩], [], []⟩
def m0 : Pom := ⟨true, ⟨⟨#[103]⟩, ⟨#[112]⟩, ⟨#[49]⟩⟩, ⟨#[103]⟩, ⟨#[97]⟩, ⟨#[49]⟩, ⟨#[]⟩, [⟨⟨#[112]⟩, ⟨#[50]⟩⟩, ⟨⟨#[113]⟩, ⟨#[49]⟩⟩], [], []⟩

theorem m0_eq : merge c0 p0 = m0 := by
  have h1 : isE ⟨#[]⟩ = true := by simp [isE, ByteArray.toList_eq]
  have h2 : over p0.props c0.props = m0.props := by decide
  simp only [merge, h2]
  simp [c0, p0, m0, h1, underD]
theorem get_p : get m0.props ⟨#[112]⟩ = (⟨#[50]⟩, true) := by decide
theorem get_q : get m0.props ⟨#[113]⟩ = (⟨#[49]⟩, true) := by decide
theorem small0 : Small c0 p0 := ⟨by decide, by decide, by decide, by simp [c0, p0, underD], by simp [c0, p0, underD]⟩

theorem DepsOf.nil (w : World) : DepsOf w (.slice none 0 0) [] := ⟨[], rfl, SliceOf.nil, by simp⟩

set_option maxRecDepth 100000 in
set_option maxHeartbeats 1000000 in
theorem lives_any (w : World) : Calls Try.prog 8 #[] w fun e w' => e = .returned (.bool true) ∧ Below w.heap.size w w' := by
  go_enter Try.func8, Try.ntmps8
  go_wp2_with fail
  refine Calls.world ?_
  intro W hW
  have s1 : SliceOf 2 prpC W (.slice (some ⟨w.heap.size + 1, 0, none⟩) 1 1) c0.props := by
    rw [hW]; exact (sliceLit prpC_len _ c0.props _ _ 1 (by simp) rfl (by decide)).below ((((Below.refl _ _).alloc (Nat.le_refl _) _).alloc (by simp) _).alloc (by first | (simp; done) | (simp; omega)) _)
  have s2 : SliceOf 2 prpC W (.slice (some ⟨w.heap.size + 1 + 1 + 1, 0, none⟩) 2 2) p0.props := by
    rw [hW]; exact (sliceLit prpC_len _ p0.props _ _ 2 (by simp) rfl (by decide)).below ((Below.refl _ _).alloc (Nat.le_refl _) _)
  have hB : Below w.heap.size w W := by
    rw [hW]; exact (((((Below.refl _ _).alloc (Nat.le_refl _) _).alloc (by simp) _).alloc (by simp; omega) _).alloc (by simp; omega) _).alloc (by simp; omega) _
  clear hW
  refine (merge_any c0 p0 (.slice (some ⟨w.heap.size + 1, 0, none⟩) 1 1) (.slice none 0 0) (.slice none 0 0) (.slice (some ⟨w.heap.size + 1 + 1 + 1, 0, none⟩) 2 2) (.slice none 0 0) (.slice none 0 0) W ⟨rfl, s1, DepsOf.nil W, DepsOf.nil W⟩ ⟨rfl, s2, DepsOf.nil W, DepsOf.nil W⟩ small0).mono ?_
  intro e w1 hR
  obtain ⟨pv, mv, dv, rfl, hM⟩ := hR
  rw [m0_eq] at hM ⊢
  have hP := hM.pom
  have hb1 := hM.below
  obtain ⟨-, q1, q2, q3⟩ := hP
  obtain ⟨ao1, cap1, h1⟩ := q1.shape
  obtain ⟨ao2, cap2, h2⟩ := q2.shape
  obtain ⟨ao3, cap3, h3⟩ := q3.shape
  subst h1; subst h2; subst h3
  clear hM q2 q3 s1 s2
  have hB1 := hB.trans (hb1.mono hB.size)
  have hml : m0.props.length ≤ 140737488355328 := by decide
  clear hB hb1
  show _
  simp only [show (Value.agg (pomC m0 (.slice ao1 m0.props.length cap1) (.slice ao2 m0.managed.length cap2) (.slice ao3 m0.deps.length cap3)).toArray) = .agg [.bool true, .string ⟨#[103]⟩, .string ⟨#[112]⟩, .string ⟨#[49]⟩, .string ⟨#[103]⟩, .string ⟨#[97]⟩, .string ⟨#[49]⟩, .string ⟨#[]⟩, .slice ao1 2 cap1, .slice ao2 0 cap2, .slice ao3 0 cap3].toArray from rfl]
  have q1' : SliceOf 2 prpC w1 (.slice ao1 2 cap1) m0.props := q1
  clear q1
  go_wp2_with fail
  refine Calls.world ?_
  intro W2 hW2
  have q2 : SliceOf 2 prpC W2 (.slice ao1 2 cap1) m0.props := by rw [hW2]; exact q1'.below ((Below.refl _ _).alloc (Nat.le_refl _) _)
  have x2 : Box W2 w1.heap.size [.bool true, .string ⟨#[103]⟩, .string ⟨#[112]⟩, .string ⟨#[49]⟩, .string ⟨#[103]⟩, .string ⟨#[97]⟩, .string ⟨#[49]⟩, .string ⟨#[]⟩, .slice ao1 2 cap1, .slice ao2 0 cap2, .slice ao3 0 cap3] := by rw [hW2]; exact Box.new w1 _ _ _ rfl
  have hB2 : Below w.heap.size w W2 := by rw [hW2]; exact hB1.alloc hB1.size _
  clear hW2 q1' hB1
  refine (get_any m0.props ⟨#[112]⟩ _ _ q2 hml).mono ?_
  rintro e w3 ⟨rfl, hb3⟩
  rw [get_p]
  have x3 := x2.below hb3 x2.lt
  have q3 := q2.below hb3
  have hB3 := hB2.trans (hb3.mono hB2.size)
  have c8 := x3.cell 8 _ rfl
  clear x2 q2 hB2 hb3
  go_wp2_with fail
  refine (get_any m0.props ⟨#[113]⟩ _ _ q3 hml).mono ?_
  rintro e w4 ⟨rfl, hb4⟩
  rw [get_q]
  have x4 := x3.below hb4 x3.lt
  have hB4 := hB3.trans (hb4.mono hB3.size)
  have c2 := x4.cell 4 _ rfl
  have c4 := x4.cell 6 _ rfl
  clear x3 q3 hB3 hb4
  go_wp2
  go_ret
  exact ⟨rfl, hB4⟩

end Go.Proofs.Ytnhophaeimpkkaa
