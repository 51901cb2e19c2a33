/- Walks: which Gavs, Keys and pins may be, the program's and the document's; the conditions stand in the theorems. -/
import Derived.Test.YtopknpainclmgaaGreatDoorL1

namespace Go.Proofs.YtopknpainclmgaaGreatDoor
open Go Go.RowKit

def keySm (k : Key) : Prop := k.group.size ≤ 9223372036854775807 ∧ k.artifact.size ≤ 9223372036854775807 ∧ k.type.size ≤ 9223372036854775807 ∧ k.classifier.size ≤ 9223372036854775807
def gavSm (g : Gav) : Prop := g.group.size ≤ 9223372036854775807 ∧ g.artifact.size ≤ 9223372036854775807 ∧ g.version.size ≤ 9223372036854775807
def pinSm (p : Pin) : Prop := keySm p.key ∧ p.version.size ≤ 9223372036854775807
set_option maxHeartbeats 2000000 in
theorem mayGav_any (g : Gav) (w : World) (h : gavSm g) :
    Calls Tryz.prog 38 #[.agg #[.string g.group, .string g.artifact, .string g.version]] w fun e w' => e = .returned (.bool (gavMay g)) ∧ Below w.heap.size w w' := by
  have HH := Lib.hid h
  clear h
  go_enter Tryz.func38, Tryz.ntmps38
  go_wp2_with fail
  refine Calls.world ?_
  intro W hW
  have x0 : Box W w.heap.size [.string g.group, .string g.artifact, .string g.version] := by rw [hW]; exact Box.new w _ _ _ rfl
  have hB0 : Below w.heap.size w W := by rw [hW]; exact (Below.refl _ _).alloc (Nat.le_refl _) _
  have X := Lib.hid x0
  have HB := Lib.hid hB0
  clear hW x0 hB0
  refine (isId_any g.group _ HH.out.1).mono ?_
  rintro e w0 ⟨rfl, hb⟩
  have X' := Lib.hid (X.out.below hb X.out.lt)
  have HB' := Lib.hid (HB.out.trans (hb.mono HB.out.size))
  clear hb X HB
  have X := X'
  have HB := HB'
  clear X' HB'
  cases hq : isIdB g.group
  · have HQ0 := Lib.hid hq
    clear hq
    have c0 := X.out.cell 0 _ rfl
    have c1 := X.out.cell 1 _ rfl
    have c2 := X.out.cell 2 _ rfl
    have l0 := X.out.lt
    go_wp2
    go_ret
    exact ⟨ret_bool (by have z := True.intro; unfold gavMay; rw [HQ0.out] <;> (first | done | (simp; done) | (simp; omega) | omega)), HB.out⟩
  have HQ0 := Lib.hid hq
  clear hq
  have c0 := X.out.cell 0 _ rfl
  have c1 := X.out.cell 1 _ rfl
  have c2 := X.out.cell 2 _ rfl
  have l0 := X.out.lt
  go_wp2_with fail
  refine (isId_any g.artifact _ HH.out.2.1).mono ?_
  rintro e w1 ⟨rfl, hb⟩
  have X' := Lib.hid (X.out.below hb X.out.lt)
  have HB' := Lib.hid (HB.out.trans (hb.mono HB.out.size))
  clear hb X HB
  clear c0 c1 c2 l0
  have X := X'
  have HB := HB'
  clear X' HB'
  cases hq : isIdB g.artifact
  · have HQ1 := Lib.hid hq
    clear hq
    have c0 := X.out.cell 0 _ rfl
    have c1 := X.out.cell 1 _ rfl
    have c2 := X.out.cell 2 _ rfl
    have l0 := X.out.lt
    go_wp2
    go_ret
    exact ⟨ret_bool (by have z := True.intro; unfold gavMay; rw [HQ0.out, HQ1.out] <;> (first | done | (simp; done) | (simp; omega) | omega)), HB.out⟩
  have HQ1 := Lib.hid hq
  clear hq
  have c0 := X.out.cell 0 _ rfl
  have c1 := X.out.cell 1 _ rfl
  have c2 := X.out.cell 2 _ rfl
  have l0 := X.out.lt
  go_wp2_with fail
  refine (ver_any g.version _ HH.out.2.2).mono ?_
  rintro e w2 ⟨rfl, hb⟩
  have X' := Lib.hid (X.out.below hb X.out.lt)
  have HB' := Lib.hid (HB.out.trans (hb.mono HB.out.size))
  clear hb X HB
  clear c0 c1 c2 l0
  have X := X'
  have HB := HB'
  clear X' HB'
  cases hq : verMay g.version
  · have HQ2 := Lib.hid hq
    clear hq
    have c0 := X.out.cell 0 _ rfl
    have c1 := X.out.cell 1 _ rfl
    have c2 := X.out.cell 2 _ rfl
    have l0 := X.out.lt
    go_wp2
    go_ret
    exact ⟨ret_bool (by have z := True.intro; unfold gavMay; rw [HQ0.out, HQ1.out, HQ2.out] <;> (first | done | (simp; done) | (simp; omega) | omega)), HB.out⟩
  have HQ2 := Lib.hid hq
  clear hq
  have c0 := X.out.cell 0 _ rfl
  have c1 := X.out.cell 1 _ rfl
  have c2 := X.out.cell 2 _ rfl
  have l0 := X.out.lt
  go_wp2
  go_ret
  exact ⟨ret_bool (by have z := True.intro; unfold gavMay; rw [HQ0.out, HQ1.out, HQ2.out] <;> (first | done | (simp; done) | (simp; omega) | omega)), HB.out⟩
set_option maxHeartbeats 2000000 in
theorem mayKey_any (k : Key) (w : World) (h : keySm k) :
    Calls Tryz.prog 57 #[.agg #[.string k.group, .string k.artifact, .string k.type, .string k.classifier]] w fun e w' => e = .returned (.bool (keyMay k)) ∧ Below w.heap.size w w' := by
  have HH := Lib.hid h
  clear h
  go_enter Tryz.func57, Tryz.ntmps57
  go_wp2_with fail
  refine Calls.world ?_
  intro W hW
  have x0 : Box W w.heap.size [.string k.group, .string k.artifact, .string k.type, .string k.classifier] := by rw [hW]; exact Box.new w _ _ _ rfl
  have hB0 : Below w.heap.size w W := by rw [hW]; exact (Below.refl _ _).alloc (Nat.le_refl _) _
  have X := Lib.hid x0
  have HB := Lib.hid hB0
  clear hW x0 hB0
  refine (isId_any k.group _ HH.out.1).mono ?_
  rintro e w0 ⟨rfl, hb⟩
  have X' := Lib.hid (X.out.below hb X.out.lt)
  have HB' := Lib.hid (HB.out.trans (hb.mono HB.out.size))
  clear hb X HB
  have X := X'
  have HB := HB'
  clear X' HB'
  cases hq : isIdB k.group
  · have HQ0 := Lib.hid hq
    clear hq
    have c0 := X.out.cell 0 _ rfl
    have c1 := X.out.cell 1 _ rfl
    have c2 := X.out.cell 2 _ rfl
    have c3 := X.out.cell 3 _ rfl
    have l0 := X.out.lt
    go_wp2
    go_ret
    exact ⟨ret_bool (by have z := True.intro; unfold keyMay; rw [HQ0.out] <;> (first | done | (simp; done) | (simp; omega) | omega)), HB.out⟩
  have HQ0 := Lib.hid hq
  clear hq
  have c0 := X.out.cell 0 _ rfl
  have c1 := X.out.cell 1 _ rfl
  have c2 := X.out.cell 2 _ rfl
  have c3 := X.out.cell 3 _ rfl
  have l0 := X.out.lt
  go_wp2_with fail
  refine (isId_any k.artifact _ HH.out.2.1).mono ?_
  rintro e w1 ⟨rfl, hb⟩
  have X' := Lib.hid (X.out.below hb X.out.lt)
  have HB' := Lib.hid (HB.out.trans (hb.mono HB.out.size))
  clear hb X HB
  clear c0 c1 c2 c3 l0
  have X := X'
  have HB := HB'
  clear X' HB'
  cases hq : isIdB k.artifact
  · have HQ1 := Lib.hid hq
    clear hq
    have c0 := X.out.cell 0 _ rfl
    have c1 := X.out.cell 1 _ rfl
    have c2 := X.out.cell 2 _ rfl
    have c3 := X.out.cell 3 _ rfl
    have l0 := X.out.lt
    go_wp2
    go_ret
    exact ⟨ret_bool (by have z := True.intro; unfold keyMay; rw [HQ0.out, HQ1.out] <;> (first | done | (simp; done) | (simp; omega) | omega)), HB.out⟩
  have HQ1 := Lib.hid hq
  clear hq
  have c0 := X.out.cell 0 _ rfl
  have c1 := X.out.cell 1 _ rfl
  have c2 := X.out.cell 2 _ rfl
  have c3 := X.out.cell 3 _ rfl
  have l0 := X.out.lt
  go_wp2_with fail
  refine (isId_any k.type _ HH.out.2.2.1).mono ?_
  rintro e w2 ⟨rfl, hb⟩
  have X' := Lib.hid (X.out.below hb X.out.lt)
  have HB' := Lib.hid (HB.out.trans (hb.mono HB.out.size))
  clear hb X HB
  clear c0 c1 c2 c3 l0
  have X := X'
  have HB := HB'
  clear X' HB'
  cases hq : isIdB k.type
  · have HQ2 := Lib.hid hq
    clear hq
    have c0 := X.out.cell 0 _ rfl
    have c1 := X.out.cell 1 _ rfl
    have c2 := X.out.cell 2 _ rfl
    have c3 := X.out.cell 3 _ rfl
    have l0 := X.out.lt
    go_wp2
    go_ret
    exact ⟨ret_bool (by have z := True.intro; unfold keyMay; rw [HQ0.out, HQ1.out, HQ2.out] <;> (first | done | (simp; done) | (simp; omega) | omega)), HB.out⟩
  have HQ2 := Lib.hid hq
  clear hq
  by_cases hq : k.classifier.toList = []
  · have HQ3 := Lib.hid hq
    have e1 : (k.classifier.toList == []) = true := by rw [hq]; rfl
    have e2 : k.classifier.toList.isEmpty = true := by rw [hq]; rfl
    clear hq
    have c0 := X.out.cell 0 _ rfl
    have c1 := X.out.cell 1 _ rfl
    have c2 := X.out.cell 2 _ rfl
    have c3 := X.out.cell 3 _ rfl
    have l0 := X.out.lt
    go_wp2
    go_ret
    exact ⟨ret_bool (by have z := True.intro; unfold keyMay; rw [HQ0.out, HQ1.out, HQ2.out, e2] <;> (first | done | (simp; done) | (simp; omega) | omega)), HB.out⟩
  have HQ3 := Lib.hid hq
  have e1 : (k.classifier.toList == []) = false := by simpa using hq
  have e2 : k.classifier.toList.isEmpty = false := by simpa using hq
  clear hq
  have c0 := X.out.cell 0 _ rfl
  have c1 := X.out.cell 1 _ rfl
  have c2 := X.out.cell 2 _ rfl
  have c3 := X.out.cell 3 _ rfl
  have l0 := X.out.lt
  go_wp2_with fail
  refine (isId_any k.classifier _ HH.out.2.2.2).mono ?_
  rintro e w4 ⟨rfl, hb⟩
  have X' := Lib.hid (X.out.below hb X.out.lt)
  have HB' := Lib.hid (HB.out.trans (hb.mono HB.out.size))
  clear hb X HB
  clear c0 c1 c2 c3 l0
  have X := X'
  have HB := HB'
  clear X' HB'
  cases hq : isIdB k.classifier
  · have HQ4 := Lib.hid hq
    clear hq
    have c0 := X.out.cell 0 _ rfl
    have c1 := X.out.cell 1 _ rfl
    have c2 := X.out.cell 2 _ rfl
    have c3 := X.out.cell 3 _ rfl
    have l0 := X.out.lt
    go_wp2
    go_ret
    exact ⟨ret_bool (by have z := True.intro; unfold keyMay; rw [HQ0.out, HQ1.out, HQ2.out, e2, HQ4.out] <;> (first | done | (simp; done) | (simp; omega) | omega)), HB.out⟩
  have HQ4 := Lib.hid hq
  clear hq
  have c0 := X.out.cell 0 _ rfl
  have c1 := X.out.cell 1 _ rfl
  have c2 := X.out.cell 2 _ rfl
  have c3 := X.out.cell 3 _ rfl
  have l0 := X.out.lt
  go_wp2
  go_ret
  exact ⟨ret_bool (by have z := True.intro; unfold keyMay; rw [HQ0.out, HQ1.out, HQ2.out, e2, HQ4.out] <;> (first | done | (simp; done) | (simp; omega) | omega)), HB.out⟩
set_option maxHeartbeats 2000000 in
theorem mayPin_any (p : Pin) (w : World) (h : pinSm p) :
    Calls Tryz.prog 37 #[.agg #[.string p.key.group, .string p.key.artifact, .string p.key.type, .string p.key.classifier, .string p.version, .int .i64 p.scope]] w fun e w' => e = .returned (.bool (pinMay p)) ∧ Below w.heap.size w w' := by
  have HH := Lib.hid h
  clear h
  go_enter Tryz.func37, Tryz.ntmps37
  go_wp2_with fail
  refine Calls.world ?_
  intro W hW
  have x0 : Box W w.heap.size [.string p.key.group, .string p.key.artifact, .string p.key.type, .string p.key.classifier, .string p.version, .int .i64 p.scope] := by rw [hW]; exact Box.new w _ _ _ rfl
  have hB0 : Below w.heap.size w W := by rw [hW]; exact (Below.refl _ _).alloc (Nat.le_refl _) _
  have X := Lib.hid x0
  have HB := Lib.hid hB0
  clear hW x0 hB0
  refine (mayKey_any p.key _ HH.out.1).mono ?_
  rintro e w0 ⟨rfl, hb⟩
  have X' := Lib.hid (X.out.below hb X.out.lt)
  have HB' := Lib.hid (HB.out.trans (hb.mono HB.out.size))
  clear hb X HB
  have X := X'
  have HB := HB'
  clear X' HB'
  cases hq : keyMay p.key
  · have HQ0 := Lib.hid hq
    clear hq
    have c0 := X.out.cell 0 _ rfl
    have c1 := X.out.cell 1 _ rfl
    have c2 := X.out.cell 2 _ rfl
    have c3 := X.out.cell 3 _ rfl
    have c4 := X.out.cell 4 _ rfl
    have c5 := X.out.cell 5 _ rfl
    have l0 := X.out.lt
    go_wp2
    go_ret
    exact ⟨ret_bool (by have z := True.intro; unfold pinMay; rw [HQ0.out] <;> (first | done | (simp; done) | (simp; omega) | omega)), HB.out⟩
  have HQ0 := Lib.hid hq
  clear hq
  have c0 := X.out.cell 0 _ rfl
  have c1 := X.out.cell 1 _ rfl
  have c2 := X.out.cell 2 _ rfl
  have c3 := X.out.cell 3 _ rfl
  have c4 := X.out.cell 4 _ rfl
  have c5 := X.out.cell 5 _ rfl
  have l0 := X.out.lt
  go_wp2_with fail
  refine (ver_any p.version _ HH.out.2).mono ?_
  rintro e w1 ⟨rfl, hb⟩
  have X' := Lib.hid (X.out.below hb X.out.lt)
  have HB' := Lib.hid (HB.out.trans (hb.mono HB.out.size))
  clear hb X HB
  clear c0 c1 c2 c3 c4 c5 l0
  have X := X'
  have HB := HB'
  clear X' HB'
  cases hq : verMay p.version
  · have HQ1 := Lib.hid hq
    clear hq
    have c0 := X.out.cell 0 _ rfl
    have c1 := X.out.cell 1 _ rfl
    have c2 := X.out.cell 2 _ rfl
    have c3 := X.out.cell 3 _ rfl
    have c4 := X.out.cell 4 _ rfl
    have c5 := X.out.cell 5 _ rfl
    have l0 := X.out.lt
    go_wp2
    go_ret
    exact ⟨ret_bool (by have z := True.intro; unfold pinMay; rw [HQ0.out, HQ1.out] <;> (first | done | (simp; done) | (simp; omega) | omega)), HB.out⟩
  have HQ1 := Lib.hid hq
  clear hq
  by_cases hq : 1 ≤ p.scope
  rotate_left
  · have HQ2 := Lib.hid hq
    have c0 := X.out.cell 0 _ rfl
    have c1 := X.out.cell 1 _ rfl
    have c2 := X.out.cell 2 _ rfl
    have c3 := X.out.cell 3 _ rfl
    have c4 := X.out.cell 4 _ rfl
    have c5 := X.out.cell 5 _ rfl
    have l0 := X.out.lt
    go_wp2
    go_ret
    exact ⟨ret_bool (by have z := True.intro; have zHQ2 := HQ2.out; unfold pinMay; rw [HQ0.out, HQ1.out, decide_eq_false (show ¬ (1 ≤ p.scope) by have := HQ2.out; omega)] <;> (first | done | (simp; done) | (simp; omega) | omega)), HB.out⟩
  have HQ2 := Lib.hid hq
  have hq2 := hq
  clear hq
  by_cases hq : p.scope ≤ 5
  rotate_left
  · have HQ3 := Lib.hid hq
    have c0 := X.out.cell 0 _ rfl
    have c1 := X.out.cell 1 _ rfl
    have c2 := X.out.cell 2 _ rfl
    have c3 := X.out.cell 3 _ rfl
    have c4 := X.out.cell 4 _ rfl
    have c5 := X.out.cell 5 _ rfl
    have l0 := X.out.lt
    go_wp2
    go_ret
    exact ⟨ret_bool (by have z := True.intro; have zHQ2 := HQ2.out; have zHQ3 := HQ3.out; unfold pinMay; rw [HQ0.out, HQ1.out, decide_eq_true (show 1 ≤ p.scope by have := HQ2.out; omega), decide_eq_false (show ¬ (p.scope ≤ 5) by have := HQ3.out; omega)] <;> (first | done | (simp; done) | (simp; omega) | omega)), HB.out⟩
  have HQ3 := Lib.hid hq
  have c0 := X.out.cell 0 _ rfl
  have c1 := X.out.cell 1 _ rfl
  have c2 := X.out.cell 2 _ rfl
  have c3 := X.out.cell 3 _ rfl
  have c4 := X.out.cell 4 _ rfl
  have c5 := X.out.cell 5 _ rfl
  have l0 := X.out.lt
  go_wp2
  go_ret
  exact ⟨ret_bool (by have z := True.intro; have zHQ2 := HQ2.out; have zHQ3 := HQ3.out; unfold pinMay; rw [HQ0.out, HQ1.out, decide_eq_true (show 1 ≤ p.scope by have := HQ2.out; omega), decide_eq_true (show p.scope ≤ 5 by have := HQ3.out; omega)] <;> (first | done | (simp; done) | (simp; omega) | omega)), HB.out⟩

end Go.Proofs.YtopknpainclmgaaGreatDoor
