/- Walks: whether two locks are the same: the document's answer, slices.Equal at pins, lock.Same; the conditions stand in the theorems. -/
import Derived.Test.YtopknpainclmgaaGreatDoorL4
import Derived.StillTailTactics
namespace Go.Proofs.YtopknpainclmgaaGreatDoor
open Go Go.RowKit

def lockC (l : Lock) (v : Value) : List Value := [.string l.root.group, .string l.root.artifact, .string l.root.version, v]
theorem toList_iff (a b : S) : a.toList = b.toList ↔ a = b := by
  rw [ByteArray.toList_eq, ByteArray.toList_eq]
  constructor
  · intro h
    obtain ⟨⟨x⟩⟩ := a
    obtain ⟨⟨y⟩⟩ := b
    simpa using h
  · rintro rfl; rfl
theorem eqg_pinE : Tryz.prog.eqGuardType Tryz.prog.depth 33 = false := by kernel_rfl
theorem eqs_pinE : Tryz.prog.stoodInHeld 33 = false := by kernel_rfl
def pinEq (p q : Pin) : Bool := decide (p = q)
theorem neq_pinB (p q : Pin) (w : World) : (binOp .neq 33 (.agg #[.string p.key.group, .string p.key.artifact, .string p.key.type, .string p.key.classifier, .string p.version, .int .i64 p.scope]) (.agg #[.string q.key.group, .string q.key.artifact, .string q.key.type, .string q.key.classifier, .string q.version, .int .i64 q.scope])).run Tryz.prog w = .ok (.bool (!pinEq p q)) w := by
  have h := eqs_pinE
  obtain ⟨⟨a0, a1, a2, a3⟩, a4, a5⟩ := p
  obtain ⟨⟨b0, b1, b2, b3⟩, b4, b5⟩ := q
  unfold pinEq
  simp [go_sem, h, toList_iff]
  by_cases h0 : a0 = b0 <;> by_cases h1 : a1 = b1 <;> by_cases h2 : a2 = b2 <;> by_cases h3 : a3 = b3 <;> by_cases h4 : a4 = b4 <;> by_cases h5 : a5 = b5 <;> simp [h0, h1, h2, h3, h4, h5]
def gavEq (p q : Gav) : Bool := decide (p = q)
theorem eqg_gavE : Tryz.prog.eqGuardType Tryz.prog.depth 23 = false := by kernel_rfl
theorem eqs_gavE : Tryz.prog.stoodInHeld 23 = false := by kernel_rfl
theorem neq_gavB (p q : Gav) (w : World) : (binOp .neq 23 (.agg #[.string p.group, .string p.artifact, .string p.version]) (.agg #[.string q.group, .string q.artifact, .string q.version])).run Tryz.prog w = .ok (.bool (!gavEq p q)) w := by
  have h := eqs_gavE
  obtain ⟨a0, a1, a2⟩ := p
  obtain ⟨b0, b1, b2⟩ := q
  unfold gavEq
  simp [go_sem, h, toList_iff]
  by_cases h0 : a0 = b0 <;> by_cases h1 : a1 = b1 <;> by_cases h2 : a2 = b2 <;> simp [h0, h1, h2]
theorem pins_succ {l m : List Pin} {k : Nat} (h1 : k < l.length) (h2 : k < m.length) (h : l.take k = m.take k) (he : l[k] = m[k]) : l.take (k + 1) = m.take (k + 1) := by
  rw [List.take_succ_eq_append_getElem h1, List.take_succ_eq_append_getElem h2, h, he]
theorem lock_ne {l m : Lock} (h : l.root ≠ m.root ∨ l.pins ≠ m.pins) : decide (l = m) = false := decide_eq_false fun e => by subst e; rcases h with h | h <;> exact h rfl
attribute [local go_sem ↓] eqg_gavE neq_gavB eqg_pinE neq_pinB in
set_option maxRecDepth 100000 in
set_option maxHeartbeats 8000000 in
theorem sameLock_any (l m : Lock) (v u : Value) (w : World) (hv : SliceOf 6 pinC w v l.pins) (hu : SliceOf 6 pinC w u m.pins) : Calls Tryz.prog 13 #[.agg (lockC l v).toArray, .agg (lockC m u).toArray] w fun e w' => e = .returned (.bool (decide (l = m))) ∧ Below w.heap.size w w' := by
  have hlm : l.pins.length ≤ 9223372036854775807 := by obtain ⟨a, c, e, h2, h3, -⟩ := hv; exact Nat.le_trans h2 (Nat.le_trans h3 (by decide))
  have hmm : m.pins.length ≤ 9223372036854775807 := by obtain ⟨a, c, e, h2, h3, -⟩ := hu; exact Nat.le_trans h2 (Nat.le_trans h3 (by decide))
  obtain ⟨ao, ac, rfl⟩ := hv.shape
  obtain ⟨bo, bc, rfl⟩ := hu.shape
  have HV := Lib.hid hv
  have HU := Lib.hid hu
  clear hv hu
  unfold lockC
  go_enter Tryz.func13, Tryz.ntmps13
  go_upto_region 1 with fail
  refine wp_world ?_
  intro W hW
  have x2 : Box W w.heap.size [.string l.root.group, .string l.root.artifact, .string l.root.version, .slice ao l.pins.length ac] := by rw [hW]; exact (Box.new w _ _ _ rfl).alloc _
  have x3 : Box W (w.heap.size + 1) [.string m.root.group, .string m.root.artifact, .string m.root.version, .slice bo m.pins.length bc] := by rw [hW]; exact Box.new _ _ _ _ (by simp)
  have hB : Below w.heap.size w W := by rw [hW]; exact ((Below.refl _ w).alloc (Nat.le_refl _) _).alloc (by simp) _
  clear hW
  have HX2 := Lib.hid x2
  have HX3 := Lib.hid x3
  have HBW := Lib.hid hB
  have hs := hB.size
  have y0 := x2.cell 0 _ rfl
  have q0 := x3.cell 0 _ rfl
  have y1 := x2.cell 1 _ rfl
  have q1 := x3.cell 1 _ rfl
  have y2 := x2.cell 2 _ rfl
  have q2 := x3.cell 2 _ rfl
  have y3 := x2.cell 3 _ rfl
  have q3 := x3.cell 3 _ rfl
  clear x2 x3 hB
  by_cases hr : l.root = m.root
  rotate_left
  · have hd : gavEq l.root m.root = false := decide_eq_false hr
    have HNE := Lib.hid (lock_ne (l := l) (m := m) (.inl hr))
    clear hr
    go_wp2
    go_ret
    exact ⟨ret_bool HNE.out.symm, HBW.out⟩
  have hd : gavEq l.root m.root = true := decide_eq_true hr
  have HR := Lib.hid hr
  clear hr
  by_cases hll : l.pins.length = m.pins.length
  rotate_left
  · have h1 : ((l.pins.length : Int) == (m.pins.length : Int)) = false := by rw [beq_eq_false_iff_ne]; omega
    have h2 : (l.pins.length == m.pins.length) = false := by rw [beq_eq_false_iff_ne]; omega
    have HNE := Lib.hid (lock_ne (l := l) (m := m) (.inr fun e => hll (by rw [e])))
    go_wp2
    go_ret
    exact ⟨ret_bool HNE.out.symm, HBW.out⟩
  have HLL := Lib.hid hll
  have h1 : ((l.pins.length : Int) == (m.pins.length : Int)) = true := by rw [beq_iff_eq]; omega
  go_wp2_with fail
  clear y0 y1 y2 y3 q0 q1 q2 q3
  go_loopw [23] (fun iv wr => ∃ i : Nat, i ≤ l.pins.length ∧ iv = .int .i64 i ∧ Hid (l.pins.take i = m.pins.take i) ∧ Below W.heap.size W wr) (fun iv _ => l.pins.length - (intOf iv).toNat)
  case atStart => exact ⟨0, Nat.zero_le _, rfl, rfl, Below.refl _ _⟩
  case round =>
    obtain ⟨i, hi, rfl, HT, hb⟩ := hrel
    have HBI := Lib.hid hb
    have HBR := Lib.hid (HBW.out.trans (hb.mono hs))
    have y3 := (HX2.out.below hb HX2.out.lt).cell 3 _ rfl
    have q3 := (HX3.out.below hb HX3.out.lt).cell 3 _ rfl
    clear hb
    by_cases hlt : i < l.pins.length
    · have hlt2 : i < m.pins.length := by have := HLL.out; omega
      have hltI : (i : Int) < (l.pins.length : Int) := by omega
      have hltI2 : (i : Int) < (m.pins.length : Int) := by omega
      obtain ⟨g1, o1, rfl, -, hc1⟩ := (HV.out.below HBR.out).at hlt
      obtain ⟨g2, o2, rfl, -, hc2⟩ := (HU.out.below HBR.out).at hlt2
      have a0 : wr.cell? ⟨g1, o1 + i * 6, none⟩ = some (.string l.pins[i].key.group) := by simpa using hc1 0 _ rfl
      have a1 : wr.cell? ⟨g1, o1 + i * 6 + 1, none⟩ = some (.string l.pins[i].key.artifact) := hc1 1 _ rfl
      have a2 : wr.cell? ⟨g1, o1 + i * 6 + 2, none⟩ = some (.string l.pins[i].key.type) := hc1 2 _ rfl
      have a3 : wr.cell? ⟨g1, o1 + i * 6 + 3, none⟩ = some (.string l.pins[i].key.classifier) := hc1 3 _ rfl
      have a4 : wr.cell? ⟨g1, o1 + i * 6 + 4, none⟩ = some (.string l.pins[i].version) := hc1 4 _ rfl
      have a5 : wr.cell? ⟨g1, o1 + i * 6 + 5, none⟩ = some (.int .i64 l.pins[i].scope) := hc1 5 _ rfl
      have e0 : wr.cell? ⟨g2, o2 + i * 6, none⟩ = some (.string m.pins[i].key.group) := by simpa using hc2 0 _ rfl
      have e1 : wr.cell? ⟨g2, o2 + i * 6 + 1, none⟩ = some (.string m.pins[i].key.artifact) := hc2 1 _ rfl
      have e2 : wr.cell? ⟨g2, o2 + i * 6 + 2, none⟩ = some (.string m.pins[i].key.type) := hc2 2 _ rfl
      have e3 : wr.cell? ⟨g2, o2 + i * 6 + 3, none⟩ = some (.string m.pins[i].key.classifier) := hc2 3 _ rfl
      have e4 : wr.cell? ⟨g2, o2 + i * 6 + 4, none⟩ = some (.string m.pins[i].version) := hc2 4 _ rfl
      have e5 : wr.cell? ⟨g2, o2 + i * 6 + 5, none⟩ = some (.int .i64 m.pins[i].scope) := hc2 5 _ rfl
      clear hc1 hc2
      by_cases he : l.pins[i] = m.pins[i]
      · have hd2 : pinEq l.pins[i] m.pins[i] = true := decide_eq_true he
        have HTT := Lib.hid (pins_succ hlt hlt2 HT.out he)
        clear he
        go_wp2_with fail
        go_quiet (fail)
        clear a0 a1 a2 a3 a4 a5 e0 e1 e2 e3 e4 e5
        go_wp2
        go_roundw
        case rel => exact ⟨i + 1, hlt, by go_num, HTT.out, belowN HBI.out _⟩
        case measure => simp [intOf]; omega
      · have hd2 : pinEq l.pins[i] m.pins[i] = false := decide_eq_false he
        have HNE := Lib.hid (lock_ne (l := l) (m := m) (.inr fun e => he (by congr 1)))
        clear he
        go_wp2_with fail
        go_quiet (fail)
        clear a0 a1 a2 a3 a4 a5 e0 e1 e2 e3 e4 e5
        go_wp2
        go_ret
        exact ⟨ret_bool HNE.out.symm, belowN HBR.out _⟩
    · obtain rfl : i = l.pins.length := by omega
      have HEQ : Hid (decide (l = m) = true) := decide_eq_true (by
        have h := HT.out
        rw [List.take_length, HLL.out, List.take_length] at h
        have h2 := HR.out
        obtain ⟨r1, p1⟩ := l
        obtain ⟨r2, p2⟩ := m
        simp only at h h2
        rw [h, h2])
      clear hlt
      go_wp2
      go_ret
      exact ⟨ret_bool HEQ.out.symm, HBR.out⟩

end Go.Proofs.YtopknpainclmgaaGreatDoor
