/- Walks: whether two lists of edits are the same, as the document says; the conditions stand in the theorems. -/
import Derived.Test.YtmcjpmogjmnfpaaL13
namespace Go.Proofs.Ytmcjpmogjmnfpaa
open Go Go.RowKit

def editEq (e f : Edit) : Bool := decide (e = f)
theorem eqg_editE : Try.prog.eqGuardType Try.prog.depth 46 = false := by kernel_rfl
theorem eqs_editE : Try.prog.stoodInHeld 46 = false := by kernel_rfl
theorem neq_editB (e f : Edit) (w : World) : (binOp .neq 46 (.agg (editC e).toArray) (.agg (editC f).toArray)).run Try.prog w = .ok (.bool (!editEq e f)) w := by
  have h := eqs_editE
  obtain ⟨⟨a0, a1, a2, a3⟩, a4, a5, ⟨⟨a6, a7, a8, a9⟩, a10, a11⟩, ⟨⟨a12, a13, a14, a15⟩, a16, a17⟩⟩ := e
  obtain ⟨⟨b0, b1, b2, b3⟩, b4, b5, ⟨⟨b6, b7, b8, b9⟩, b10, b11⟩, ⟨⟨b12, b13, b14, b15⟩, b16, b17⟩⟩ := f
  unfold editEq editC
  simp [go_sem, h, toList_iff]
  by_cases h0 : a0 = b0
  rotate_left
  · simp [h0]
  by_cases h1 : a1 = b1
  rotate_left
  · simp [h1]
  by_cases h2 : a2 = b2
  rotate_left
  · simp [h2]
  by_cases h3 : a3 = b3
  rotate_left
  · simp [h3]
  by_cases h4 : a4 = b4
  rotate_left
  · simp [h4]
  by_cases h5 : a5 = b5
  rotate_left
  · simp [h5]
  by_cases h6 : a6 = b6
  rotate_left
  · simp [h6]
  by_cases h7 : a7 = b7
  rotate_left
  · simp [h7]
  by_cases h8 : a8 = b8
  rotate_left
  · simp [h8]
  by_cases h9 : a9 = b9
  rotate_left
  · simp [h9]
  by_cases h10 : a10 = b10
  rotate_left
  · simp [h10]
  by_cases h11 : a11 = b11
  rotate_left
  · simp [h11]
  by_cases h12 : a12 = b12
  rotate_left
  · simp [h12]
  by_cases h13 : a13 = b13
  rotate_left
  · simp [h13]
  by_cases h14 : a14 = b14
  rotate_left
  · simp [h14]
  by_cases h15 : a15 = b15
  rotate_left
  · simp [h15]
  by_cases h16 : a16 = b16
  rotate_left
  · simp [h16]
  by_cases h17 : a17 = b17
  rotate_left
  · simp [h17]
  simp [h0, h1, h2, h3, h4, h5, h6, h7, h8, h9, h10, h11, h12, h13, h14, h15, h16, h17]

/-- A load of many cells in a walk that only reads. -/
theorem quiet_load_mid {P : Program} {C : World → Prop} {a : Act} {o : Oper} {K : Act → Prop} (ty : TypeId) (x : Operand) (ho : o.op = .load ty x) (b off : Nat) (hx : a.eval x = .pointer (some ⟨b, off, none⟩)) (cs : List Value) {d : TypeDesc}
    (hr : ∀ w, C w → w.rangeAt b off cs) (hu : P.underlying ty = some d) (hd : d.isRow = true) (hi : (P.info? ty).map (·.size) = some cs.length) (hk : K (a.put o.dst (.agg cs.toArray))) : o.quiet P a C K :=
  ⟨_, fun w hw => by
    unfold Oper.quietAt execOp
    simp only [ho, hx, Instr.loadAt, Instr.sureAddr, Sem.run_bind, Sem.run_pure, Result.andThen_ok, run_loadVar_mid w b off ty cs d (hr w hw) hu hd hi]
    exact ⟨rfl, rfl⟩, hk⟩
theorem take_eq_succ {l m : List Edit} {k : Nat} (h1 : k < l.length) (h2 : k < m.length) (h : l.take k = m.take k) (he : l[k] = m[k]) : l.take (k + 1) = m.take (k + 1) := by
  rw [List.take_succ_eq_append_getElem h1, List.take_succ_eq_append_getElem h2, h, he]

attribute [local go_sem ↓] eqg_editE neq_editB in
set_option maxRecDepth 100000 in
set_option maxHeartbeats 8000000 in
theorem refSame_any (l m : List Edit) (v u : Value) (w : World) (hv : SliceOf 18 editC w v l) (hu : SliceOf 18 editC w u m) : Calls Try.prog 10 #[v, u] w fun e w' => e = .returned (.bool (decide (l = m))) ∧ Below w.heap.size w w' := by
  have hlm : l.length ≤ 9223372036854775807 := by obtain ⟨a, c, e, h2, h3, -⟩ := hv; exact Nat.le_trans h2 (Nat.le_trans h3 (by decide))
  have hmm : m.length ≤ 9223372036854775807 := by obtain ⟨a, c, e, h2, h3, -⟩ := hu; exact Nat.le_trans h2 (Nat.le_trans h3 (by decide))
  obtain ⟨ao, ac, rfl⟩ := hv.shape
  obtain ⟨bo, bc, rfl⟩ := hu.shape
  have HV := Lib.hid hv
  have HU := Lib.hid hu
  clear hv hu
  go_enter Try.func10, Try.ntmps10
  by_cases hll : l.length = m.length
  rotate_left
  · have HNE : Hid (decide (l = m) = false) := decide_eq_false fun e => hll (by rw [e])
    have h1 : ((l.length : Int) == (m.length : Int)) = false := by rw [beq_eq_false_iff_ne]; omega
    have h2 : (l.length == m.length) = false := by rw [beq_eq_false_iff_ne]; omega
    go_wp2
    go_ret
    exact ⟨ret_bool HNE.out.symm, Below.refl _ _⟩
  have HLL := Lib.hid hll
  have h1 : ((l.length : Int) == (m.length : Int)) = true := by rw [beq_iff_eq]; omega
  go_wp2_with fail
  go_loopw [13] (fun iv wr => ∃ i : Nat, i ≤ l.length ∧ iv = .int .i64 i ∧ Hid (l.take i = m.take i) ∧ Below w.heap.size w wr) (fun iv _ => l.length - (intOf iv).toNat)
  case atStart => exact ⟨0, Nat.zero_le _, rfl, rfl, Below.refl _ _⟩
  case round =>
    obtain ⟨i, hi, rfl, HT, hwr⟩ := hrel
    have HBR := Lib.hid hwr
    clear hwr
    by_cases hlt : i < l.length
    · have hlt2 : i < m.length := by have := HLL.out; omega
      have hltI : (i : Int) < (l.length : Int) := by omega
      have hltI2 : (i : Int) < (m.length : Int) := by omega
      obtain ⟨g1, o1, rfl, -, hc1⟩ := (HV.out.below HBR.out).at hlt
      obtain ⟨g2, o2, rfl, -, hc2⟩ := (HU.out.below HBR.out).at hlt2
      have r1 : Hid (∀ W, (∃ j, W = wr.drewN j) → W.rangeAt g1 (o1 + i * 18) (editC l[i])) := by rintro _ ⟨j, rfl⟩ q u h; exact hc1 q u h
      have r2 : Hid (∀ W, (∃ j, W = wr.drewN j) → W.rangeAt g2 (o2 + i * 18) (editC m[i])) := by rintro _ ⟨j, rfl⟩ q u h; exact hc2 q u h
      clear hc1 hc2
      by_cases he : l[i] = m[i]
      · have hd : editEq l[i] m[i] = true := decide_eq_true he
        have HTT := Lib.hid (take_eq_succ hlt hlt2 HT.out he)
        clear he
        go_wp2_with fail
        refine wp_region_quiet_lit (by kernel_rfl) (by kernel_rfl) ?_
        iterate 3 go_big_quiet_step (fail)
        go_big_quiet_want
        refine quiet_load_mid 46 (.tmp 18) rfl g1 (o1 + i * 18) rfl (editC l[i]) r1.out Try.underlying46 rfl size_edit ?_
        simp only [Act.put, List.setIfInBounds_toArray, List.set_cons_succ, List.set_cons_zero]
        go_big_quiet_on
        iterate 3 go_big_quiet_step (fail)
        go_big_quiet_want
        refine quiet_load_mid 46 (.tmp 22) rfl g2 (o2 + i * 18) rfl (editC m[i]) r2.out Try.underlying46 rfl size_edit ?_
        simp only [Act.put, List.setIfInBounds_toArray, List.set_cons_succ, List.set_cons_zero]
        go_big_quiet_on
        go_big_quiet_step (fail)
        refine wpQuiet_nil ?_
        rintro _ ⟨nq, rfl⟩
        go_wp2
        go_roundw
        case rel => exact ⟨i + 1, hlt, by go_num, HTT.out, belowN HBR.out _⟩
        case measure => simp [intOf]; omega
      · have hd : editEq l[i] m[i] = false := decide_eq_false he
        have HNE : Hid (decide (l = m) = false) := decide_eq_false fun e => he (by subst e; rfl)
        clear he
        go_wp2_with fail
        refine wp_region_quiet_lit (by kernel_rfl) (by kernel_rfl) ?_
        iterate 3 go_big_quiet_step (fail)
        go_big_quiet_want
        refine quiet_load_mid 46 (.tmp 18) rfl g1 (o1 + i * 18) rfl (editC l[i]) r1.out Try.underlying46 rfl size_edit ?_
        simp only [Act.put, List.setIfInBounds_toArray, List.set_cons_succ, List.set_cons_zero]
        go_big_quiet_on
        iterate 3 go_big_quiet_step (fail)
        go_big_quiet_want
        refine quiet_load_mid 46 (.tmp 22) rfl g2 (o2 + i * 18) rfl (editC m[i]) r2.out Try.underlying46 rfl size_edit ?_
        simp only [Act.put, List.setIfInBounds_toArray, List.set_cons_succ, List.set_cons_zero]
        go_big_quiet_on
        go_big_quiet_step (fail)
        refine wpQuiet_nil ?_
        rintro _ ⟨nq, rfl⟩
        go_wp2
        go_ret
        exact ⟨ret_bool HNE.out.symm, belowN HBR.out _⟩
    · obtain rfl : i = l.length := by omega
      have HEQ : Hid (decide (l = m) = true) := decide_eq_true (by have := HT.out; rwa [List.take_length, HLL.out, List.take_length] at this)
      clear hlt
      go_wp2
      go_ret
      exact ⟨ret_bool HEQ.out.symm, HBR.out⟩

end Go.Proofs.Ytmcjpmogjmnfpaa
