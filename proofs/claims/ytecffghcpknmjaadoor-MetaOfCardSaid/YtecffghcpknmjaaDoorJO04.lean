/- What a Meta is in memory; the walks of meta.Same and of the document's; the conditions stand in the theorems. -/
import Derived.Test.YtecffghcpknmjaaDoorJO03
import Derived.KernelRfl
import Derived.Laws.StructEq
import Derived.Test.YtecffghcpknmjaaDoorBase
import Derived.StillTailTactics
import Derived.Test.YtecffghcpknmjaaDoorJO01
import Derived.Test.YtecffghcpknmjaaDoorOwn2
import Derived.Test.YtecffghcpknmjaaDoorProg
import Derived.BigRegion
import Derived.IntWalk
import Derived.LoopTactic
import Derived.Deep.QuietTactic
import Derived.BigQuiet
namespace Go.Proofs.YtecffghcpknmjaaDoor
open Go Go.RowKit

structure MetaD where
  id : Id
  vers : List S
  latest : S
  rel : S
  deriving DecidableEq
def metaC (m : MetaD) (v : Value) : List Value := [.string m.id.group, .string m.id.artifact, v, .string m.latest, .string m.rel]
def metaAg (m : MetaD) (v : Value) : Value := .agg (metaC m v).toArray
theorem str_beqV (a b : S) : (a.toList == b.toList) = decide (a = b) := by
  rw [Bool.eq_iff_iff, beq_iff_eq, decide_eq_true_iff, ByteArray.toList_eq, ByteArray.toList_eq]
  constructor
  · intro h
    obtain ⟨⟨x⟩⟩ := a
    obtain ⟨⟨y⟩⟩ := b
    simpa using h
  · rintro rfl; rfl
theorem eqg_idV : Tryd.prog.eqGuardType Tryd.prog.depth 24 = false := by kernel_rfl
theorem eqs_idV : Tryd.prog.stoodInHeld 24 = false := by kernel_rfl
theorem eql_idV (a0 a1 b0 b1 : S) (w : World) : (binOp .eql 24 (.agg #[.string a0, .string a1]) (.agg #[.string b0, .string b1])).run Tryd.prog w = .ok (.bool (decide (a0 = b0) && decide (a1 = b1))) w := by
  have h := eqs_idV
  by_cases h0 : a0 = b0 <;> by_cases h1 : a1 = b1 <;> simp [go_sem, h, h0, h1, str_beqV]
theorem neq_idV (a0 a1 b0 b1 : S) (w : World) : (binOp .neq 24 (.agg #[.string a0, .string a1]) (.agg #[.string b0, .string b1])).run Tryd.prog w = .ok (.bool (!(decide (a0 = b0) && decide (a1 = b1)))) w := by
  have h := eqs_idV
  by_cases h0 : a0 = b0 <;> by_cases h1 : a1 = b1 <;> simp [go_sem, h, h0, h1, str_beqV]
theorem belowDrew (w : World) (n : Nat) : Below w.heap.size w (w.drewN n) := ⟨rfl, rfl, rfl, Nat.le_refl _, fun _ _ => rfl⟩
theorem cellsOf {w : World} {b o n cap : Nat} {l : List S} (h : SliceOf 1 strC w (.slice (some ⟨b, o, none⟩) n cap) l) : ∀ j, j < l.length → w.cell? ⟨b, o + j, none⟩ = some (.string (l.getD j ByteArray.empty)) := fun j hj => by
  obtain ⟨ao', cap', h1, h2, hm, h3, h4⟩ := h
  cases h1
  obtain ⟨b', o', e, _, hc'⟩ := h4 j l[j] (List.getElem?_eq_getElem hj)
  cases e
  have := hc' 0 _ rfl
  rw [Nat.mul_one, Nat.add_zero] at this
  rw [this, List.getD_eq_getElem?_getD, List.getElem?_eq_getElem hj]; rfl
/-- slices.Equal of texts that two slices read as. -/
theorem equalV_any {w : World} {v u : Value} {l m : List S} (h : SliceOf 1 strC w v l) (g : SliceOf 1 strC w u m) (hl : l.length ≤ 1000000) (hm : m.length ≤ 1000000) :
    Calls Tryd.prog 45 #[v, u] w fun e w' => e = .returned (.bool (decide (l = m))) ∧ Below w.heap.size w w' := by
  obtain ⟨ao, ac, rfl⟩ := h.shape
  obtain ⟨bo, bc, rfl⟩ := g.shape
  by_cases hlm : l.length = m.length
  · cases l with
    | nil =>
      obtain rfl : m = [] := List.eq_nil_of_length_eq_zero hlm.symm
      exact (Tryd.slices_Equal_string_empty ao bo ac 0 bc w (by decide)).mono fun e w' ⟨h1, h2⟩ => by subst h2; exact ⟨h1, Below.refl _ _⟩
    | cons x r =>
      cases m with
      | nil => cases hlm
      | cons y t =>
        obtain ⟨ao', c', e1, _, _, _, h4⟩ := h
        obtain ⟨bo', d', e2, _, _, _, g4⟩ := g
        cases e1
        cases e2
        obtain ⟨b1, o1, rfl, _, _⟩ := h4 0 x rfl
        obtain ⟨b2, o2, rfl, _, _⟩ := g4 0 y rfl
        refine (Tryd.slices_Equal_string b1 o1 (x :: r).length ac b2 o2 (y :: t).length bc (x :: r) (y :: t) w (Nat.le_refl _) (Nat.le_refl _) (by omega) (by omega) (cellsOf ⟨_, _, rfl, by assumption, by assumption, by assumption, h4⟩) (cellsOf ⟨_, _, rfl, by assumption, by assumption, by assumption, g4⟩)).mono ?_
        rintro e w' ⟨h1, q, rfl⟩
        rw [List.take_length, List.take_length] at h1
        exact ⟨h1, belowDrew _ _⟩
  · refine (Tryd.slices_Equal_string_lens ao bo l.length ac m.length bc w hlm).mono fun e w' ⟨h1, h2⟩ => ?_
    subst h2
    refine ⟨by rw [h1, decide_eq_false]; intro e; exact hlm (by rw [e]), Below.refl _ _⟩
theorem metaD_eq (a b : MetaD) : decide (a = b) = (((decide (a.id.group = b.id.group) && decide (a.id.artifact = b.id.artifact)) && decide (a.vers = b.vers)) && decide (a.latest = b.latest) && decide (a.rel = b.rel)) := by
  obtain ⟨⟨ag, aa⟩, av, al, ar⟩ := a
  obtain ⟨⟨bg, ba⟩, bv, bl, br⟩ := b
  rw [Bool.eq_iff_iff]
  simp [and_assoc]
attribute [local go_sem ↓] eqg_idV eql_idV neq_idV str_beqV in
set_option maxRecDepth 100000 in
set_option maxHeartbeats 4000000 in
theorem metaSame_any (a b : MetaD) (va vb : Value) (w : World) (ha : SliceOf 1 strC w va a.vers) (hb : SliceOf 1 strC w vb b.vers) (la : a.vers.length ≤ 1000000) (lb : b.vers.length ≤ 1000000) :
    Calls Tryd.prog 21 #[metaAg a va, metaAg b vb] w fun e w' => e = .returned (.bool (decide (a = b))) ∧ Below w.heap.size w w' := by
  have HD := Lib.hid (metaD_eq a b)
  obtain ⟨ao, ac, rfl⟩ := ha.shape
  obtain ⟨bo, bc, rfl⟩ := hb.shape
  have HE : Hid (∀ W, Below w.heap.size w W → Calls Tryd.prog 45 #[.slice ao a.vers.length ac, .slice bo b.vers.length bc] W fun e w' => e = .returned (.bool (decide (a.vers = b.vers))) ∧ Below W.heap.size W w') := fun W h => equalV_any (ha.below h) (hb.below h) la lb
  clear ha hb la lb
  obtain ⟨⟨ag, aa⟩, av, al, ar⟩ := a
  obtain ⟨⟨bg, ba⟩, bv, bl, br⟩ := b
  unfold metaAg metaC
  simp only at HD HE ⊢
  generalize h1 : decide (ag = bg) = q1 at *
  generalize h2 : decide (aa = ba) = q2 at *
  generalize decide (av = bv) = q3 at *
  generalize h4 : decide (al = bl) = q4 at *
  generalize h5 : decide (ar = br) = q5 at *
  go_enter Tryd.func21, Tryd.ntmps21
  go_upto_region 1 with fail
  refine wp_world ?_
  intro W hW
  have x1 : Box W w.heap.size [.string ag, .string aa, .slice ao av.length ac, .string al, .string ar] := by rw [hW]; exact (Box.new w [.string ag, .string aa, .slice ao av.length ac, .string al, .string ar] _ _ rfl).alloc _
  have y1 : Box W (w.heap.size + 1) [.string bg, .string ba, .slice bo bv.length bc, .string bl, .string br] := by rw [hW]; exact Box.new _ [.string bg, .string ba, .slice bo bv.length bc, .string bl, .string br] _ _ (by simp)
  have hb : Below w.heap.size w W := by rw [hW]; exact ((Below.refl _ w).alloc (Nat.le_refl _) _).alloc (by simp) _
  clear hW
  have HX := Lib.hid x1
  have HY := Lib.hid y1
  have HB := Lib.hid hb
  have x0 := x1.cell 0 _ rfl
  have x1' := x1.cell 1 _ rfl
  have x2 := x1.cell 2 _ rfl
  have x3 := x1.cell 3 _ rfl
  have x4 := x1.cell 4 _ rfl
  have xl := x1.lt
  have y0 := y1.cell 0 _ rfl
  have y1' := y1.cell 1 _ rfl
  have y2 := y1.cell 2 _ rfl
  have y3 := y1.cell 3 _ rfl
  have y4 := y1.cell 4 _ rfl
  have yl := y1.lt
  clear x1 y1 hb
  cases hq : (q1 && q2) with
  | false =>
    rw [hq] at HD
    go_wp2
    go_ret
    exact ⟨by rw [HD.out]; simp, HB.out⟩
  | true =>
    rw [hq] at HD
    go_wp2_with fail
    refine (HE.out _ HB.out).mono ?_
    rintro e W2 ⟨rfl, hb2⟩
    have HX2 := Lib.hid (HX.out.below hb2 HX.out.lt)
    have HY2 := Lib.hid (HY.out.below hb2 HY.out.lt)
    have HB2 := Lib.hid (HB.out.trans (hb2.mono HB.out.size))
    clear hb2 HE x0 x1' x2 x3 x4 xl y0 y1' y2 y3 y4 yl HX HY HB
    have x3 := HX2.out.cell 3 _ rfl
    have x4 := HX2.out.cell 4 _ rfl
    have xl := HX2.out.lt
    have y3 := HY2.out.cell 3 _ rfl
    have y4 := HY2.out.cell 4 _ rfl
    have yl := HY2.out.lt
    cases q3
    · go_wp2
      go_ret
      exact ⟨by rw [HD.out]; simp, HB2.out⟩
    · cases q4
      · go_wp2
        go_ret
        exact ⟨by rw [HD.out]; simp, HB2.out⟩
      · go_wp2
        go_ret
        exact ⟨by rw [HD.out]; simp, HB2.out⟩
/-- Rows of the same length, compared from one place on. -/
theorem eq_drop {l m : List S} (h : l.length = m.length) (k : Nat) (hk : k < l.length) : (l.drop k = m.drop k) ↔ (l[k] = m[k]'(h ▸ hk) ∧ l.drop (k + 1) = m.drop (k + 1)) := by
  have e2 : m.drop k = m[k]'(h ▸ hk) :: m.drop (k + 1) := drop_cons' _
  rw [drop_cons' hk, e2, List.cons.injEq]
attribute [local go_sem ↓] eqg_idV eql_idV neq_idV str_beqV in
set_option maxRecDepth 100000 in
set_option maxHeartbeats 4000000 in
theorem refMetaSame_any (a b : MetaD) (va vb : Value) (w : World) (ha : SliceOf 1 strC w va a.vers) (hb : SliceOf 1 strC w vb b.vers) (la : a.vers.length ≤ 1000000) :
    Calls Tryd.prog 10 #[metaAg a va, metaAg b vb] w fun e w' => e = .returned (.bool (decide (a = b))) ∧ Below w.heap.size w w' := by
  have HD := Lib.hid (metaD_eq a b)
  obtain ⟨ao, ac, rfl⟩ := ha.shape
  obtain ⟨bo, bc, rfl⟩ := hb.shape
  have HA := Lib.hid ha
  have HBB := Lib.hid hb
  have HLA := Lib.hid la
  clear ha hb la
  obtain ⟨⟨ag, aa⟩, av, al, ar⟩ := a
  obtain ⟨⟨bg, ba⟩, bv, bl, br⟩ := b
  unfold metaAg metaC
  simp only at HD HA HBB HLA ⊢
  generalize h1 : decide (ag = bg) = q1 at *
  generalize h2 : decide (aa = ba) = q2 at *
  generalize h4 : decide (al = bl) = q4 at *
  generalize h5 : decide (ar = br) = q5 at *
  go_enter Tryd.func10, Tryd.ntmps10
  go_upto_region 1 with fail
  refine wp_world ?_
  intro W hW
  have x1 : Box W w.heap.size [.string ag, .string aa, .slice ao av.length ac, .string al, .string ar] := by rw [hW]; exact (Box.new w [.string ag, .string aa, .slice ao av.length ac, .string al, .string ar] _ _ rfl).alloc _
  have y1 : Box W (w.heap.size + 1) [.string bg, .string ba, .slice bo bv.length bc, .string bl, .string br] := by rw [hW]; exact Box.new _ [.string bg, .string ba, .slice bo bv.length bc, .string bl, .string br] _ _ (by simp)
  have hb : Below w.heap.size w W := by rw [hW]; exact ((Below.refl _ w).alloc (Nat.le_refl _) _).alloc (by simp) _
  clear hW
  have HB := Lib.hid hb
  have HSA := Lib.hid (HA.out.below hb)
  have HSB := Lib.hid (HBB.out.below hb)
  have x0 := x1.cell 0 _ rfl
  have x1' := x1.cell 1 _ rfl
  have x2 := x1.cell 2 _ rfl
  have x3 := x1.cell 3 _ rfl
  have x4 := x1.cell 4 _ rfl
  have xl := x1.lt
  have y0 := y1.cell 0 _ rfl
  have y1' := y1.cell 1 _ rfl
  have y2 := y1.cell 2 _ rfl
  have y3 := y1.cell 3 _ rfl
  have y4 := y1.cell 4 _ rfl
  have yl := y1.lt
  clear x1 y1 hb HA HBB
  cases hq : (q1 && q2) with
  | false =>
    rw [hq] at HD
    go_wp2
    go_ret
    exact ⟨by rw [HD.out]; simp, HB.out⟩
  | true =>
    rw [hq] at HD
    cases q4 with
    | false =>
      go_wp2
      go_ret
      exact ⟨by rw [HD.out]; simp, HB.out⟩
    | true =>
      cases q5 with
      | false =>
        go_wp2
        go_ret
        exact ⟨by rw [HD.out]; simp, HB.out⟩
      | true =>
        by_cases hlm : av.length = bv.length
        · have e1 : ((av.length : Int) == (bv.length : Int)) = true := by rw [beq_iff_eq]; omega
          have e1n : (av.length == bv.length) = true := by rw [beq_iff_eq]; exact hlm
          have HL := Lib.hid hlm
          have hbl : ∀ k : Nat, k < av.length → (k : Int) < (bv.length : Int) := fun k hk => by omega
          clear hlm
          go_wp2
          go_loopw [37] (fun i wr => ∃ k : Nat, i = .int .i64 k ∧ k ≤ av.length ∧ Hid (Below W.heap.size W wr) ∧ Hid (decide (av = bv) = decide (av.drop k = bv.drop k))) (fun i _ => av.length - (intOf i).toNat)
          case atStart => exact ⟨0, rfl, Nat.zero_le _, Below.refl _ _, rfl⟩
          case round =>
            obtain ⟨k, rfl, hk, HBr, HE⟩ := hrel
            by_cases hlt : k < av.length
            · obtain ⟨b1, o1, ha1, hl1, hc1⟩ := (HSA.out.below HBr.out).at1 hlt
              obtain ⟨b2, o2, ha2, hl2, hc2⟩ := (HSB.out.below HBr.out).at1 (show k < bv.length from HL.out ▸ hlt)
              cases ha1
              cases ha2
              have d1 : (k : Int) < (av.length : Int) := by omega
              have d2 := hbl k hlt
              have wk : IntKind.i64.wrap ((k : Int) + 1) = (k : Int) + 1 := IntWalk.i64_in _ (by have := HLA.out; change _ ≤ _ at this; omega)
              have z2 := (HBr.out.cell (p := ⟨w.heap.size, 2, none⟩) xl).trans x2
              have t2 := (HBr.out.cell (p := ⟨w.heap.size + 1, 2, none⟩) yl).trans y2
              have HDD := Lib.hid (eq_drop HL.out k hlt)
              generalize av[k] = x at *
              generalize bv[k]'(HL.out ▸ hlt) = y at *
              generalize hxy : decide (x = y) = q at *
              cases q with
              | true =>
                have HE2 : Hid (decide (av = bv) = decide (av.drop (k + 1) = bv.drop (k + 1))) := by
                  show _ = _
                  rw [HE.out, decide_eq_decide, HDD.out]
                  simp [of_decide_eq_true hxy]
                clear HDD HE
                have xw := Nat.lt_of_lt_of_le xl HBr.out.size
                have yw := Nat.lt_of_lt_of_le yl HBr.out.size
                go_wp2_with fail
                have hLL := @Later.cells wr
                refine region_later (by kernel_rfl) (by kernel_rfl) ?_
                repeat (go_big_quiet_step (fail))
                refine wpQuiet_nil ?_
                rintro _ ⟨nx, rfl⟩
                have HBn := Lib.hid (HBr.out.trans (nx.below.mono HBr.out.size))
                clear hLL xw yw
                generalize nx.at_ = wn at *
                go_wp2
                go_roundw
                case rel => exact ⟨k + 1, by first | rfl | go_num, hlt, HBn, HE2⟩
                case measure => simp [intOf]; omega
              | false =>
                have HE2 : Hid (decide (av = bv) = false) := by
                  show _ = _
                  rw [HE.out, decide_eq_false_iff_not, HDD.out]
                  simp [of_decide_eq_false hxy]
                clear HDD HE
                have xw := Nat.lt_of_lt_of_le xl HBr.out.size
                have yw := Nat.lt_of_lt_of_le yl HBr.out.size
                go_wp2_with fail
                have hLL := @Later.cells wr
                refine region_later (by kernel_rfl) (by kernel_rfl) ?_
                repeat (go_big_quiet_step (fail))
                refine wpQuiet_nil ?_
                rintro _ ⟨nx, rfl⟩
                have HBn := Lib.hid (HBr.out.trans (nx.below.mono HBr.out.size))
                clear hLL xw yw
                generalize nx.at_ = wn at *
                go_wp2
                go_ret
                exact ⟨by rw [HD.out, HE2.out]; simp, HB.out.trans (HBn.out.mono HB.out.size)⟩
            · obtain rfl : k = av.length := by omega
              have d1 : ¬ (av.length : Int) < (av.length : Int) := by omega
              have HE2 : Hid (decide (av = bv) = true) := by show _ = _; rw [HE.out, List.drop_length, HL.out, List.drop_length]; simp
              clear HE
              go_wp2
              go_ret
              exact ⟨by first | (rw [HD.out, HE2.out]; simp) | (rw [HE2.out]; rfl), HB.out.trans (HBr.out.mono HB.out.size)⟩
        · have e1 : ((av.length : Int) == (bv.length : Int)) = false := by rw [beq_eq_false_iff_ne]; omega
          have e1n : (av.length == bv.length) = false := by rw [beq_eq_false_iff_ne]; exact hlm
          have HN : Hid (decide (av = bv) = false) := by show _ = _; rw [decide_eq_false_iff_not]; intro e; exact hlm (by rw [e])
          clear hlm
          go_wp2
          go_ret
          exact ⟨by rw [HD.out, HN.out]; simp, HB.out⟩

end Go.Proofs.YtecffghcpknmjaaDoor

/- A drawn region whose first operations read and call what only makes memory, and whose last ones write, each waiting for all ahead of it: one walk serves every order; no program in sight. -/
namespace Go.Proofs.YtecffghcpknmjaaDoor
open Go Go.RowKit

variable {P : Program} {ops : Array Oper} {md : Region.Mode} {C : World → Prop}
def anyQL (P : Program) (md : Region.Mode) (ops : Array Oper) (C : World → Prop) (n : Nat) (L : Array Bool → Act → Prop) : Nat → Array Bool → Act → Prop
  | 0, listed, a => L listed a
  | f + 1, listed, a => Region.ready md ops listed ≠ [] ∧ ∀ i ∈ Region.ready md ops listed, i < n ∧ qOp P ops C i (anyQL P md ops C n L f (listed.setIfInBounds i true)) a
theorem any_of_head {n g : Nat} {L : Array Bool → Act → Prop} {Q' : Exit → Act → World → Prop} (hL : ∀ listed a w, C w → L listed a → wpAny P md ops Q' g listed a w) :
    ∀ (f : Nat) (listed : Array Bool) (a : Act) (w : World), C w → anyQL P md ops C n L f listed a → wpAny P md ops Q' (f + g) listed a w
  | 0, listed, a, w, hw, h => by rw [Nat.zero_add]; exact hL _ _ _ hw h
  | f + 1, listed, a, w, hw, h => by
    rw [show f + 1 + g = (f + g) + 1 by omega]
    exact ⟨fun h0 => absurd h0 h.1, fun i hi => wpOp_of_qOp hw (fun a' w' hw' h' => any_of_head hL f _ a' w' hw' h') (h.2 i hi).2⟩
theorem anyQL_first {n i : Nat} {oi : Oper} {v : Value} {L : Array Bool → Act → Prop} (hi : ops[i]? = some oi) (hsel : ∀ (j : Nat) (o : Oper) cs b, ops[j]? = some o → o.op ≠ .select cs b)
    (hs : Region.sinkB md ops n = true) (hc : Region.chainB md ops n = true) (hn : n < ops.size) (hin : i < n) (hdone : ∀ listed a, L listed a → ∀ j ∈ Region.ready md ops listed, n ≤ j) :
    ∀ (f : Nat) (listed : Array Bool) (a : Act), HeadInv md ops n listed →
      (∀ j oj, ops[j]? = some oj → j ≠ i → listed.getD j true = false → (∀ e ∈ oj.after, Region.binds md e = true → e.on ≠ i) → oi.apart ops oj = true) →
      i ∈ Region.ready md ops listed → YieldsIn P ops C oi v a → anyQL P md ops C n L f (listed.setIfInBounds i true) (a.put oi.dst v) → anyQL P md ops C n L (f + 1) listed a := by
  intro f
  induction f with
  | zero =>
    intro listed a inv _ hr hy H
    have hun := (mem_ready.1 hr).1
    refine ⟨fun h => (by rw [h] at hr; cases hr), fun j hj => ?_⟩
    have hjn : j < n := by
      rcases Nat.lt_or_ge j n with h | h
      · exact h
      · exact absurd hj (tail_waits hs hc hn inv _ i rfl hin hun j h)
    refine ⟨hjn, ?_⟩
    by_cases hji : j = i
    · subst hji; exact hy.qOp hi H
    · have := hdone _ _ H j (ready_mono hj hji)
      omega
  | succ f ih =>
    intro listed a inv hfree hr hy H
    have hun := (mem_ready.1 hr).1
    refine ⟨fun h => (by rw [h] at hr; cases hr), fun j hj => ?_⟩
    have hjn : j < n := by
      rcases Nat.lt_or_ge j n with h | h
      · exact h
      · exact absurd hj (tail_waits hs hc hn inv _ i rfl hin hun j h)
    refine ⟨hjn, ?_⟩
    by_cases hji : j = i
    · subst hji; exact hy.qOp hi H
    · have h1 := (H.2 j (ready_mono hj hji)).2
      obtain ⟨hjun, oj, hoj, hall⟩ := mem_ready.1 hj
      have hnot : ∀ e ∈ oj.after, Region.binds md e = true → e.on ≠ i := fun e he hb heq => by
        have h1 := hall e he hb
        rw [heq, getD_both hun] at h1
        cases h1
      have h2 := qOp_put hoj (hfree j oj hoj hji hjun hnot) (fun cs b => hsel i oi cs b hi) (fun cs b => hsel j oj cs b hoj) hy h1
      have hfree' : ∀ k ok, ops[k]? = some ok → k ≠ i → (listed.setIfInBounds j true).getD k true = false →
          (∀ e ∈ ok.after, Region.binds md e = true → e.on ≠ i) → oi.apart ops ok = true := fun k ok hk hki hun hno => by
        refine hfree k ok hk hki ?_ hno
        by_cases hjk : j = k
        · subst hjk; exact hjun
        · rw [getD_set_ne true hjk] at hun; exact hun
      refine qOp_mono (fun a' h3 => ih (listed.setIfInBounds j true) a' (inv.set hj hjn) hfree' (ready_mono hr (Ne.symm hji)) h3.1 ?_) h2
      rw [Array.setIfInBounds_comm _ _ hji]
      exact h3.2
theorem anyQL_lex {n g : Nat} {Lq : Act → Prop} (hsel : Region.noSelect ops = true) (hs : Region.sinkB md ops n = true) (hc : Region.chainB md ops n = true) (hn : n < ops.size) :
    ∀ (l : List Oper) (k : Nat) (listed : Array Bool) (a : Act), (∀ j, j < l.length → l[j]? = ops[k + j]?) → k + l.length = n → HeadInv md ops n listed →
    Region.lexHead md ops g l.length k listed = true → wpQuiet P ops C Lq l a → anyQL P md ops C n (fun listed' a' => Region.seqB md ops g n listed' = true ∧ Lq a') l.length listed a
  | [], k, listed, a, _, hk, _, hB, h => by
    have : k = n := by simpa using hk
    subst this
    exact ⟨by simpa [Region.lexHead] using hB, h⟩
  | o :: l, k, listed, a, hl, hk, inv, hB, h => by
    have h0 : ops[k]? = some o := by simpa using (hl 0 (by simp)).symm
    simp only [List.length_cons, Region.lexHead, Bool.and_eq_true] at hB
    obtain ⟨⟨hr, hf⟩, hB'⟩ := hB
    have hkn : k < n := by simp only [List.length_cons] at hk; omega
    have hr' : k ∈ Region.ready md ops listed := by simpa using hr
    have hst : qOp P ops C k (wpQuiet P ops C Lq l) a := by unfold qOp; simp only [h0]; exact h
    obtain ⟨v, hy, hK⟩ := yieldsIn_of_qOp h0 hst
    exact anyQL_first h0 (Region.noSelect_spec hsel) hs hc hn hkn (fun listed' a' hL => seqB_ready hL.1) l.length listed a inv (Region.free_spec h0 hf) hr' hy
      (anyQL_lex hsel hs hc hn l (k + 1) _ _ (fun j hj => by have := hl (j + 1) (by simp; omega); simpa [Nat.add_assoc, Nat.add_comm 1 j] using this) (by simp only [List.length_cons] at hk; omega) (inv.set hr' hkn) hB' hK)
theorem region_quiet_tail {id : Nat} {Q : Exit → Act → World → Prop} {a : Act} {w : World} {l : List Oper} (n : Nat) (hm : P.follows .mixedOrders = true) (hB : Region.lexTailB .any l.toArray n = true) (hC : C { w with drawn := w.drawn + 1 })
    (h : wpQuiet P l.toArray C (fun a' => ∀ w', C w' → wpList P l.toArray Q (l.drop n) a' w') (l.take n) a) : (Code.region id l.toArray true).wp P Q a w := by
  simp only [Region.lexTailB, Bool.and_eq_true, decide_eq_true_eq] at hB
  obtain ⟨⟨⟨⟨hsel, hn⟩, hs⟩, hc⟩, hlex⟩ := hB
  have hn' : n < l.length := by simpa using hn
  have htl : (l.take n).length = n := by simp; omega
  have hdl : (l.drop n).length = l.toArray.size - n := by simp
  have inv0 : HeadInv .any l.toArray n (Array.replicate l.toArray.size false) :=
    ⟨by simp, fun j oj _ hl => (by rw [getD_replicate_false] at hl; cases hl), fun t _ ht => getD_in (by simpa using ht) (getD_replicate_false _ _)⟩
  have H := anyQL_lex (md := .any) (g := l.toArray.size - n) hsel hs hc hn (l.take n) 0 _ a (fun j hj => by
    have hj' : j < n := by rw [htl] at hj; exact hj
    simp [hj']) (by simpa using htl) inv0 (by rw [htl]; exact hlex) h
  refine wp_region_any hm ?_
  have := any_of_head (Q' := Q) (g := l.toArray.size - n) (fun listed a' w' hw' hL => by
    have := wpAny_of_seq (md := .any) (Q' := Q) (l.drop n) n listed a' w' (fun j => by simp [List.getElem?_drop]) (by rw [hdl]; exact hL.1) (hL.2 w' hw')
    rwa [hdl] at this) _ _ _ _ hC H
  rw [htl, show n + (l.toArray.size - n) = l.toArray.size by omega] at this
  exact this
/-- At the class of later worlds. -/
theorem region_later_tail {id : Nat} {Q : Exit → Act → World → Prop} {a : Act} {w : World} {l : List Oper} (n : Nat) (hm : P.follows .mixedOrders = true) (hB : Region.lexTailB .any l.toArray n = true)
    (h : wpQuiet P l.toArray (fun w' => ∃ x : Later w, w' = x.at_) (fun a' => ∀ w', (∃ x : Later w, w' = x.at_) → wpList P l.toArray Q (l.drop n) a' w') (l.take n) a) : (Code.region id l.toArray true).wp P Q a w :=
  region_quiet_tail n hm hB ⟨⟨{ w with drawn := w.drawn + 1 }, ⟨rfl, rfl, rfl, Nat.le_refl _, fun _ _ => rfl⟩⟩, rfl⟩ h

end Go.Proofs.YtecffghcpknmjaaDoor

/- A row of texts that is sorted in its place: what stays, what turns; slices.swapRangeCmpFunc; the conditions stand in the theorems. -/
namespace Go.Proofs.YtecffghcpknmjaaDoor
open Go Go.RowKit

theorem strC_lV (x : S) : (strC x).length = 1 := rfl
/-- The row of texts l at block g, in a world that has turned in that row alone since w0. -/
structure SF (B g cap N : Nat) (w0 W : World) (l : List S) : Prop where
  len : l.length = N
  own : Owns B 9 1 strC W (.slice (some ⟨g, 0, none⟩) l.length cap) l
  grown : w0.grownBy W (some g)
section
variable {B g cap N : Nat} {w0 W W' : World} {l : List S}
theorem SF.cell (h : SF B g cap N w0 W l) {k : Nat} {x : S} (hk : l[k]? = some x) : W.cell? ⟨g, k, none⟩ = some (.string x) ∧ W.frozen? ⟨g, k, none⟩ = false ∧ g < W.heap.size := by
  obtain ⟨g', e, -, h2, h3, h4, h5, -⟩ := own_store strC_lV h.own hk (j := 0) (by decide)
  cases e
  rw [Nat.mul_one, Nat.add_zero] at h3 h4
  exact ⟨h3, h4, h2⟩
theorem SF.set (h : SF B g cap N w0 W l) {k : Nat} {x : S} (hk : l[k]? = some x) (y : S) : SF B g cap N w0 (W.setCell ⟨g, k, none⟩ (.string y)) (l.set k y) := by
  obtain ⟨g', e, -, h2, h3, h4, h5, h6⟩ := own_store strC_lV h.own hk (j := 0) (by decide)
  cases e
  have h7 := h6 (.string y) y rfl
  rw [Nat.mul_one, Nat.add_zero] at h7
  exact ⟨by rw [List.length_set]; exact h.len, by rw [List.length_set]; exact h7, h.grown.trans (setCell_grown _ _ _ _)⟩
theorem SF.drew (h : SF B g cap N w0 W l) : SF B g cap N w0 W.drew l := ⟨h.len, h.own.below ⟨rfl, rfl, rfl, Nat.le_refl _, fun _ _ => rfl⟩, h.grown.trans ⟨rfl, rfl, rfl, Nat.le_refl _, fun _ _ _ => rfl⟩⟩
theorem SF.swap (h : SF B g cap N w0 W l) {i j : Nat} {x y : S} (hi : l[i]? = some x) (hj : l[j]? = some y) (hne : i ≠ j) :
    SF B g cap N w0 ((W.setCell ⟨g, i, none⟩ (.string y)).setCell ⟨g, j, none⟩ (.string x)).drew ((l.set i y).set j x) :=
  ((h.set hi y).set (x := y) (by rw [List.getElem?_set_ne hne]; exact hj) x).drew
theorem SF.later (h : SF B g cap N w0 W l) (hb : Below W.heap.size W W') : SF B g cap N w0 W' l :=
  ⟨h.len, h.own.below hb, h.grown.trans ⟨hb.os, hb.tape, hb.output, hb.size, fun k hk _ => hb.block k hk⟩⟩
theorem SF.from (h : SF B g cap N w0 W l) {l' : List S} (h' : SF B g cap N W W' l') : SF B g cap N w0 W' l' := ⟨h'.len, h'.own, h.grown.trans h'.grown⟩
theorem SF.self (h : SF B g cap N w0 W l) : SF B g cap N W W l := ⟨h.len, h.own, World.grownBy.refl _ _⟩
end
theorem swap_mid {α : Type} (p : List α) (x : α) (y : List α) (z : α) (q : List α) : ((p ++ x :: (y ++ z :: q)).set p.length z).set (p.length + 1 + y.length) x = p ++ z :: (y ++ x :: q) := by
  rw [List.set_append_right _ _ (Nat.le_refl _), Nat.sub_self, List.set_cons_zero, List.set_append_right _ _ (by omega), show p.length + 1 + y.length - p.length = y.length + 1 by omega, List.set_cons_succ, List.set_append_right _ _ (Nat.le_refl _), Nat.sub_self, List.set_cons_zero]
theorem at_mid {α : Type} (p : List α) (x : α) (q : List α) {k : Nat} (hk : k = p.length) : (p ++ x :: q)[k]? = some x := by rw [hk, List.getElem?_append_right (Nat.le_refl _), Nat.sub_self]; rfl
theorem at_mid2 {α : Type} (p : List α) (x : α) (y : List α) (z : α) (q : List α) {k : Nat} (hk : k = p.length + 1 + y.length) : (p ++ x :: (y ++ z :: q))[k]? = some z := by
  rw [show p ++ x :: (y ++ z :: q) = (p ++ x :: y) ++ z :: q by simp]
  exact at_mid _ _ _ (by simp; omega)
set_option maxRecDepth 100000 in
set_option maxHeartbeats 4000000 in
/-- n texts from a on change places with the n from b on. -/
theorem swapRange_any {B g cap N a b n : Nat} {w0 : World} (cm : Value) (P X Y Z Q : List S) (hN : N ≤ 1000000) (ha : a = P.length) (hx : X.length = n) (hz : Z.length = n) (hb : b = P.length + n + Y.length) (w : World) (h : SF B g cap N w0 w (P ++ (X ++ (Y ++ (Z ++ Q))))) :
    Calls Tryd.prog 113 #[.slice (some ⟨g, 0, none⟩) N cap, .int .i64 a, .int .i64 b, .int .i64 n, cm] w fun e w' => e = .returned (.tuple #[]) ∧ SF B g cap N w0 w' (P ++ (Z ++ (Y ++ (X ++ Q)))) := by
  have hlen := h.len
  simp only [List.length_append] at hlen
  have hlt : b + n ≤ N := by omega
  have HA := Lib.hid ha
  have HB := Lib.hid hb
  have HX := Lib.hid hx
  have HZ := Lib.hid hz
  have hab : a + n ≤ b := by omega
  have HS := Lib.hid h
  clear h hlen ha hb hx hz
  go_enter Tryd.func113, Tryd.ntmps113
  go_wp2
  go_loopw [10] (fun vi wr => ∃ (i : Nat) (X1 X2 Z1 Z2 : List S), vi = .int .i64 i ∧ i ≤ n ∧ Hid (X = X1 ++ X2) ∧ Hid (Z = Z1 ++ Z2) ∧ Hid (X1.length = i) ∧ Hid (Z1.length = i) ∧ Hid (SF B g cap N w0 wr (P ++ (Z1 ++ (X2 ++ (Y ++ (X1 ++ (Z2 ++ Q)))))))) (fun vi _ => n - (intOf vi).toNat)
  case atStart => exact ⟨0, [], X, [], Z, rfl, Nat.zero_le _, rfl, rfl, rfl, rfl, (by show SF _ _ _ _ _ _ _; simpa using HS.out)⟩
  case round =>
    clear HS
    obtain ⟨i, X1, X2, Z1, Z2, rfl, hi, HX2, HZ2, HX1, HZ1, HR⟩ := hrel
    by_cases hlti : i < n
    · obtain ⟨x, X3, rfl⟩ : ∃ x X3, X2 = x :: X3 := by
        cases X2 with
        | nil => have := HX.out; rw [HX2.out] at this; have := HX1.out; simp at *; omega
        | cons x X3 => exact ⟨x, X3, rfl⟩
      obtain ⟨z, Z3, rfl⟩ : ∃ z Z3, Z2 = z :: Z3 := by
        cases Z2 with
        | nil => have := HZ.out; rw [HZ2.out] at this; have := HZ1.out; simp at *; omega
        | cons z Z3 => exact ⟨z, Z3, rfl⟩
      have HR' : Hid (SF B g cap N w0 wr ((P ++ Z1) ++ x :: ((X3 ++ (Y ++ X1)) ++ z :: (Z3 ++ Q)))) := by show SF _ _ _ _ _ _ _; have := HR.out; simpa using this
      have hXl : X3.length + i + 1 = n := by have := HX.out; rw [HX2.out] at this; have := HX1.out; simp at *; omega
      have hp1 : Hid (a + i = (P ++ Z1).length) := by show _ = _; have := HA.out; have := HZ1.out; simp at *; omega
      have hp2 : Hid (b + i = (P ++ Z1).length + 1 + (X3 ++ (Y ++ X1)).length) := by show _ = _; have := HB.out; have := HZ1.out; have := HX1.out; simp at *; omega
      have g1 := at_mid (P ++ Z1) x ((X3 ++ (Y ++ X1)) ++ z :: (Z3 ++ Q)) hp1.out
      have g2 := at_mid2 (P ++ Z1) x (X3 ++ (Y ++ X1)) z (Z3 ++ Q) hp2.out
      have c1 := (HR'.out.cell g1).1
      have f1 := (HR'.out.cell g1).2.1
      have c2 := (HR'.out.cell g2).1
      have f2 := (HR'.out.cell g2).2.1
      have HS2 : Hid (SF B g cap N w0 ((wr.setCell ⟨g, a + i, none⟩ (.string z)).setCell ⟨g, b + i, none⟩ (.string x)).drew (P ++ (Z1 ++ [z] ++ (X3 ++ (Y ++ (X1 ++ [x] ++ (Z3 ++ Q))))))) := by
        have := HR'.out.swap g1 g2 (by omega)
        rw [hp1.out, hp2.out, swap_mid] at this
        show SF _ _ _ _ _ _ _
        rw [hp1.out, hp2.out]
        simpa using this
      have c3 : (wr.setCell ⟨g, a + i, none⟩ (.string z)).cell? ⟨g, b + i, none⟩ = some (.string z) := by rw [World.cell?_setCell_other _ _ _ _ (by simp only [Addr.mk.injEq, not_and, ne_eq]; omega)]; exact c2
      clear g1 g2 HR HR' hXl hp1 hp2
      have ra : IntKind.i64.wrap ((a : Int) + (i : Int)) = (a : Int) + (i : Int) := IntWalk.i64_in _ (by omega)
      have rb : IntKind.i64.wrap ((b : Int) + (i : Int)) = (b : Int) + (i : Int) := IntWalk.i64_in _ (by omega)
      have ri : IntKind.i64.wrap ((i : Int) + 1) = (i : Int) + 1 := IntWalk.i64_in _ (by omega)
      have pa : (0 : Int) ≤ (a : Int) + (i : Int) := by omega
      have pb : (0 : Int) ≤ (b : Int) + (i : Int) := by omega
      have la : (a : Int) + (i : Int) < (N : Int) := by omega
      have lb : (b : Int) + (i : Int) < (N : Int) := by omega
      have ta : ((a : Int) + (i : Int)).toNat = a + i := by omega
      have tb : ((b : Int) + (i : Int)).toNat = b + i := by omega
      go_wp2_with fail
      go_big_region
      clear c1 c2 c3 f1 f2
      generalize ((wr.setCell ⟨g, a + i, none⟩ (.string z)).setCell ⟨g, b + i, none⟩ (.string x)).drew = w3 at *
      go_wp2
      go_roundw
      case rel => exact ⟨i + 1, X1 ++ [x], X3, Z1 ++ [z], Z3, by go_num, hlti, by show _ = _; rw [HX2.out]; simp, by show _ = _; rw [HZ2.out]; simp, by show _ = _; rw [List.length_append, HX1.out]; rfl, by show _ = _; rw [List.length_append, HZ1.out]; rfl, by show SF _ _ _ _ _ _ _; simpa using HS2.out⟩
      case measure => simp [intOf]; omega
    · obtain rfl : i = n := by omega
      have hX2 : X2 = [] := List.eq_nil_of_length_eq_zero (by have h1 := HX.out; have h2 := HX1.out; rw [show X = _ from HX2.out, List.length_append] at h1; change _ = _ at h2; omega)
      have hZ2 : Z2 = [] := List.eq_nil_of_length_eq_zero (by have h1 := HZ.out; have h2 := HZ1.out; rw [show Z = _ from HZ2.out, List.length_append] at h1; change _ = _ at h2; omega)
      have HE : Hid (SF B g cap N w0 wr (P ++ (Z ++ (Y ++ (X ++ Q))))) := by
        show SF _ _ _ _ _ _ _
        have := HR.out
        rw [HX2.out, HZ2.out, hX2, hZ2]
        rw [hX2, hZ2] at this
        simpa using this
      clear HR HX2 HZ2 hX2 hZ2
      go_wp2
      go_end0
      exact ⟨rfl, HE.out⟩

end Go.Proofs.YtecffghcpknmjaaDoor

/- The walks of slices.rotateCmpFunc and slices.insertionSortCmpFunc at texts; the conditions stand in the theorems. -/
namespace Go.Proofs.YtecffghcpknmjaaDoor
open Go Go.RowKit

theorem sum3 {α : Type} (a b c : List α) : (a ++ (b ++ c)).length = a.length + b.length + c.length := by rw [List.length_append, List.length_append]; omega
theorem cut_len {α : Type} {l : List α} {k : Nat} (h : k ≤ l.length) : ∃ a b, l = a ++ b ∧ a.length = k := ⟨l.take k, l.drop k, by simp, by simp; omega⟩
set_option maxRecDepth 100000 in
set_option maxHeartbeats 4000000 in
/-- Two rows side by side change places. -/
theorem rotate_any {B g cap N a m b : Nat} {w0 : World} (cm : Value) (P U V Q : List S) (hN : N ≤ 1000000) (ha : a = P.length) (hm : m = a + U.length) (hb : b = m + V.length) (hu : U ≠ []) (hv : V ≠ []) (w : World) (h : SF B g cap N w0 w (P ++ (U ++ (V ++ Q)))) :
    Calls Tryd.prog 108 #[.slice (some ⟨g, 0, none⟩) N cap, .int .i64 a, .int .i64 m, .int .i64 b, cm] w fun e w' => e = .returned (.tuple #[]) ∧ SF B g cap N w0 w' (P ++ (V ++ (U ++ Q))) := by
  have hlen := h.len
  simp only [List.length_append] at hlen
  have hul : 0 < U.length := List.length_pos_iff.2 hu
  have hvl : 0 < V.length := List.length_pos_iff.2 hv
  have HS := Lib.hid h
  obtain ⟨i0, hi0⟩ : ∃ i0, i0 = U.length := ⟨_, rfl⟩
  obtain ⟨j0, hj0⟩ : ∃ j0, j0 = V.length := ⟨_, rfl⟩
  have r1 : (m : Int) - (a : Int) = (i0 : Int) := by omega
  have r2 : (b : Int) - (m : Int) = (j0 : Int) := by omega
  have w1 : IntKind.i64.wrap ((m : Int) - (a : Int)) = (i0 : Int) := by rw [r1]; exact IntWalk.i64_in _ (by omega)
  have w2 : IntKind.i64.wrap ((b : Int) - (m : Int)) = (j0 : Int) := by rw [r2]; exact IntWalk.i64_in _ (by omega)
  have HI : Hid (i0 = U.length) := hi0
  have HJ : Hid (j0 = V.length) := hj0
  have HM : Hid (m = P.length + i0) := by show _ = _; omega
  have hm2 : m ≤ 1000000 := by omega
  have h1 : 0 < i0 := by omega
  have h2 : 0 < j0 := by omega
  clear h hu hv hlen ha hm hb hul hvl hi0 hj0 r1 r2
  go_enter Tryd.func108, Tryd.ntmps108
  go_wp2
  clear w1 w2
  go_loopw [10, 11] (fun vi vj wr => ∃ (i j : Nat) (P' X Y Q' : List S), vi = .int .i64 i ∧ vj = .int .i64 j ∧ 0 < i ∧ 0 < j ∧ Hid (X.length = i) ∧ Hid (Y.length = j) ∧ Hid (m = P'.length + i) ∧ Hid (P ++ (V ++ (U ++ Q)) = P' ++ (Y ++ (X ++ Q'))) ∧ Hid (SF B g cap N w0 wr (P' ++ (X ++ (Y ++ Q'))))) (fun vi vj _ => (intOf vi).toNat + (intOf vj).toNat)
  case atStart => exact ⟨i0, j0, P, U, V, Q, rfl, rfl, h1, h2, HI.out.symm, HJ.out.symm, HM, rfl, HS.out⟩
  case round =>
    clear HS HM HI HJ
    obtain ⟨i, j, P', X, Y, Q', rfl, rfl, hi, hj, HX, HY, HM, HG, HR⟩ := hrel
    have HL : Hid (P'.length + i + j + Q'.length = N) := by
      show _ = _
      have := HR.out.len
      simp only [List.length_append] at this
      rw [HX.out, HY.out] at this; omega
    have hsum : i + j ≤ 1000000 := by have := HL.out; omega
    have hmj : m + j ≤ 1000000 := by have h1 := HL.out; have h2 := HM.out; change _ = _ at h1; change _ = _ at h2; omega
    have him : i ≤ m := by have h2 := HM.out; change _ = _ at h2; omega
    obtain ⟨p, hp⟩ : ∃ p, p = P'.length := ⟨_, rfl⟩
    have hpm : (m : Int) - (i : Int) = (p : Int) := by have h2 := HM.out; change _ = _ at h2; omega
    have wpm : IntKind.i64.wrap ((m : Int) - (i : Int)) = (p : Int) := by rw [hpm]; exact IntWalk.i64_in _ (by omega)
    have HP := Lib.hid hp
    clear hp hpm
    by_cases hij : i = j
    · have e1 : ((i : Int) == (j : Int)) = true := by rw [beq_iff_eq]; omega
      have e2 : (i == j) = true := by rw [beq_iff_eq]; exact hij
      have hc := swapRange_any cm P' X [] Y Q' hN HP.out HX.out (HY.out.trans hij.symm) (b := m) (by have h2 := HM.out; change _ = _ at h2; simpa using h2) wr (by have := HR.out; simpa using this)
      clear hij
      go_wp2_with fail
      refine hc.mono ?_
      rintro e w9 ⟨rfl, hs⟩
      have HE : Hid (SF B g cap N w0 w9 (P ++ (V ++ (U ++ Q)))) := by show SF _ _ _ _ _ _ _; rw [HG.out]; simpa using hs
      clear hs
      go_wp2
      go_end0
      exact ⟨rfl, HE.out⟩
    · have e1 : ((i : Int) == (j : Int)) = false := by rw [beq_eq_false_iff_ne]; omega
      have e2 : (i == j) = false := by rw [beq_eq_false_iff_ne]; exact hij
      by_cases hlt : j < i
      · have d1 : decide ((i : Int) > (j : Int)) = true := decide_eq_true (by omega)
        have d2 : (j : Int) < (i : Int) := by omega
        obtain ⟨X1, X2, rfl, hX1⟩ := cut_len (l := X) (k := j) (by have := HX.out; change _ = _ at this; omega)
        obtain ⟨k, hk⟩ : ∃ k : Nat, k = i - j := ⟨_, rfl⟩
        have wk : IntKind.i64.wrap ((i : Int) - (j : Int)) = (k : Int) := by rw [show (i : Int) - (j : Int) = (k : Int) by omega]; exact IntWalk.i64_in _ (by omega)
        have HX2 : Hid (X2.length = k) := by have := HX.out; change _ = _ at this; rw [List.length_append] at this; show _ = _; omega
        have hc := swapRange_any cm P' X1 X2 Y Q' hN HP.out hX1 HY.out (b := m) (by have h2 := HM.out; have h3 := HX2.out; have h4 := HP.out; change _ = _ at h2; change _ = _ at h3; change _ = _ at h4; omega) wr (by have := HR.out; simpa using this)
        have HK := Lib.hid hk
        clear hij hk hX1
        go_wp2_with fail
        refine hc.mono ?_
        rintro e w9 ⟨rfl, hs⟩
        have HS := Lib.hid hs
        clear hs hc
        go_wp2
        go_roundw
        case rel =>
          have hk : k = i - j := HK.out
          have h3 : X2.length = k := HX2.out
          have h4 : p = P'.length := HP.out
          have h5 : m = P'.length + i := HM.out
          refine ⟨k, j, P' ++ Y, X2, X1, Q', by first | rfl | go_num, rfl, by omega, hj, h3, ?_, ?_, ?_, ?_⟩
          · have := HX.out; change _ = _ at this; rw [List.length_append] at this; show _ = _; omega
          · show _ = _; rw [List.length_append, HY.out]; omega
          · show _ = _; rw [HG.out]; simp
          · show SF _ _ _ _ _ _ _; have := HS.out; simpa using this
        case measure => have hk : k = i - j := HK.out; simp [intOf]; omega
      · have d1 : decide ((i : Int) > (j : Int)) = false := decide_eq_false (by omega)
        have d2 : ¬ (j : Int) < (i : Int) := by omega
        obtain ⟨k, hk⟩ : ∃ k : Nat, k = j - i := ⟨_, rfl⟩
        obtain ⟨Y1, Y2, rfl, hY1⟩ := cut_len (l := Y) (k := k) (by have := HY.out; change _ = _ at this; omega)
        have HY2 : Hid (Y2.length = i) := by have := HY.out; change _ = _ at this; rw [List.length_append] at this; show _ = _; omega
        have w1 : IntKind.i64.wrap ((m : Int) + (j : Int)) = (m : Int) + (j : Int) := IntWalk.i64_in _ (by omega)
        obtain ⟨q, hq⟩ : ∃ q : Nat, q = m + j - i := ⟨_, rfl⟩
        have w2 : IntKind.i64.wrap ((m : Int) + (j : Int) - (i : Int)) = (q : Int) := by rw [show (m : Int) + (j : Int) - (i : Int) = (q : Int) by omega]; exact IntWalk.i64_in _ (by omega)
        have wk : IntKind.i64.wrap ((j : Int) - (i : Int)) = (k : Int) := by rw [show (j : Int) - (i : Int) = (k : Int) by omega]; exact IntWalk.i64_in _ (by omega)
        have hc := swapRange_any cm P' X Y1 Y2 Q' hN HP.out HX.out HY2.out (b := q) (by have h2 := HM.out; have h4 := HP.out; change _ = _ at h2; change _ = _ at h4; omega) wr (by have := HR.out; simpa using this)
        have HK := Lib.hid hk
        have HY1 := Lib.hid hY1
        clear hk hY1 hq
        go_wp2_with fail
        refine hc.mono ?_
        rintro e w9 ⟨rfl, hs⟩
        have HS := Lib.hid hs
        clear hs hc
        go_wp2
        go_roundw
        case rel =>
          have hk : k = j - i := HK.out
          have h4 : p = P'.length := HP.out
          have h5 : m = P'.length + i := HM.out
          refine ⟨i, k, P', Y2, Y1, X ++ Q', rfl, by first | rfl | go_num, hi, by omega, HY2, HY1, HM, ?_, ?_⟩
          · show _ = _; rw [HG.out]; simp
          · show SF _ _ _ _ _ _ _; have := HS.out; simpa using this
        case measure => have hk : k = j - i := HK.out; simp [intOf]; omega

end Go.Proofs.YtecffghcpknmjaaDoor

/- The walk of slices.insertionSortCmpFunc at texts, the comparison being the program's own; the conditions stand in the theorems. -/

namespace Go.Proofs.YtecffghcpknmjaaDoor
open Go Go.RowKit

/-- The program's comparison of versions answers cf. -/
def CmpOk (cf : S → S → Int) : Prop := ∀ (a b : S) (W : World), a.size ≤ 900000 → b.size ≤ 900000 → Calls Tryd.prog 34 #[.string a, .string b] W fun e w' => e = .returned (.int .i64 (cf a b)) ∧ Below W.heap.size W w'
def ltF (cf : S → S → Int) (a b : S) : Bool := decide (cf a b < 0)
theorem enters_cmp : ∀ (args : Array Value) (w : World), (callFunc 34 args).run Tryd.prog w = .ok (.enter 34 args) w := fun args w => by kernel_rfl
def cmpF : Value := .func (.func 34) #[] #[]
def AllSmall (l : List S) : Prop := ∀ x ∈ l, x.size ≤ 900000
theorem swap_next {α : Type} (p : List α) (y x : α) (q : List α) {k : Nat} (hk : k = p.length) : ((p ++ y :: x :: q).set (k + 1) y).set k x = p ++ x :: y :: q := by
  subst hk
  rw [List.set_append_right _ _ (by omega), show p.length + 1 - p.length = 1 by omega, List.set_append_right _ _ (Nat.le_refl _), Nat.sub_self]
  rfl
theorem snoc_of {α : Type} {l : List α} (h : l ≠ []) : ∃ a x, l = a ++ [x] := ⟨l.dropLast, l.getLast h, (List.dropLast_concat_getLast h).symm⟩
set_option maxRecDepth 100000 in
set_option maxHeartbeats 4000000 in
theorem insert_any {B g cap N a b : Nat} {w0 : World} {cf : S → S → Int} (hC : CmpOk cf) (hW : Weak (ltF cf)) (P R0 Q : List S) (hN : N ≤ 1000000) (ha : a = P.length) (hb : b = a + R0.length) (hs : AllSmall R0) (w : World) (h : SF B g cap N w0 w (P ++ (R0 ++ Q))) :
    Calls Tryd.prog 97 #[.slice (some ⟨g, 0, none⟩) N cap, .int .i64 a, .int .i64 b, cmpF] w fun e w' => e = .returned (.tuple #[]) ∧ ∃ M, Srt (ltF cf) M ∧ SameE (ltF cf) R0 M ∧ SF B g cap N w0 w' (P ++ (M ++ Q)) := by
  have hlen := h.len
  simp only [List.length_append] at hlen
  have HS := Lib.hid h
  have HC := Lib.hid hC
  have HA := Lib.hid ha
  have HSM := Lib.hid hs
  have hbn : b ≤ 1000000 := by omega
  have hbN : b ≤ N := by omega
  have wa : IntKind.i64.wrap ((a : Int) + 1) = (a : Int) + 1 := IntWalk.i64_in _ (by omega)
  clear h hC hlen ha hs
  have hen := enters_cmp
  unfold cmpF
  cases R0 with
  | nil =>
    have d1 : ¬ (a : Int) + 1 < (b : Int) := by simp at hb; omega
    clear hb
    go_enter Tryd.func97, Tryd.ntmps97
    go_wp2
    refine wp_loop_rounds 1 ?_
    rw [rounds_succ]
    go_wp2
    go_end0
    exact ⟨rfl, [], srt_nil, SameE.refl _, HS.out⟩
  | cons x0 R1 =>
    have HBL : Hid (b = a + 1 + R1.length) := by show _ = _; rw [hb, List.length_cons]; omega
    have hab : a + 1 ≤ b := by rw [hb, List.length_cons]; omega
    clear hb
    go_enter Tryd.func97, Tryd.ntmps97
    go_wp2
    clear wa
    go_loopw [8] (fun vi wr => ∃ (i : Nat) (M0 M R : List S), vi = .int .i64 i ∧ i ≤ b ∧ a < i ∧ Hid (x0 :: R1 = M0 ++ R) ∧ Hid (i = a + M.length) ∧ Hid (Srt (ltF cf) M) ∧ Hid (SameE (ltF cf) M0 M) ∧ Hid (SF B g cap N w0 wr (P ++ (M ++ (R ++ Q))))) (fun vi _ => b - (intOf vi).toNat)
    case atStart => exact ⟨a + 1, [x0], [x0], R1, by first | rfl | go_num, hab, by omega, rfl, rfl, srt_one _, SameE.refl _, (by show SF _ _ _ _ _ _ _; simpa using HS.out)⟩
    case round =>
      clear HS
      obtain ⟨i, M0, M, R, rfl, hib, hai, HM0, HI, HSR, HSE, HR⟩ := hrel
      have HBR : Hid (M.length = M0.length) := (HSE.out.perm hW).length_eq.symm
      by_cases hlt : i < b
      · have hltz : (i : Int) < (b : Int) := by omega
        obtain ⟨x, R, rfl⟩ : ∃ x R', R = x :: R' := by
          cases R with
          | nil =>
            have h1 := congrArg List.length (show x0 :: R1 = M0 ++ [] from HM0.out)
            have h2 := HBL.out; have h3 := HI.out; have h4 := HBR.out
            change _ = _ at h2; change _ = _ at h3; change _ = _ at h4
            simp at h1; omega
          | cons x R' => exact ⟨x, R', rfl⟩
        go_wp2
        go_loopw [9] (fun vj wr2 => ∃ (j : Nat) (M1 M2 : List S), vj = .int .i64 j ∧ a ≤ j ∧ j ≤ i ∧ Hid (M = M1 ++ M2) ∧ Hid (j = a + M1.length) ∧ Hid (∀ y ∈ M2, ltF cf x y = true) ∧ Hid (SF B g cap N w0 wr2 (P ++ (M1 ++ x :: (M2 ++ (R ++ Q)))))) (fun vj _ => (intOf vj).toNat)
        case atStart => exact ⟨i, M, [], rfl, by omega, Nat.le_refl _, (by show _ = _; simp), HI, (by show ∀ _, _; simp), (by show SF _ _ _ _ _ _ _; simpa using HR.out)⟩
        case round =>
          clear HR
          obtain ⟨j, M1, M2, rfl, haj, hji, HM, HJ, HLT, HR⟩ := hrel
          have out : (∀ y ∈ M1, ltF cf x y = false) → Hid (∃ M', Srt (ltF cf) M' ∧ SameE (ltF cf) (M0 ++ [x]) M' ∧ M'.length = M.length + 1 ∧ SF B g cap N w0 wr (P ++ (M' ++ (R ++ Q)))) := fun hy => by
            have e : M = M1 ++ M2 := HM.out
            refine ⟨M1 ++ x :: M2, ins_srt hW (e ▸ HSR.out) hy HLT.out, ?_, by rw [e]; simp; omega, ?_⟩
            · refine SameE.trans (HSE.out.app (SameE.refl [x])) ?_
              rw [e]; exact ins_same hW HLT.out
            · have := HR.out; simpa using this
          have OUT := Lib.hid out
          clear out
          by_cases hja : a < j
          · obtain ⟨M3, y, rfl⟩ := snoc_of (l := M1) (fun e => by have := HJ.out; change _ = _ at this; rw [e] at this; simp at this; omega)
            obtain ⟨jp, hjp⟩ : ∃ jp, j = jp + 1 := ⟨j - 1, by omega⟩
            subst hjp
            have d1 : decide ((jp : Int) + 1 > (a : Int)) = true := decide_eq_true (by omega)
            have d2 : (a : Int) < (jp : Int) + 1 := by omega
            have d3 : decide (a < jp + 1) = true := decide_eq_true hja
            have w1 : IntKind.i64.wrap ((jp : Int) + 1 - 1) = (jp : Int) := by rw [show (jp : Int) + 1 - 1 = (jp : Int) by omega]; exact IntWalk.i64_in _ (by omega)
            have HR' : Hid (SF B g cap N w0 wr ((P ++ M3) ++ y :: ([] ++ x :: (M2 ++ (R ++ Q))))) := by show SF _ _ _ _ _ _ _; have := HR.out; simpa using this
            have hp1 : Hid (jp = (P ++ M3).length) := by show _ = _; have h1 := HA.out; have h2 := HJ.out; change _ = _ at h1; change _ = _ at h2; simp at *; omega
            have g1 := at_mid (P ++ M3) y ([] ++ x :: (M2 ++ (R ++ Q))) hp1.out
            have g2 := at_mid2 (P ++ M3) y [] x (M2 ++ (R ++ Q)) (k := jp + 1) (by have := hp1.out; change _ = _ at this; simp at *; omega)
            have c1 := (HR'.out.cell g1).1
            have f1 := (HR'.out.cell g1).2.1
            have c2 := (HR'.out.cell g2).1
            have f2 := (HR'.out.cell g2).2.1
            have gl := (HR'.out.cell g2).2.2
            have sy : y.size ≤ 900000 := HSM.out y (by rw [show x0 :: R1 = _ from HM0.out]; exact List.mem_append_left _ (HSE.out.symm.mem hW (by rw [show M = _ from HM.out]; simp)))
            have sx : x.size ≤ 900000 := HSM.out x (by rw [show x0 :: R1 = _ from HM0.out]; simp)
            have l1 : (jp : Int) + 1 < (N : Int) := by omega
            have l2 : (jp : Int) < (N : Int) := by omega
            have t1 : ((jp : Int) + 1).toNat = jp + 1 := by omega
            have p1 : (0 : Int) ≤ (jp : Int) + 1 := by omega
            have hLL := @Later.cells wr
            have HCC : Hid (∀ z : Later wr, Calls Tryd.prog 34 #[.string x, .string y] z.at_ fun e w'' => e = .returned (.int .i64 (cf x y)) ∧ ∃ u : Later wr, w'' = u.at_) := fun z => Later.call (HC.out _ _ _ sx sy)
            go_wp2_with fail
            refine region_later (by kernel_rfl) (by kernel_rfl) ?_
            repeat (go_big_quiet_step ((first | (go_at_call 34; with_reducible exact HCC.out _))))
            refine wpQuiet_nil ?_
            rintro _ ⟨nx, rfl⟩
            have HR2 : Hid (SF B g cap N w0 nx.at_ ((P ++ M3) ++ y :: x :: (M2 ++ (R ++ Q)))) := HR'.out.later nx.below
            clear hLL HCC c1 c2 f1 f2 gl sy sx HR HR'
            generalize nx.at_ = w2 at *
            have hq : ltF cf x y = decide (cf x y < 0) := rfl
            generalize decide (cf x y < 0) = q at *
            cases q with
            | true =>
              have HLY := Lib.hid hq
              clear hq OUT
              have c1 := (HR2.out.cell g1).1
              have f1 := (HR2.out.cell g1).2.1
              have c2 := (HR2.out.cell g2).1
              have f2 := (HR2.out.cell g2).2.1
              have c3 : (w2.setCell ⟨g, jp + 1, none⟩ (.string y)).cell? ⟨g, jp, none⟩ = some (.string y) := by rw [World.cell?_setCell_other _ _ _ _ (by simp only [Addr.mk.injEq, not_and, ne_eq]; omega)]; exact c1
              have HS2 : Hid (SF B g cap N w0 ((w2.setCell ⟨g, jp + 1, none⟩ (.string y)).setCell ⟨g, jp, none⟩ (.string x)).drew ((P ++ M3) ++ x :: y :: (M2 ++ (R ++ Q)))) := by
                have := HR2.out.swap g2 g1 (by omega)
                rw [swap_next _ _ _ _ hp1.out] at this
                exact this
              clear g1 g2
              go_wp2_with fail
              go_big_region
              clear c1 c2 c3 f1 f2
              generalize ((w2.setCell ⟨g, jp + 1, none⟩ (.string y)).setCell ⟨g, jp, none⟩ (.string x)).drew = w3 at *
              go_wp2
              go_roundw
              case rel =>
                refine ⟨jp, M3, y :: M2, by first | rfl | go_num, by omega, by omega, ?_, ?_, ?_, ?_⟩
                · show _ = _; rw [HM.out]; simp
                · show _ = _; have := HJ.out; change _ = _ at this; simp at this; omega
                · intro z hz
                  rcases List.mem_cons.1 hz with rfl | hz
                  · exact HLY.out
                  · exact HLT.out z hz
                · show SF _ _ _ _ _ _ _; have := HS2.out; simpa using this
              case measure => simp [intOf]
            | false =>
              have hout : Hid (∃ M', Srt (ltF cf) M' ∧ SameE (ltF cf) (M0 ++ [x]) M' ∧ M'.length = M.length + 1 ∧ SF B g cap N w0 w2 (P ++ (M' ++ (R ++ Q)))) := by
                have e : M = (M3 ++ [y]) ++ M2 := HM.out
                have hy : ∀ z ∈ M3 ++ [y], ltF cf x z = false := srt_last hW (e ▸ HSR.out : Srt (ltF cf) ((M3 ++ [y]) ++ M2)).left hq
                refine ⟨(M3 ++ [y]) ++ x :: M2, ins_srt hW (e ▸ HSR.out) hy HLT.out, ?_, by rw [e]; simp; omega, by have := HR2.out; simpa using this⟩
                refine SameE.trans (HSE.out.app (SameE.refl [x])) ?_
                rw [e]; exact ins_same hW HLT.out
              obtain ⟨M', hm1, hm2, hm3, hm4⟩ := hout.out
              have HM1 := Lib.hid hm1
              have HM2 := Lib.hid hm2
              have HM3 := Lib.hid hm3
              have HM4 := Lib.hid hm4
              clear hout hm1 hm2 hm3 hm4 hq OUT
              have w2' : IntKind.i64.wrap ((i : Int) + 1) = (i : Int) + 1 := IntWalk.i64_in _ (by omega)
              go_wp2
              go_roundw
              case rel => exact ⟨i + 1, M0 ++ [x], M', R, by first | rfl | go_num, hlt, by omega, (by show _ = _; rw [HM0.out]; simp), (by show _ = _; rw [HM3.out, HI.out]; omega), HM1, HM2, HM4⟩
              case measure => simp [intOf]; omega
          · obtain rfl : j = a := by omega
            have hM1 : M1 = [] := List.eq_nil_of_length_eq_zero (by have := HJ.out; change _ = _ at this; omega)
            have d1 : decide ((j : Int) > (j : Int)) = false := decide_eq_false (by omega)
            have d2 : ¬ (j : Int) < (j : Int) := by omega
            have d3 : decide (j < j) = false := decide_eq_false (by omega)
            obtain ⟨M', hm1, hm2, hm3, hm4⟩ := (OUT.out (fun y hy => by rw [hM1] at hy; cases hy)).out
            have HM1 := Lib.hid hm1
            have HM2 := Lib.hid hm2
            have HM3 := Lib.hid hm3
            clear hm1 hm2 hm3 OUT hM1 HR
            go_wp2_with fail
            refine region_later (by kernel_rfl) (by kernel_rfl) ?_
            repeat (go_big_quiet_step (fail))
            refine wpQuiet_nil ?_
            rintro _ ⟨nx, rfl⟩
            have HM4 := Lib.hid (hm4.later nx.below)
            clear hm4
            generalize nx.at_ = w2 at *
            have w2' : IntKind.i64.wrap ((i : Int) + 1) = (i : Int) + 1 := IntWalk.i64_in _ (by omega)
            go_wp2
            go_roundw
            case rel => exact ⟨i + 1, M0 ++ [x], M', R, by first | rfl | go_num, hlt, by omega, (by show _ = _; rw [HM0.out]; simp), (by show _ = _; rw [HM3.out, HI.out]; omega), HM1, HM2, HM4⟩
            case measure => simp [intOf]; omega
      · obtain rfl : i = b := by omega
        have hR : R = [] := List.eq_nil_of_length_eq_zero (by
          have h1 := congrArg List.length (show x0 :: R1 = M0 ++ R from HM0.out)
          have h2 := HBL.out; have h3 := HI.out; have h4 := HBR.out
          change _ = _ at h2; change _ = _ at h3; change _ = _ at h4
          rw [List.length_cons, List.length_append] at h1; omega)
        subst hR
        have d2 : ¬ (i : Int) < (i : Int) := by omega
        go_wp2
        go_end0
        exact ⟨rfl, M, HSR.out, (by rw [show x0 :: R1 = M0 ++ [] from HM0.out, List.append_nil]; exact HSE.out), HR.out⟩

end Go.Proofs.YtecffghcpknmjaaDoor
