/- Walks: diff.Apply; the conditions stand in the theorem. -/
import Derived.Test.YtmcjpmogjmnfpaaL30
import Derived.Test.YtmcjpmogjmnfpaaL32
import Derived.Carry
namespace Go.Proofs.Ytmcjpmogjmnfpaa
open Go Go.RowKit

theorem lt_alloc (w : World) (o : Obj) : w.heap.size < (w.alloc o).heap.size := by simp
theorem lockFind_f (l : Lock) (k : Key) : ∃ (p : Pin) (s : Bool), (findP l.pins k).getD noPin = p ∧ (findP l.pins k).isSome = s ∧ ∀ (v : Value) (w : World), SliceOf 6 pinC w v l.pins → Calls Try.prog 32 #[.agg #[.string l.root.group, .string l.root.artifact, .string l.root.version, v], .agg #[.string k.group, .string k.artifact, .string k.type, .string k.classifier]] w fun e w' => e = .returned (.tuple #[.agg #[.string p.key.group, .string p.key.artifact, .string p.key.type, .string p.key.classifier, .string p.version, .int .i64 p.scope], .bool s]) ∧ Below w.heap.size w w' :=
  ⟨_, _, rfl, rfl, fun v w h => lockFind_any l k v w h⟩
theorem own_addr {α : Type} {base E n : Nat} {C : α → List Value} {w : World} {ao : Option Addr} {len cap : Nat} {l : List α} (h : Owns base E n C w (.slice ao len cap) l) {b o : Nat} {s : Option Nat} (e : ao = some ⟨b, o, s⟩) : base ≤ b := by
  rcases h.2 with ⟨h1, -⟩ | ⟨g, cap', cur, h1, hb, -⟩
  · cases h1; cases e
  · cases h1; cases e; exact hb
theorem wpOp_do {P : Program} {ops : Array Oper} {Q : Exit → Act → World → Prop} {i : Nat} {K : Act → World → Prop} {a : Act} {w : World} {o : Oper} (ho : ops[i]? = some o) (hw : Region.wanted o (yielded ops a.tmps) = true) (h : o.wp P a w K Q) : wpOp P ops Q i K a w := by
  unfold wpOp
  rw [ho]
  simp only [hw, if_true]
  exact .inl h
theorem wpOp_skip {P : Program} {ops : Array Oper} {Q : Exit → Act → World → Prop} {i : Nat} {K : Act → World → Prop} {a : Act} {w : World} {o : Oper} (ho : ops[i]? = some o) (hw : Region.wanted o (yielded ops a.tmps) = false) (h : K (a.put o.dst undef) w) : wpOp P ops Q i K a w := by
  unfold wpOp
  rw [ho]
  simp only [hw, Bool.false_eq_true, if_false]
  exact h
theorem all12 {f0 f1 f2 f3 f4 f5 f6 f7 f8 f9 f10 f11 : Bool} (h : 0 = (!f0).toNat + (!f1).toNat + (!f2).toNat + (!f3).toNat + (!f4).toNat + (!f5).toNat + (!f6).toNat + (!f7).toNat + (!f8).toNat + (!f9).toNat + (!f10).toNat + (!f11).toNat) : true = f0 ∧ true = f1 ∧ true = f2 ∧ true = f3 ∧ true = f4 ∧ true = f5 ∧ true = f6 ∧ true = f7 ∧ true = f8 ∧ true = f9 ∧ true = f10 ∧ true = f11 := by
  refine ⟨?_, ?_, ?_, ?_, ?_, ?_, ?_, ?_, ?_, ?_, ?_, ?_⟩
  · cases f0 <;> first | rfl | (simp only [Bool.not_false, Bool.toNat_true] at h; omega)
  · cases f1 <;> first | rfl | (simp only [Bool.not_false, Bool.toNat_true] at h; omega)
  · cases f2 <;> first | rfl | (simp only [Bool.not_false, Bool.toNat_true] at h; omega)
  · cases f3 <;> first | rfl | (simp only [Bool.not_false, Bool.toNat_true] at h; omega)
  · cases f4 <;> first | rfl | (simp only [Bool.not_false, Bool.toNat_true] at h; omega)
  · cases f5 <;> first | rfl | (simp only [Bool.not_false, Bool.toNat_true] at h; omega)
  · cases f6 <;> first | rfl | (simp only [Bool.not_false, Bool.toNat_true] at h; omega)
  · cases f7 <;> first | rfl | (simp only [Bool.not_false, Bool.toNat_true] at h; omega)
  · cases f8 <;> first | rfl | (simp only [Bool.not_false, Bool.toNat_true] at h; omega)
  · cases f9 <;> first | rfl | (simp only [Bool.not_false, Bool.toNat_true] at h; omega)
  · cases f10 <;> first | rfl | (simp only [Bool.not_false, Bool.toNat_true] at h; omega)
  · cases f11 <;> first | rfl | (simp only [Bool.not_false, Bool.toNat_true] at h; omega)
/-- What Apply gives: the lock written out, its pins in a block that the call made. -/
def ApplyNew (w : World) (r : Lock) (ok : Value) (e : Ending) (w' : World) : Prop := ∃ ao cap, e = .returned (.tuple #[.agg #[.string r.root.group, .string r.root.artifact, .string r.root.version, .slice ao r.pins.length cap], ok]) ∧ SliceOf 6 pinC w' (.slice ao r.pins.length cap) r.pins ∧ (∀ b o s, ao = some ⟨b, o, s⟩ → w.heap.size ≤ b) ∧ Below w.heap.size w w'
theorem ApplyNew.out {w w' : World} {r : Lock} {ok : Value} {e : Ending} (h : ApplyNew w r ok e w') : ApplyOut w r ok e w' := by
  obtain ⟨ao, cap, h1, h2, -, h3⟩ := h
  exact ⟨_, h1, h2, h3⟩
theorem ApplyNew.no {w w' : World} {ok : Value} (h : Below w.heap.size w w') : ApplyNew w noLock ok (.returned (.tuple #[.agg #[.string ⟨#[]⟩, .string ⟨#[]⟩, .string ⟨#[]⟩, .slice none 0 0], ok])) w' :=
  ⟨none, 0, rfl, SliceOf.nil, (fun b o s e => by cases e), h⟩
theorem slice_len {α : Type} {n : Nat} {C : α → List Value} {w : World} {ao : Option Addr} {len cap : Nat} {l : List α} (h : SliceOf n C w (.slice ao len cap) l) : len = l.length := by
  obtain ⟨a, c, e, -⟩ := h
  cases e; rfl
/-- Which Errno is told: OK or ErrArg. -/
def errI (r : Option Lock) : Int := if r.isSome then 0 else 1
/-- The frame while the first drawn region of Apply runs: what has come up so far. -/
def apAct (LK LV g0 g1 g2 : Value) (ma mb : Bool) (b : Nat) (f0 f1 f2 f3 f4 f5 f6 f7 f8 f9 _f10 f11 : Bool) (p : Nat) : Act :=
  ⟨#[LK, LV, .pointer (some ⟨b, 0, none⟩), undef, .pointer (some ⟨b + 1, 0, none⟩), .int .i64 0, cond f9 (.pointer (some ⟨p, 0, none⟩)) undef, cond f11 (.bool (ma && mb)) undef, undef, undef, undef, undef, undef, undef, undef, undef, undef, cond f0 (.pointer (some ⟨b, 0, none⟩)) undef, cond f1 (.agg #[g0, g1, g2]) undef, cond f2 (.agg #[g0, g1, g2, .slice none 0 0]) undef, cond f3 LK undef, cond f4 (.bool ma) undef, cond f5 (.bool ma) undef, cond f6 (cond ma LV undef) undef, cond f7 (cond ma (.bool mb) undef) undef, cond f8 (.bool (ma && mb)) undef, undef, undef, undef, undef, undef, undef, undef, undef, undef, undef, undef, undef, undef, undef, undef, undef, undef, undef, undef, undef, undef, undef, undef, undef, undef, undef, undef, undef, undef, undef, undef, undef, undef, undef, undef, undef, undef, undef, undef, undef, undef, undef, undef, undef, undef, undef, undef, undef, undef, undef, undef, undef, undef, undef, undef, undef, undef, undef, undef, undef, undef, undef, undef, undef, undef, undef, undef, undef, undef, undef, undef, undef, undef], []⟩
def ApI (LK LV g0 g1 g2 : Value) (ma mb : Bool) (w W : World) (n : Nat) (listed : Array Bool) (a : Act) (W' : World) : Prop :=
  ∃ (f0 f1 f2 f3 f4 f5 f6 f7 f8 f9 f10 f11 : Bool) (p : Nat), listed = #[f0, f1, f2, f3, f4, f5, f6, f7, f8, f9, f10, f11] ∧ n = (!f0).toNat + (!f1).toNat + (!f2).toNat + (!f3).toNat + (!f4).toNat + (!f5).toNat + (!f6).toNat + (!f7).toNat + (!f8).toNat + (!f9).toNat + (!f10).toNat + (!f11).toNat ∧ a = apAct LK LV g0 g1 g2 ma mb w.heap.size f0 f1 f2 f3 f4 f5 f6 f7 f8 f9 f10 f11 p ∧
    Below W.heap.size W W' ∧ (f9 = true → W.heap.size ≤ p ∧ Box W' p (cond f10 [g0, g1, g2, .slice none 0 0] [.string ⟨#[]⟩, .string ⟨#[]⟩, .string ⟨#[]⟩, .slice none 0 0])) ∧ (f9 = false → f10 = false)
theorem wpList_update {P : Program} {ops : Array Oper} {rest : List Oper} {op : Oper} {a : Act} {w w' : World} {Q : Exit → Act → World → Prop} (hgd : op.guard = none) (ty : TypeId) (x y z : Operand) (ho : op.op = .mapUpdate ty x y z)
    (m k v : Value) (hm : a.eval x = m) (hk : a.eval y = k) (hv : a.eval z = v) (hr : (Instr.mapUpdate ty m k v).run P w = .ok () w')
    (h : wpList P ops Q rest (a.put op.dst undef) w') : wpList P ops Q (op :: rest) a w := by
  refine wpList_plain hgd fun K hK => ?_
  simp only [Oper.wp, execOp, ho, hm, hk, hv, Sem.run_bind, hr, Result.andThen_ok, Sem.run_pure, Oper.upon]
  exact hK _ _ h

attribute [local go_sem ↓] eqg_pinE neq_pinB in
set_option maxRecDepth 100000 in
set_option maxHeartbeats 16000000 in
theorem apply_new (a : Lock) (l : List Edit) (av lv : Value) (w : World) (hav : SliceOf 6 pinC w av a.pins) (hlv : SliceOf 18 editC w lv l) (hsa : lockSm a) (hsl : ∀ e ∈ l, editSm e) (hl : a.pins.length + l.length ≤ 500) :
    Calls Try.prog 14 #[.agg (lockC a av).toArray, lv] w (ApplyNew w ((applyR a l).getD noLock) (.int .i64 (errI (applyR a l)))) := by
  obtain ⟨ao, ac, rfl⟩ := hav.shape
  obtain ⟨lo, lc, rfl⟩ := hlv.shape
  have hlm : l.length ≤ 9223372036854775807 := by omega
  have hla : a.pins.length ≤ 9223372036854775807 := by omega
  have HA := Lib.hid hav
  have HV := Lib.hid hlv
  have HSA := Lib.hid hsa
  have HSL := Lib.hid hsl
  have HL := Lib.hid hl
  clear hav hlv hsa hsl hl
  unfold lockC
  go_enter Try.func14, Try.ntmps14
  go_upto_region 1 with fail
  refine wp_world ?_
  intro W hW
  have x2 : Box W w.heap.size [.string a.root.group, .string a.root.artifact, .string a.root.version, .slice ao a.pins.length ac] := by rw [hW]; exact ((Box.new w _ _ _ rfl).alloc _)
  have x4 : Box W (w.heap.size + 1) [.string ⟨#[]⟩, .string ⟨#[]⟩, .string ⟨#[]⟩, .slice none 0 0] := by rw [hW]; exact (Box.new _ _ _ _ (by simp))
  have hB : Below w.heap.size w W := by rw [hW]; exact ((Below.refl _ w).alloc (Nat.le_refl _) _).alloc (by simp) _
  clear hW
  have HX2 := Lib.hid x2
  have HX4 := Lib.hid x4
  have HBW := Lib.hid hB
  have hs := hB.size
  have l2 := x2.lt
  have y0 := x2.cell 0 _ rfl
  have y1 := x2.cell 1 _ rfl
  have y2 := x2.cell 2 _ rfl
  have y3 := x2.cell 3 _ rfl
  clear x2 x4 hB
  have HM1 : Hid (∀ X, Below W.heap.size W X → Calls Try.prog 23 #[.agg #[.string a.root.group, .string a.root.artifact, .string a.root.version, .slice ao a.pins.length ac]] X fun e w' => e = .returned (.bool (lockMay a)) ∧ Below X.heap.size X w') := fun X h => lockMay_any a (.slice ao a.pins.length ac) X (HA.out.below (HBW.out.trans (h.mono hs))) HSA.out
  have HM2 : Hid (∀ X, Below W.heap.size W X → Calls Try.prog 12 #[.slice lo l.length lc] X fun e w' => e = .returned (.bool (mayE l)) ∧ Below X.heap.size X w') := fun X h => may_any l (.slice lo l.length lc) X (HV.out.below (HBW.out.trans (h.mono hs)))
  go_cut [6, 7] from 17 to 25 (fun u v wx => ∃ N, u = .pointer (some ⟨N, 0, none⟩) ∧ v = .bool (lockMay a && mayE l) ∧ W.heap.size ≤ N ∧ Box wx N [.string a.root.group, .string a.root.artifact, .string a.root.version, .slice none 0 0] ∧ Below W.heap.size W wx)
  case first =>
    generalize lockMay a = ma at *
    generalize mayE l = mb at *
    rename_i J K' hJ hK
    refine wp_region_inv (ApI (.agg #[.string a.root.group, .string a.root.artifact, .string a.root.version, .slice ao a.pins.length ac]) (.slice lo l.length lc) (.string a.root.group) (.string a.root.artifact) (.string a.root.version) ma mb w W) (by kernel_rfl) 12 rfl ?_ ?_ ?_ ?_
    · exact ⟨false, false, false, false, false, false, false, false, false, false, false, false, 0, rfl, rfl, rfl, belowN (Below.refl _ _) 1, by simp, by simp⟩
    · rintro listed a' W' ⟨f0, f1, f2, f3, f4, f5, f6, f7, f8, f9, f10, f11, p, rfl, hn, rfl, hB', hp, h90⟩
      obtain ⟨rfl, rfl, rfl, rfl, rfl, rfl, rfl, rfl, rfl, rfl, rfl, rfl⟩ := all12 hn
      obtain ⟨hp1, hp2⟩ := hp rfl
      refine ⟨by decide +kernel, ?_⟩

      refine hJ _ _ (Met.intro (hK _ _ ?_))
      unfold apAct
      simp only [cond_true]
      (repeat apply Exists.intro)
      exact ⟨⟨p, rfl, rfl, hp1, hp2, hB'⟩, rfl⟩
    · rintro n listed a' W' ⟨f0, f1, f2, f3, f4, f5, f6, f7, f8, f9, f10, f11, p, rfl, hn, rfl, hB', hp, h90⟩
      have hne : (!f0).toNat + (!f1).toNat + (!f2).toNat + (!f3).toNat + (!f4).toNat + (!f5).toNat + (!f6).toNat + (!f7).toNat + (!f8).toNat + (!f9).toNat + (!f10).toNat + (!f11).toNat ≠ 0 := by omega
      clear hn hB' hp h90
      revert f0 f1 f2 f3 f4 f5 f6 f7 f8 f9 f10 f11
      decide +kernel
    · rintro n listed a' W' ⟨f0, f1, f2, f3, f4, f5, f6, f7, f8, f9, f10, f11, p, rfl, hn, rfl, hB', hp, h90⟩ i hi
      rw [mem_ready] at hi
      obtain ⟨hu, o, ho, ha⟩ := hi
      have hi8 : i < 12 := (Array.getElem?_eq_some_iff.1 ho).1
      have hS := hB'.size
      rcases (by omega : i = 0 ∨ i = 1 ∨ i = 2 ∨ i = 3 ∨ i = 4 ∨ i = 5 ∨ i = 6 ∨ i = 7 ∨ i = 8 ∨ i = 9 ∨ i = 10 ∨ i = 11) with rfl | rfl | rfl | rfl | rfl | rfl | rfl | rfl | rfl | rfl | rfl | rfl
      · have ho' := ho
        simp at hu ho
        subst hu ho
        refine .inl ?_
        unfold apAct Oper.wp
        go_simp
        exact ⟨true, f1, f2, f3, f4, f5, f6, f7, f8, f9, f10, f11, p, rfl, by simp only [Bool.not_false, Bool.not_true, Bool.toNat_true, Bool.toNat_false] at hn ⊢; omega, rfl, hB', hp, h90⟩
      · have ho' := ho
        simp at hu ho
        subst hu ho
        obtain rfl : f0 = true := by simp [Region.binds] at ha; first | exact ha | exact ha.1 | exact ha.2 | (simp_all)
        have k0 := (hB'.cell (p := ⟨w.heap.size, 0, none⟩) (by exact l2)).trans y0
        have k1 := (hB'.cell (p := ⟨w.heap.size, 1, none⟩) (by exact l2)).trans y1
        have k2 := (hB'.cell (p := ⟨w.heap.size, 2, none⟩) (by exact l2)).trans y2
        have k3 := (hB'.cell (p := ⟨w.heap.size, 3, none⟩) (by exact l2)).trans y3
        refine .inl ?_
        unfold apAct Oper.wp
        go_simp
        exact ⟨true, true, f2, f3, f4, f5, f6, f7, f8, f9, f10, f11, p, rfl, by simp only [Bool.not_false, Bool.not_true, Bool.toNat_true, Bool.toNat_false] at hn ⊢; omega, rfl, hB', hp, h90⟩
      · have ho' := ho
        simp at hu ho
        subst hu ho
        obtain rfl : f1 = true := by simp [Region.binds] at ha; first | exact ha | exact ha.1 | exact ha.2 | (simp_all)
        refine .inl ?_
        unfold apAct Oper.wp
        go_simp
        exact ⟨f0, true, true, f3, f4, f5, f6, f7, f8, f9, f10, f11, p, rfl, by simp only [Bool.not_false, Bool.not_true, Bool.toNat_true, Bool.toNat_false] at hn ⊢; omega, rfl, hB', hp, h90⟩
      · have ho' := ho
        simp at hu ho
        subst hu ho
        have k0 := (hB'.cell (p := ⟨w.heap.size, 0, none⟩) (by exact l2)).trans y0
        have k1 := (hB'.cell (p := ⟨w.heap.size, 1, none⟩) (by exact l2)).trans y1
        have k2 := (hB'.cell (p := ⟨w.heap.size, 2, none⟩) (by exact l2)).trans y2
        have k3 := (hB'.cell (p := ⟨w.heap.size, 3, none⟩) (by exact l2)).trans y3
        refine .inl ?_
        unfold apAct Oper.wp
        go_simp
        exact ⟨f0, f1, f2, true, f4, f5, f6, f7, f8, f9, f10, f11, p, rfl, by simp only [Bool.not_false, Bool.not_true, Bool.toNat_true, Bool.toNat_false] at hn ⊢; omega, rfl, hB', hp, h90⟩
      · have ho' := ho
        simp at hu ho
        subst hu ho
        obtain rfl : f3 = true := by simp [Region.binds] at ha; first | exact ha | exact ha.1 | exact ha.2 | (simp_all)
        refine .inl ?_
        unfold apAct Oper.wp
        go_simp
        refine (HM1.out W' hB').mono ?_
        rintro e w1 ⟨rfl, hb⟩
        exact ⟨f0, f1, f2, true, true, f5, f6, f7, f8, f9, f10, f11, p, rfl, by simp only [Bool.not_false, Bool.not_true, Bool.toNat_true, Bool.toNat_false] at hn ⊢; omega, rfl, hB'.trans (hb.mono hS), fun h => ⟨(hp h).1, (hp h).2.below hb (hp h).2.lt⟩, h90⟩
      · have ho' := ho
        simp at hu ho
        subst hu ho
        obtain rfl : f4 = true := by simp [Region.binds] at ha; first | exact ha | exact ha.1 | exact ha.2 | (simp_all)
        refine .inl ?_
        unfold apAct Oper.wp
        go_simp
        exact ⟨f0, f1, f2, f3, true, true, f6, f7, f8, f9, f10, f11, p, rfl, by simp only [Bool.not_false, Bool.not_true, Bool.toNat_true, Bool.toNat_false] at hn ⊢; omega, rfl, hB', hp, h90⟩
      · have ho' := ho
        simp at hu ho
        subst hu ho
        simp [Region.binds] at ha
        obtain rfl : f5 = true := by first | exact ha | exact ha.1 | exact ha.2 | simp_all
        cases ma with
        | false =>
          refine wpOp_skip ho' (by rfl) ?_
          exact ⟨f0, f1, f2, f3, f4, true, true, f7, f8, f9, f10, f11, p, rfl, by simp only [Bool.not_false, Bool.not_true, Bool.toNat_true, Bool.toNat_false] at hn ⊢; omega, rfl, hB', hp, h90⟩
        | true =>
          refine wpOp_do ho' (by rfl) ?_
          unfold apAct Oper.wp
          go_simp
          exact ⟨f0, f1, f2, f3, f4, true, true, f7, f8, f9, f10, f11, p, rfl, by simp only [Bool.not_false, Bool.not_true, Bool.toNat_true, Bool.toNat_false] at hn ⊢; omega, rfl, hB', hp, h90⟩
      · have ho' := ho
        simp at hu ho
        subst hu ho
        simp [Region.binds] at ha
        obtain rfl : f5 = true := by first | exact ha | exact ha.1 | exact ha.2 | simp_all
        obtain rfl : f6 = true := by first | exact ha | exact ha.1 | exact ha.2 | simp_all
        cases ma with
        | false =>
          refine wpOp_skip ho' (by rfl) ?_
          exact ⟨f0, f1, f2, f3, f4, true, true, true, f8, f9, f10, f11, p, rfl, by simp only [Bool.not_false, Bool.not_true, Bool.toNat_true, Bool.toNat_false] at hn ⊢; omega, rfl, hB', hp, h90⟩
        | true =>
          refine wpOp_do ho' (by rfl) ?_
          unfold apAct Oper.wp
          go_simp
          refine (HM2.out W' hB').mono ?_
          rintro e w1 ⟨rfl, hb⟩
          exact ⟨f0, f1, f2, f3, f4, true, true, true, f8, f9, f10, f11, p, rfl, by simp only [Bool.not_false, Bool.not_true, Bool.toNat_true, Bool.toNat_false] at hn ⊢; omega, rfl, hB'.trans (hb.mono hS), fun h => ⟨(hp h).1, (hp h).2.below hb (hp h).2.lt⟩, h90⟩
      · have ho' := ho
        simp at hu ho
        subst hu ho
        simp [Region.binds] at ha
        obtain ⟨rfl, rfl⟩ : f5 = true ∧ f7 = true := by simp_all
        refine .inl ?_
        cases ma with
        | false =>
          cases f6 with
          | false =>
            unfold apAct Oper.wp
            go_simp
            exact ⟨f0, f1, f2, f3, f4, true, false, true, true, f9, f10, f11, p, rfl, by simp only [Bool.not_false, Bool.not_true, Bool.toNat_true, Bool.toNat_false] at hn ⊢; omega, rfl, hB', hp, h90⟩
          | true =>
            unfold apAct Oper.wp
            go_simp
            exact ⟨f0, f1, f2, f3, f4, true, true, true, true, f9, f10, f11, p, rfl, by simp only [Bool.not_false, Bool.not_true, Bool.toNat_true, Bool.toNat_false] at hn ⊢; omega, rfl, hB', hp, h90⟩
        | true =>
          unfold apAct Oper.wp
          go_simp
          exact ⟨f0, f1, f2, f3, f4, true, f6, true, true, f9, f10, f11, p, rfl, by simp only [Bool.not_false, Bool.not_true, Bool.toNat_true, Bool.toNat_false] at hn ⊢; omega, rfl, hB', hp, h90⟩
      · have ho' := ho
        simp at hu ho
        subst hu ho
        have e6 := h90 rfl
        subst e6
        refine .inl ?_
        unfold apAct Oper.wp
        go_simp
        exact ⟨f0, f1, f2, f3, f4, f5, f6, f7, f8, true, false, f11, W'.heap.size, rfl, by simp only [Bool.not_false, Bool.not_true, Bool.toNat_true, Bool.toNat_false] at hn ⊢; omega, rfl, hB'.alloc hS _, fun _ => ⟨hS, Box.new W' [.string ⟨#[]⟩, .string ⟨#[]⟩, .string ⟨#[]⟩, .slice none 0 0] _ _ rfl⟩, by simp⟩
      · have ho' := ho
        simp at hu ho
        subst hu ho
        simp [Region.binds] at ha
        obtain ⟨rfl, rfl, rfl⟩ : f9 = true ∧ f2 = true ∧ f7 = true := by simp_all
        clear ha
        obtain ⟨hp1, hp2⟩ := hp rfl
        have z0 := hp2.cell 0 _ rfl
        have z1 := hp2.cell 1 _ rfl
        have z2 := hp2.cell 2 _ rfl
        have z3 := hp2.cell 3 _ rfl
        have u0 := hp2.free 0
        have u1 := hp2.free 1
        have u2 := hp2.free 2
        have u3 := hp2.free 3
        have pl := hp2.lt
        refine .inl ?_
        unfold apAct Oper.wp
        go_simp
        exact ⟨f0, f1, true, f3, f4, f5, f6, true, f8, true, true, f11, p, rfl, by simp only [Bool.not_false, Bool.not_true, Bool.toNat_true, Bool.toNat_false] at hn ⊢; omega, rfl, (((hB'.setCell (by exact hp1) _).setCell (by exact hp1) _).setCell (by exact hp1) _).setCell (by exact hp1) _, fun _ => ⟨hp1, (((hp2.set 0 _).set 1 _).set 2 _).set 3 _⟩, by simp⟩
      · have ho' := ho
        simp at hu ho
        subst hu ho
        obtain rfl : f8 = true := by simp [Region.binds] at ha; first | exact ha | exact ha.1 | exact ha.2 | (simp_all)
        refine .inl ?_
        unfold apAct Oper.wp
        go_simp
        exact ⟨f0, f1, f2, f3, f4, f5, f6, f7, true, f9, f10, true, p, rfl, by simp only [Bool.not_false, Bool.not_true, Bool.toNat_true, Bool.toNat_false] at hn ⊢; omega, rfl, hB', hp, h90⟩
  case rest =>
    obtain ⟨N, rfl, rfl, hN, hx6, hb⟩ := hcut
    have HX6 := Lib.hid hx6
    have HX2c := Lib.hid (HX2.out.below hb HX2.out.lt)
    have HX4c := Lib.hid (HX4.out.below hb HX4.out.lt)
    have HBC := Lib.hid hb
    have hNl : N < wc.heap.size := hx6.lt
    have hWc := hb.size
    have hW4 : w.heap.size + 1 < W.heap.size := HX4.out.lt
    clear y0 y1 y2 y3 hx6 hb HM1 HM2
    obtain ⟨r, hr⟩ : ∃ r, r = (lockMay a && mayE l) := ⟨_, rfl⟩
    have HR := Lib.hid hr.symm
    rw [← hr]
    clear hr
    cases r with
    | false =>
      have HE : Hid (applyR a l = none) := by show _ = _; unfold applyR; rw [HR.out]; rfl
      go_wp2_with ((with_reducible show wpList _ _ _ (Oper.mk none (Op.store 26 (.tmp 4) (.tmp 28)) _ _ _ _ :: _) _ _); refine wpList_store_box rfl 26 (.tmp 4) (.tmp 28) rfl (w.heap.size + 1) [.string ⟨#[]⟩, .string ⟨#[]⟩, .string ⟨#[]⟩, .slice none 0 0] [.string ⟨#[]⟩, .string ⟨#[]⟩, .string ⟨#[]⟩, .slice none 0 0] rfl rfl HX4c.out rfl size_lock (by simp [Value.oneCell']) ?_; intro W9 v9 hg9; have z0 := v9.cell 0 _ rfl; have z1 := v9.cell 1 _ rfl; have z2 := v9.cell 2 _ rfl; have z3 := v9.cell 3 _ rfl; have HG9 := Lib.hid ((HBW.out.trans (HBC.out.mono hs)).trans ((below_grown hg9 (by have := HX4c.out.lt; omega)).mono (by omega))); clear hg9 v9)
      refine bodyPost_ret (v := .tuple #[.agg #[.string ⟨#[]⟩, .string ⟨#[]⟩, .string ⟨#[]⟩, .slice none 0 0], .int .i64 1]) (by simp [results, Try.results14, go_sem, z0, z1, z2, z3]) rfl ?_
      rw [HE.out]
      exact ApplyNew.no HG9.out
    | true =>
    have HMA : Hid (lockMay a = true) := by have h := HR.out; rw [Bool.and_eq_true] at h; exact h.1
    have HMB : Hid (mayE l = true) := by have h := HR.out; rw [Bool.and_eq_true] at h; exact h.2
    have hmm := @run_makeMap Try.prog
    go_upto_region 5 with fail
    refine wp_world ?_
    intro V hV
    have hM : MapIsE V wc.heap.size [] 0 := by rw [hV]; exact heap_alloc_new wc _
    have hbV : Below wc.heap.size wc V := by rw [hV]; exact (Below.refl _ _).alloc (Nat.le_refl _) _
    clear hV hmm
    have HMV := Lib.hid hM
    have HX6V := Lib.hid (HX6.out.below hbV hNl)
    have HBV := Lib.hid (HBC.out.trans (hbV.mono hWc))
    have hMl : wc.heap.size < V.heap.size := hM.lt
    have sV := HBV.out.size
    clear hM hbV HX2c HX4c HX6 HBC
    generalize wc.heap.size = M at *
    go_wp2_with fail
    go_loopw [32] (fun iv wr => ∃ (i : Nat) (v : Value), i ≤ l.length ∧ iv = .int .i64 i ∧ Box wr N [.string a.root.group, .string a.root.artifact, .string a.root.version, v] ∧ Owns V.heap.size 44 6 pinC wr v (newsP (l.take i)) ∧ MapIsE wr M (entsE 0 (l.take i)) i ∧ Below W.heap.size W wr ∧ V.heap.size ≤ wr.heap.size ∧ Hid (fitsB a.pins (l.take i) = true)) (fun iv _ => l.length - (intOf iv).toNat)
    case atStart => exact ⟨0, .slice none 0 0, Nat.zero_le _, rfl, HX6V.out, Owns.nil, HMV.out, HBV.out, Nat.le_refl _, rfl⟩
    case round =>
      obtain ⟨wo, rfl⟩ : ∃ wo : World, wo = wr := ⟨_, rfl⟩
      obtain ⟨i, v, hi, rfl, hbx, hown, hmp, hb, hsz, HFI⟩ := hrel
      obtain ⟨vo, vc, rfl⟩ := hown.shape
      have HBX := Lib.hid hbx
      have HOW := Lib.hid hown
      have HMP := Lib.hid hmp
      have HBI := Lib.hid hb
      have HBO := Lib.hid (HBW.out.trans (hb.mono hs))
      have so := HBO.out.size
      have si := hb.size
      have HXA := Lib.hid (HX2.out.below hb HX2.out.lt)
      have HXR := Lib.hid (HX4.out.below hb HX4.out.lt)
      have HNL : Hid ((newsP (l.take i)).length ≤ 500) := by
        have h1 : (newsP (l.take i)).length ≤ (l.take i).length := by unfold newsP; exact List.length_filterMap_le _ _
        have h2 := HL.out
        rw [List.length_take] at h1
        show _ ≤ _; omega
      by_cases hlt : i < l.length
      · have hltI : (i : Int) < (l.length : Int) := by omega
        obtain ⟨g, o, rfl, hg, hc⟩ := (HV.out.below HBO.out).at hlt
        have HRG : Hid (wo.rangeAt g (o + i * 18) (editC l[i])) := fun q u h => hc q u h
        have hx8 : Hid (Box (wo.alloc (.cells #[.string ⟨#[]⟩, .string ⟨#[]⟩, .string ⟨#[]⟩, .string ⟨#[]⟩, .bool false, .bool false, .string ⟨#[]⟩, .string ⟨#[]⟩, .string ⟨#[]⟩, .string ⟨#[]⟩, .string ⟨#[]⟩, .int .i64 0, .string ⟨#[]⟩, .string ⟨#[]⟩, .string ⟨#[]⟩, .string ⟨#[]⟩, .string ⟨#[]⟩, .int .i64 0] 46)) wo.heap.size [.string ⟨#[]⟩, .string ⟨#[]⟩, .string ⟨#[]⟩, .string ⟨#[]⟩, .bool false, .bool false, .string ⟨#[]⟩, .string ⟨#[]⟩, .string ⟨#[]⟩, .string ⟨#[]⟩, .string ⟨#[]⟩, .int .i64 0, .string ⟨#[]⟩, .string ⟨#[]⟩, .string ⟨#[]⟩, .string ⟨#[]⟩, .string ⟨#[]⟩, .int .i64 0]) := Box.new wo _ _ _ rfl
        have HFY : Hid (fitB a.pins l[i] = true → fitsB a.pins (l.take (i + 1)) = true) := fun h => fits_succ hlt HFI.out h
        have HFN : Hid (fitB a.pins l[i] = false → fitsB a.pins l = false) := fun h => fits_no hlt h
        have HNS := Lib.hid (newsP_succ hlt)
        have HIX := Lib.hid (idxE_new HMB.out hlt 0)
        have HENS : Hid (entsE 0 (l.take (i + 1)) = entsE 0 (l.take i) ++ [⟨l[i].key, l[i], i⟩]) := by
          show _ = _
          rw [List.take_succ_eq_append_getElem hlt, entsE_snoc]
          simp only [List.length_take, Nat.zero_add]
          rw [Nat.min_eq_left hi]
        clear hc hb hbx hown hmp
        generalize l[i] = e at *
        generalize newsP (l.take i) = news at *
        generalize entsE 0 (l.take i) = ents at *
        generalize hnn : news.length = nn at *
        have HNN := Lib.hid hnn
        clear hnn
        go_upto_region 8 with (first | ((with_reducible show wpList _ _ _ (Oper.mk _ (Op.load 46 (.tmp 34)) _ _ _ _ :: _) _ _); refine wpList_load_mid rfl 46 (.tmp 34) rfl g (o + i * 18) rfl (editC e) _ HRG.out Try.underlying46 rfl size_edit ?_) | ((with_reducible show wpList _ _ _ (Oper.mk none (Op.store 46 (.tmp 10) (.tmp 35)) _ _ _ _ :: _) _ _); refine wpList_store_box rfl 46 (.tmp 10) (.tmp 35) rfl wo.heap.size [.string ⟨#[]⟩, .string ⟨#[]⟩, .string ⟨#[]⟩, .string ⟨#[]⟩, .bool false, .bool false, .string ⟨#[]⟩, .string ⟨#[]⟩, .string ⟨#[]⟩, .string ⟨#[]⟩, .string ⟨#[]⟩, .int .i64 0, .string ⟨#[]⟩, .string ⟨#[]⟩, .string ⟨#[]⟩, .string ⟨#[]⟩, .string ⟨#[]⟩, .int .i64 0] (editC e) rfl rfl hx8.out rfl size_edit editC_one ?_; intro W5 v0 hg0))
        have X8 := Lib.hid v0
        have HB5 := Lib.hid (((Below.refl _ wo).alloc (Nat.le_refl _) _).trans (below_grown hg0 (by simp) |>.mono (by omega)))
        have s5 := HB5.out.size
        clear hx8 v0 hg0 HRG hg
        obtain ⟨k, had, has, old, new⟩ := e
        obtain ⟨p, sf, hp, hsf, HF1⟩ := lockFind_f a k
        have HFB : Hid (fitB a.pins ⟨k, had, has, old, new⟩ = ((sf == had) && pinEq p old)) := by show _ = _; unfold fitB; rw [hp, hsf]
        have HFF := Lib.hid HF1
        clear hp hsf HF1
        have n0 := X8.out.cell 0 _ rfl
        have n1 := X8.out.cell 1 _ rfl
        have n2 := X8.out.cell 2 _ rfl
        have n3 := X8.out.cell 3 _ rfl
        have HXA5 := HXA.out.below HB5.out HXA.out.lt
        have y0 := HXA5.cell 0 _ rfl
        have y1 := HXA5.cell 1 _ rfl
        have y2 := HXA5.cell 2 _ rfl
        have y3 := HXA5.cell 3 _ rfl
        clear HXA5
        simp only [Act.put]
        go_wp2_with fail
        refine (HFF.out _ W5 (HA.out.below (HBO.out.trans (HB5.out.mono so)))).mono ?_
        rintro e w6 ⟨rfl, hb6⟩
        have X8b := Lib.hid (X8.out.below hb6 X8.out.lt)
        have HB6 := Lib.hid (HB5.out.trans (hb6.mono s5))
        have s6 := HB6.out.size
        clear n0 n1 n2 n3 y0 y1 y2 y3 hb6 HFF
        go_upto_region 9 with fail
        refine wp_world ?_
        intro W7 hW7
        have x9 : Box W7 w6.heap.size [.string p.key.group, .string p.key.artifact, .string p.key.type, .string p.key.classifier, .string p.version, .int .i64 p.scope] := by rw [hW7]; exact Box.new w6 [.string p.key.group, .string p.key.artifact, .string p.key.type, .string p.key.classifier, .string p.version, .int .i64 p.scope] _ _ rfl
        have hb7 : Below w6.heap.size w6 W7 := by rw [hW7]; exact (Below.refl _ _).alloc (Nat.le_refl _) _
        clear hW7
        have X8c := Lib.hid (X8b.out.below hb7 X8b.out.lt)
        have HB7 := Lib.hid (HB6.out.trans (hb7.mono s6))
        have s7 := HB7.out.size
        have n0 := x9.cell 0 _ rfl
        have n1 := x9.cell 1 _ rfl
        have n2 := x9.cell 2 _ rfl
        have n3 := x9.cell 3 _ rfl
        have n4 := x9.cell 4 _ rfl
        have n5 := x9.cell 5 _ rfl
        have m4 := X8c.out.cell 4 _ rfl
        have m6 := X8c.out.cell 6 _ rfl
        have m7 := X8c.out.cell 7 _ rfl
        have m8 := X8c.out.cell 8 _ rfl
        have m9 := X8c.out.cell 9 _ rfl
        have m10 := X8c.out.cell 10 _ rfl
        have m11 := X8c.out.cell 11 _ rfl
        have HXR7 := Lib.hid (HXR.out.below HB7.out HXR.out.lt)
        have HBZ : Hid (Below w.heap.size w W7) := HBO.out.trans (HB7.out.mono so)
        clear x9 hb7 X8 X8b
        by_cases hsh : sf = had
        rotate_left
        · have hs1 : (sf != had) = true := by simpa using hsh
          have hs2 : (sf == had) = false := by simpa using hsh
          have HNO := Lib.hid (HFN.out (by rw [HFB.out, hs2]; rfl))
          clear hsh
          have HE : Hid (applyR a l = none) := by show _ = _; unfold applyR; rw [HNO.out]; simp
          go_wp2_with ((with_reducible show wpList _ _ _ (Oper.mk none (Op.store 26 (.tmp 4) (.tmp 53)) _ _ _ _ :: _) _ _); refine wpList_store_box rfl 26 (.tmp 4) (.tmp 53) rfl (w.heap.size + 1) [.string ⟨#[]⟩, .string ⟨#[]⟩, .string ⟨#[]⟩, .slice none 0 0] [.string ⟨#[]⟩, .string ⟨#[]⟩, .string ⟨#[]⟩, .slice none 0 0] rfl rfl HXR7.out rfl size_lock (by simp [Value.oneCell']) ?_; intro W9 v9 hg9; have z0 := v9.cell 0 _ rfl; have z1 := v9.cell 1 _ rfl; have z2 := v9.cell 2 _ rfl; have z3 := v9.cell 3 _ rfl; have HG9 := Lib.hid (HBZ.out.trans ((below_grown hg9 (by have := HXR7.out.lt; omega)).mono (by omega))); clear hg9 v9)
          refine bodyPost_ret (v := .tuple #[.agg #[.string ⟨#[]⟩, .string ⟨#[]⟩, .string ⟨#[]⟩, .slice none 0 0], .int .i64 1]) (by simp [results, Try.results14, go_sem, z0, z1, z2, z3]) rfl ?_
          rw [HE.out]
          exact ApplyNew.no HG9.out
        · subst hsh
          have hs1 : (sf != sf) = false := by simp
          obtain ⟨d, hd⟩ : ∃ d, d = pinEq p old := ⟨_, rfl⟩
          have hd2 := hd.symm
          have HD := Lib.hid hd2
          clear hd
          cases d with
          | false =>
            have HNO := Lib.hid (HFN.out (by rw [HFB.out, HD.out]; simp))
            have HE : Hid (applyR a l = none) := by show _ = _; unfold applyR; rw [HNO.out]; simp
            go_wp2_with ((with_reducible show wpList _ _ _ (Oper.mk none (Op.store 26 (.tmp 4) (.tmp 53)) _ _ _ _ :: _) _ _); refine wpList_store_box rfl 26 (.tmp 4) (.tmp 53) rfl (w.heap.size + 1) [.string ⟨#[]⟩, .string ⟨#[]⟩, .string ⟨#[]⟩, .slice none 0 0] [.string ⟨#[]⟩, .string ⟨#[]⟩, .string ⟨#[]⟩, .slice none 0 0] rfl rfl HXR7.out rfl size_lock (by simp [Value.oneCell']) ?_; intro W9 v9 hg9; have z0 := v9.cell 0 _ rfl; have z1 := v9.cell 1 _ rfl; have z2 := v9.cell 2 _ rfl; have z3 := v9.cell 3 _ rfl; have HG9 := Lib.hid (HBZ.out.trans ((below_grown hg9 (by have := HXR7.out.lt; omega)).mono (by omega))); clear hg9 v9)
            refine bodyPost_ret (v := .tuple #[.agg #[.string ⟨#[]⟩, .string ⟨#[]⟩, .string ⟨#[]⟩, .slice none 0 0], .int .i64 1]) (by simp [results, Try.results14, go_sem, z0, z1, z2, z3]) rfl ?_
            rw [HE.out]
            exact ApplyNew.no HG9.out
          | true =>
            have HFO := Lib.hid (HFY.out (by rw [HFB.out, HD.out]; simp))
            have k0 := X8c.out.cell 0 _ rfl
            have k1 := X8c.out.cell 1 _ rfl
            have k2 := X8c.out.cell 2 _ rfl
            have k3 := X8c.out.cell 3 _ rfl
            have HM7 := Lib.hid (HMP.out.below HB7.out HMP.out.lt)
            have HR7 := Lib.hid (run_update_keyE W7 M ents i k ⟨k, sf, has, old, new⟩ HM7.out HIX.out)
            go_upto_region 12 with (first | ((with_reducible show wpList _ _ _ (Oper.mk _ (Op.load 46 (.tmp 10)) _ _ _ _ :: _) _ _); refine wpList_load_box rfl 46 (.tmp 10) rfl wo.heap.size (editC ⟨k, sf, has, old, new⟩) rfl X8c.out Try.underlying46 rfl size_edit ?_) | ((with_reducible show wpList _ _ _ (Oper.mk none (Op.mapUpdate 64 (.tmp 54) (.tmp 56) (.tmp 57)) _ _ _ _ :: _) _ _); refine wpList_update rfl 64 (.tmp 54) (.tmp 56) (.tmp 57) rfl (.map (some M)) (.agg (keyC k).toArray) (.agg (editC ⟨k, sf, has, old, new⟩).toArray) rfl rfl rfl HR7.out ?_))
            clear n0 n1 n2 n3 n4 n5 m4 m6 m7 m8 m9 m10 m11 k0 k1 k2 k3 hd2 hs1
            simp only [Act.put]
            refine wp_world ?_
            intro W8 hW8
            have hg8 : W7.grownBy W8 (some M) := by rw [hW8]; exact setMapE_grown _ _ _ _
            have HM8 : Hid (MapIsE W8 M (entsE 0 (l.take (i + 1))) (i + 1)) := by show MapIsE _ _ _ _; rw [hW8, HENS.out]; exact setMapE_is HM7.out
            clear hW8
            have HX8d := Lib.hid (X8c.out.grownB hg8 (by omega))
            have HXN := Lib.hid ((HBX.out.below HB7.out HBX.out.lt).grownB hg8 (by omega))
            have HO8 := Lib.hid ((HOW.out.below HB7.out).keptR hg8 hMl)
            have HB8 : Hid (Below W.heap.size W W8) := HBI.out.trans ((HB7.out.mono si).trans ((below_grown hg8 (by omega)).mono (by omega)))
            have s8 := hg8.size
            have q5 := HX8d.out.cell 5 _ rfl
            clear hg8 HENS
            cases has with
            | false =>
              have HNF : Hid (newsP (l.take (i + 1)) = news) := by show _ = _; rw [HNS.out]; simp
              go_wp2
              go_roundw
              case rel => exact ⟨i + 1, .slice vo nn vc, hlt, by go_num, HXN.out, by rw [HNF.out]; exact HO8.out, HM8.out, HB8.out, by omega, HFO⟩
              case measure => simp [intOf]; omega
            | true =>
              have HNF : Hid (newsP (l.take (i + 1)) = news ++ [new]) := by show _ = _; rw [HNS.out]; simp
              have HLT := Lib.hid (pinLit W8 new W8.heap.size rfl)
              have n12 := HX8d.out.cell 12 _ rfl
              have n13 := HX8d.out.cell 13 _ rfl
              have n14 := HX8d.out.cell 14 _ rfl
              have n15 := HX8d.out.cell 15 _ rfl
              have n16 := HX8d.out.cell 16 _ rfl
              have n17 := HX8d.out.cell 17 _ rfl
              have c3 := HXN.out.cell 3 _ rfl
              have l6 := HXN.out.lt
              have hV8 : V.heap.size ≤ W8.heap.size := by omega
              go_wp2_with (at_builtin; refine wpList_append_slice _ rfl _ _ 24 rfl V.heap.size 44 Try.underlying24 info_pinE rfl (by decide) pinC_len (.slice vo nn vc) news rfl (HO8.out.alloc _) _ [new] rfl HLT.out (fun _ _ => pinC_one) (by have h1 := HNL.out; have h2 := HNN.out; simp only [List.length_cons, List.length_nil]; omega) (by decide) (by simp; omega) ?_; intro v9 w9 hown9 hgrow9 hloc9; obtain ⟨ro, rc, rfl⟩ := hown9.shape; have b9 := (HXN.out.alloc _).grown hgrow9 (own_ne HO8.out (by omega)); have c9 := b9.cell 3 _ rfl; have f9 := b9.free 3; have l9 := b9.lt; have HB9x := Lib.hid b9; have HO9 : Hid (Owns V.heap.size 44 6 pinC w9 (.slice ro (news.length + 1) rc) (news ++ [new])) := (by have h := hown9; simp only [List.length_append, List.length_cons, List.length_nil, Nat.zero_add] at h; exact h); have HM9 := Lib.hid ((HM8.out.below ((Below.refl _ _).alloc (Nat.le_refl _) _) HM8.out.lt).grown hgrow9 (own_ne HO8.out (by omega))); have HG9 := Lib.hid (own_below ((Below.refl V.heap.size W8).alloc hV8 _) (HO8.out.alloc _) hgrow9 (by simp; omega)); clear hown9 hgrow9 hloc9 b9)
              go_roundw
              case rel => exact ⟨i + 1, _, hlt, by go_num, HB9x.out.set 3 _, by rw [HNF.out]; exact HO9.out.keptR (setCell_grown w9 N 3 _) (by omega), HM9.out.grown (setCell_grown _ _ _ _) (by simp; omega), HB8.out.trans ((HG9.out.mono (by omega)).setCell (p := ⟨N, 3, none⟩) (by exact hN) _), Nat.le_trans hV8 ((HG9.out.mono (by omega : W.heap.size ≤ V.heap.size)).setCell (p := ⟨N, 3, none⟩) (by exact hN) _).size, HFO⟩
              case measure => simp [intOf]; omega
      · obtain rfl : i = l.length := by omega
        have HFIT : Hid (fitsB a.pins l = true) := by have h := HFI.out; rwa [List.take_length] at h
        have HMP2 : Hid (MapIsE wo M (entsE 0 l) l.length) := by have h := hmp; rwa [List.take_length] at h
        have HOW2 : Hid (Owns V.heap.size 44 6 pinC wo (.slice vo (newsP (l.take l.length)).length vc) (newsP l)) := by
          have h := hown
          simp only [List.take_length] at h ⊢
          exact h
        have HNL2 : Hid ((newsP l).length ≤ l.length) := by show _ ≤ _; unfold newsP; exact List.length_filterMap_le _ _
        have HBXi := HBI
        have y3 := HXA.out.cell 3 _ rfl
        clear hlt hbx hown hmp hb HMP HOW HFI
        generalize (newsP (l.take l.length)).length = nv0 at *
        go_wp2_with fail
        clear y3
        go_loopw [71] (fun jv wk => ∃ (j : Nat) (v : Value), j ≤ a.pins.length ∧ jv = .int .i64 j ∧ Box wk N [.string a.root.group, .string a.root.artifact, .string a.root.version, v] ∧ Owns V.heap.size 44 6 pinC wk v (newsP l ++ leftP (a.pins.take j) l) ∧ MapIsE wk M (entsE 0 l) l.length ∧ Below W.heap.size W wk ∧ V.heap.size ≤ wk.heap.size) (fun jv _ => a.pins.length - (intOf jv).toNat)
        case atStart => exact ⟨0, _, Nat.zero_le _, rfl, HBX.out, by (have h := HOW2.out; rw [show newsP l ++ leftP (a.pins.take 0) l = newsP l by simp [leftP]]; exact h), HMP2.out, HBI.out, hsz⟩
        case round =>
          obtain ⟨wk, rfl⟩ : ∃ wk : World, wk = wr := ⟨_, rfl⟩
          obtain ⟨j, v, hj, rfl, hbx, hown, hmp, hb, hsk⟩ := hrel
          obtain ⟨qo, qc, rfl⟩ := hown.shape
          have HBK := Lib.hid hbx
          have HOK := Lib.hid hown
          have HMK := Lib.hid hmp
          have HBJ := Lib.hid hb
          have HBP := Lib.hid (HBW.out.trans (hb.mono hs))
          have sj := hb.size
          have HXRk := Lib.hid (HX4.out.below hb HX4.out.lt)
          by_cases hjl : j < a.pins.length
          · have hjI : (j : Int) < (a.pins.length : Int) := by omega
            obtain ⟨g, o, rfl, hg, hc⟩ := (HA.out.below HBP.out).pinAtF hjl
            have HLS := Lib.hid (leftP_succ (l := l) hjl)
            have HLN : Hid ((newsP l ++ leftP (a.pins.take j) l).length ≤ 500) := by
              have h1 : (leftP (a.pins.take j) l).length ≤ (a.pins.take j).length := by unfold leftP; exact List.length_filter_le _ _
              have h2 := HL.out
              have h3 := HNL2.out
              rw [List.length_take] at h1
              show _ ≤ _
              rw [List.length_append]; omega
            have c0 := hc 0 _ rfl
            have c1 := hc 1 _ rfl
            have c2 := hc 2 _ rfl
            have c3 := hc 3 _ rfl
            have c4 := hc 4 _ rfl
            have c5 := hc 5 _ rfl
            rw [Nat.add_zero] at c0
            have HIE := Lib.hid (idxE_ents l 0 a.pins[j].key)
            clear hc hb hbx hown hmp
            generalize a.pins[j] = q at *
            generalize hrr : newsP l ++ leftP (a.pins.take j) l = rows at *
            have HRR := Lib.hid hrr
            clear hrr
            generalize hnn : rows.length = nn at *
            have HNN := Lib.hid hnn
            clear hnn
            go_upto_region 18 with fail
            refine wp_world ?_
            intro W5 hW5
            have x14 : Box W5 wk.heap.size [.string q.key.group, .string q.key.artifact, .string q.key.type, .string q.key.classifier, .string q.version, .int .i64 q.scope] := by rw [hW5]; exact Box.new wk [.string q.key.group, .string q.key.artifact, .string q.key.type, .string q.key.classifier, .string q.version, .int .i64 q.scope] _ _ rfl
            have hb5 : Below wk.heap.size wk W5 := by rw [hW5]; exact (Below.refl _ _).alloc (Nat.le_refl _) _
            clear hW5 c0 c1 c2 c3 c4 c5
            have HX14 := Lib.hid x14
            have HB5 := Lib.hid hb5
            have s5 := hb5.size
            have hM5 := HMK.out.below hb5 HMK.out.lt
            have HM5 := Lib.hid hM5
            have n0 := x14.cell 0 _ rfl
            have n1 := x14.cell 1 _ rfl
            have n2 := x14.cell 2 _ rfl
            have n3 := x14.cell 3 _ rfl
            have hlk : (Instr.lookup 64 (.map (some M)) (.agg #[.string q.key.group, .string q.key.artifact, .string q.key.type, .string q.key.classifier]) true).run Try.prog W5 = .ok (.tuple #[.agg (editC (valE (entsE 0 l) q.key)).toArray, .bool (idxE (entsE 0 l) q.key).isSome]) W5 := run_lookup_keyE W5 M (entsE 0 l) l.length q.key hM5
            have hx15 : Hid (Box (W5.alloc (.cells #[.string ⟨#[]⟩, .string ⟨#[]⟩, .string ⟨#[]⟩, .string ⟨#[]⟩, .bool false, .bool false, .string ⟨#[]⟩, .string ⟨#[]⟩, .string ⟨#[]⟩, .string ⟨#[]⟩, .string ⟨#[]⟩, .int .i64 0, .string ⟨#[]⟩, .string ⟨#[]⟩, .string ⟨#[]⟩, .string ⟨#[]⟩, .string ⟨#[]⟩, .int .i64 0] 46)) W5.heap.size [.string ⟨#[]⟩, .string ⟨#[]⟩, .string ⟨#[]⟩, .string ⟨#[]⟩, .bool false, .bool false, .string ⟨#[]⟩, .string ⟨#[]⟩, .string ⟨#[]⟩, .string ⟨#[]⟩, .string ⟨#[]⟩, .int .i64 0, .string ⟨#[]⟩, .string ⟨#[]⟩, .string ⟨#[]⟩, .string ⟨#[]⟩, .string ⟨#[]⟩, .int .i64 0]) := Box.new W5 _ _ _ rfl
            clear x14 hb5 hM5
            generalize valE (entsE 0 l) q.key = ve at *
            generalize (idxE (entsE 0 l) q.key).isSome = tb at *
            go_upto_region 19 with (first | ((with_reducible show wpList _ _ _ (Oper.mk none (Op.store 46 (.tmp 15) (.tmp 80)) _ _ _ _ :: _) _ _); refine wpList_store_box rfl 46 (.tmp 15) (.tmp 80) rfl W5.heap.size [.string ⟨#[]⟩, .string ⟨#[]⟩, .string ⟨#[]⟩, .string ⟨#[]⟩, .bool false, .bool false, .string ⟨#[]⟩, .string ⟨#[]⟩, .string ⟨#[]⟩, .string ⟨#[]⟩, .string ⟨#[]⟩, .int .i64 0, .string ⟨#[]⟩, .string ⟨#[]⟩, .string ⟨#[]⟩, .string ⟨#[]⟩, .string ⟨#[]⟩, .int .i64 0] (editC ve) rfl rfl hx15.out rfl size_edit editC_one ?_; intro W6 v0 hg0))
            have HB6 := Lib.hid (((Below.refl _ W5).alloc (Nat.le_refl _) _).trans (below_grown hg0 (by simp) |>.mono (by omega)))
            have HX14b := Lib.hid (HX14.out.below HB6.out HX14.out.lt)
            have HB56 := Lib.hid (HB5.out.trans (HB6.out.mono s5))
            have s6 := HB56.out.size
            have HBN := Lib.hid (HBK.out.below HB56.out HBK.out.lt)
            have HON := Lib.hid (HOK.out.below HB56.out)
            have HMN := Lib.hid (HMK.out.below HB56.out HMK.out.lt)
            have HBQ : Hid (Below W.heap.size W W6) := HBJ.out.trans (HB56.out.mono sj)
            clear v0 hg0 hx15 hlk n0 n1 n2 n3 HM5
            cases tb with
            | true =>
              have HLF : Hid (newsP l ++ leftP (a.pins.take (j + 1)) l = rows) := by show _ = _; rw [HLS.out, ← HIE.out, if_pos rfl, List.append_nil]; exact HRR.out
              go_wp2
              go_roundw
              case rel => exact ⟨j + 1, .slice qo nn qc, hjl, by go_num, HBN.out, by rw [HLF.out]; exact HON.out, HMN.out, HBQ.out, by omega⟩
              case measure => simp [intOf]; omega
            | false =>
              have HLF : Hid (newsP l ++ leftP (a.pins.take (j + 1)) l = rows ++ [q]) := by show _ = _; rw [HLS.out, ← HIE.out, if_neg (by simp), ← List.append_assoc, HRR.out]
              have HLT := Lib.hid (pinLit W6 q W6.heap.size rfl)
              have n0 := HX14b.out.cell 0 _ rfl
              have n1 := HX14b.out.cell 1 _ rfl
              have n2 := HX14b.out.cell 2 _ rfl
              have n3 := HX14b.out.cell 3 _ rfl
              have n4 := HX14b.out.cell 4 _ rfl
              have n5 := HX14b.out.cell 5 _ rfl
              have c3 := HBN.out.cell 3 _ rfl
              have l6 := HBN.out.lt
              have hV6 : V.heap.size ≤ W6.heap.size := by omega
              go_wp2_with (at_builtin; refine wpList_append_slice _ rfl _ _ 24 rfl V.heap.size 44 Try.underlying24 info_pinE rfl (by decide) pinC_len (.slice qo nn qc) rows rfl (HON.out.alloc _) _ [q] rfl HLT.out (fun _ _ => pinC_one) (by have h1 := HLN.out; have h2 := HNN.out; simp only [List.length_cons, List.length_nil]; omega) (by decide) (by simp; omega) ?_; intro v9 w9 hown9 hgrow9 hloc9; obtain ⟨ro, rc, rfl⟩ := hown9.shape; have b9 := (HBN.out.alloc _).grown hgrow9 (own_ne HON.out (by omega)); have c9 := b9.cell 3 _ rfl; have f9 := b9.free 3; have l9 := b9.lt; have HB9x := Lib.hid b9; have HO9 : Hid (Owns V.heap.size 44 6 pinC w9 (.slice ro (rows.length + 1) rc) (rows ++ [q])) := (by have h := hown9; simp only [List.length_append, List.length_cons, List.length_nil, Nat.zero_add] at h; exact h); have HM9 := Lib.hid ((HMN.out.below ((Below.refl _ _).alloc (Nat.le_refl _) _) HMN.out.lt).grown hgrow9 (own_ne HON.out (by omega))); have HG9 := Lib.hid (own_below ((Below.refl V.heap.size W6).alloc hV6 _) (HON.out.alloc _) hgrow9 (by simp; omega)); clear hown9 hgrow9 hloc9 b9)
              go_roundw
              case rel => exact ⟨j + 1, _, hjl, by go_num, HB9x.out.set 3 _, by rw [HLF.out]; exact HO9.out.keptR (setCell_grown w9 N 3 _) (by omega), HM9.out.grown (setCell_grown _ _ _ _) (by simp; omega), HBQ.out.trans ((HG9.out.mono (by omega)).setCell (p := ⟨N, 3, none⟩) (by exact hN) _), Nat.le_trans hV6 ((HG9.out.mono (by omega : W.heap.size ≤ V.heap.size)).setCell (p := ⟨N, 3, none⟩) (by exact hN) _).size⟩
              case measure => simp [intOf]; omega
          · obtain rfl : j = a.pins.length := by omega
            have HOF : Hid (Owns V.heap.size 44 6 pinC wk (.slice qo (newsP l ++ leftP (a.pins.take a.pins.length) l).length qc) (newsP l ++ leftP a.pins l)) := by
              have h := hown
              simp only [List.take_length] at h ⊢
              exact h
            have HLF : Hid ((newsP l ++ leftP a.pins l).length ≤ 500) := by
              have h1 : (leftP a.pins l).length ≤ a.pins.length := by unfold leftP; exact List.length_filter_le _ _
              have h2 := HL.out
              have h3 := HNL2.out
              show _ ≤ _
              rw [List.length_append]; omega
            clear hjl hbx hown hmp hb HMK HOK
            generalize (newsP l ++ leftP (a.pins.take a.pins.length) l).length = nr at *
            have c3 := HBK.out.cell 3 _ rfl
            go_wp2_with fail
            refine (sortPins_any _ _ wk V.heap.size HOF.out (by have h := HLF.out; omega)).mono ?_
            rintro e w10 ⟨rfl, s, hpm, hpw, hss, hgr⟩
            have HAP := Lib.hid (apply_plain HMA.out HMB.out hpm hpw)
            have hb10 : Below V.heap.size wk w10 := own_below (Below.refl _ _) HOF.out hgr hsk
            have HB10 := Lib.hid (HBJ.out.trans (hb10.mono (by omega)))
            have s10 := HB10.out.size
            have HX10 := Lib.hid (HBK.out.grown hgr (own_ne HOF.out (by omega)))
            have HXR10 := Lib.hid (HX4.out.below HB10.out HX4.out.lt)
            have HSO : Hid (SliceOf 6 pinC w10 (.slice qo nr qc) (outL a l).pins) := by rw [← HAP.out]; exact hss
            have HNW : Hid (∀ b o s, qo = some ⟨b, o, s⟩ → w.heap.size ≤ b) := fun b o s e => by have h1 := own_addr HOF.out e; omega
            have HQ : Hid (∀ b o s, qo = some ⟨b, o, s⟩ → b ≠ w.heap.size + 1) := fun b o s e => by have h1 := own_addr HOF.out e; omega
            clear c3 hpm hpw hss hgr hb10 HOF
            have HM3 : Calls Try.prog 23 #[.agg #[.string a.root.group, .string a.root.artifact, .string a.root.version, .slice qo nr qc]] w10 _ := lockMay_any (outL a l) (.slice qo nr qc) w10 HSO.out (outL_sm HSA.out HSL.out)
            have HM3' := Lib.hid HM3
            clear HM3
            have c0 := HX10.out.cell 0 _ rfl
            have c1 := HX10.out.cell 1 _ rfl
            have c2 := HX10.out.cell 2 _ rfl
            have c3 := HX10.out.cell 3 _ rfl
            go_wp2_with fail
            refine HM3'.out.mono ?_
            rintro e w11 ⟨rfl, hb11⟩
            have HB11 : Hid (Below w.heap.size w w11) := HBW.out.trans ((HB10.out.trans (hb11.mono s10)).mono hs)
            have HXR11 := Lib.hid (HXR10.out.below hb11 HXR10.out.lt)
            have HX11 := Lib.hid (HX10.out.below hb11 HX10.out.lt)
            have HO11 := Lib.hid (HSO.out.below hb11)
            clear c0 c1 c2 c3 hb11 HM3'
            have c0 := HX11.out.cell 0 _ rfl
            have c1 := HX11.out.cell 1 _ rfl
            have c2 := HX11.out.cell 2 _ rfl
            have c3 := HX11.out.cell 3 _ rfl
            obtain ⟨mc, hmc⟩ : ∃ m, m = lockMay (outL a l) := ⟨_, rfl⟩
            have HMC := Lib.hid hmc
            rw [← hmc]
            clear hmc
            cases mc with
            | false =>
              have HE : Hid (applyR a l = none) := by show _ = _; unfold applyR; rw [HMA.out, HMB.out, HFIT.out, ← HMC.out]; rfl
              go_wp2_with ((with_reducible show wpList _ _ _ (Oper.mk none (Op.store 26 (.tmp 4) (.tmp 97)) _ _ _ _ :: _) _ _); refine wpList_store_box rfl 26 (.tmp 4) (.tmp 97) rfl (w.heap.size + 1) [.string ⟨#[]⟩, .string ⟨#[]⟩, .string ⟨#[]⟩, .slice none 0 0] [.string ⟨#[]⟩, .string ⟨#[]⟩, .string ⟨#[]⟩, .slice none 0 0] rfl rfl HXR11.out rfl size_lock (by simp [Value.oneCell']) ?_; intro W9 v9 hg9; have z0 := v9.cell 0 _ rfl; have z1 := v9.cell 1 _ rfl; have z2 := v9.cell 2 _ rfl; have z3 := v9.cell 3 _ rfl; have HG9 := Lib.hid (HB11.out.trans ((below_grown hg9 (by have := HXR11.out.lt; omega)).mono (by omega))); clear hg9 v9)
              refine bodyPost_ret (v := .tuple #[.agg #[.string ⟨#[]⟩, .string ⟨#[]⟩, .string ⟨#[]⟩, .slice none 0 0], .int .i64 1]) (by simp [results, Try.results14, go_sem, z0, z1, z2, z3]) rfl ?_
              rw [HE.out]
              exact ApplyNew.no HG9.out
            | true =>
              have HE : Hid (applyR a l = some (outL a l)) := by show _ = _; unfold applyR; rw [HMA.out, HMB.out, HFIT.out, ← HMC.out]; rfl
              go_wp2_with ((with_reducible show wpList _ _ _ (Oper.mk none (Op.store 26 (.tmp 4) (.tmp 98)) _ _ _ _ :: _) _ _); refine wpList_store_box rfl 26 (.tmp 4) (.tmp 98) rfl (w.heap.size + 1) [.string ⟨#[]⟩, .string ⟨#[]⟩, .string ⟨#[]⟩, .slice none 0 0] [.string a.root.group, .string a.root.artifact, .string a.root.version, .slice qo nr qc] rfl rfl HXR11.out rfl size_lock (by simp [Value.oneCell']) ?_; intro W9 v9 hg9; have z0 := v9.cell 0 _ rfl; have z1 := v9.cell 1 _ rfl; have z2 := v9.cell 2 _ rfl; have z3 := v9.cell 3 _ rfl; have HG9 := Lib.hid (HB11.out.trans ((below_grown hg9 (by have := HXR11.out.lt; omega)).mono (by omega))); have HO9 : Hid (SliceOf 6 pinC W9 (.slice qo nr qc) (outL a l).pins) := HO11.out.grownN hg9 HQ.out; clear hg9 v9)
              refine bodyPost_ret (v := .tuple #[.agg #[.string a.root.group, .string a.root.artifact, .string a.root.version, .slice qo nr qc], .int .i64 0]) (by simp [results, Try.results14, go_sem, z0, z1, z2, z3]) rfl ?_
              rw [HE.out]
              obtain rfl := slice_len HO9.out
              exact ⟨qo, qc, rfl, HO9.out, HNW.out, HG9.out⟩

theorem apply_any (a : Lock) (l : List Edit) (av lv : Value) (w : World) (hav : SliceOf 6 pinC w av a.pins) (hlv : SliceOf 18 editC w lv l) (hsa : lockSm a) (hsl : ∀ e ∈ l, editSm e) (hl : a.pins.length + l.length ≤ 500) :
    Calls Try.prog 14 #[.agg (lockC a av).toArray, lv] w (ApplyOut w ((applyR a l).getD noLock) (.int .i64 (errI (applyR a l)))) := (apply_new a l av lv w hav hlv hsa hsl hl).mono fun _ _ h => h.out

end Go.Proofs.Ytmcjpmogjmnfpaa
