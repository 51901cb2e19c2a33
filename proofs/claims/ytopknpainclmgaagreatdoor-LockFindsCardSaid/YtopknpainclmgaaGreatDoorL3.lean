/- Walks: the order of Keys, the program's and the document's; no conditions. -/
import Derived.Test.YtopknpainclmgaaGreatDoorL2
import Derived.Test.YtopknpainclmgaaGreatDoorG1
import Derived.Deep.CutRange
import Derived.Deep.CutBlock
namespace Go.Proofs.YtopknpainclmgaaGreatDoor
open Go Go.RowKit

theorem strCompare_any (a b : S) (w : World) : Calls Tryz.prog 46 #[.string a, .string b] w fun e w' => e = .returned (.int .i64 (cmpS a b)) ∧ w = w' :=
  (Tryz.strings_Compare a b w).mono fun _ _ ⟨h1, h2⟩ => ⟨h1, h2.symm⟩
set_option maxHeartbeats 2000000 in
theorem fields_any (k : Key) (w : World) : Calls Tryz.prog 45 #[.agg #[.string k.group, .string k.artifact, .string k.type, .string k.classifier]] w fun e w' => e = .returned (.agg #[.string k.group, .string k.artifact, .string k.type, .string k.classifier]) ∧ Below w.heap.size w w' := by
  go_enter Tryz.func45, Tryz.ntmps45
  go_wp2
  refine bodyPost_ret (v := .agg #[.string k.group, .string k.artifact, .string k.type, .string k.classifier]) (by simp [results, Tryz.results45, go_sem]) rfl ?_
  exact ⟨rfl, ((Below.refl _ w).alloc (Nat.le_refl _) _).alloc (by simp) _⟩
def zero4 : List Value := [.string ⟨#[]⟩, .string ⟨#[]⟩, .string ⟨#[]⟩, .string ⟨#[]⟩]
/-- The frame while the first region of Compare runs: what has come up so far. -/
def cmpAct (A B : List Value) (b : Nat) (f0 f1 f2 f3 f4 f5 : Bool) (p q : Nat) : Act :=
  ⟨#[.agg A.toArray, .agg B.toArray, .pointer (some ⟨b, 0, none⟩), .pointer (some ⟨b + 1, 0, none⟩), .int .i64 0, cond f4 (.pointer (some ⟨p, 0, none⟩)) undef, cond f5 (.pointer (some ⟨q, 0, none⟩)) undef, undef, undef,
    cond f0 (.agg A.toArray) undef, cond f1 (.agg A.toArray) undef, cond f2 (.agg B.toArray) undef, cond f3 (.agg B.toArray) undef, undef, undef, undef, undef, undef, undef, undef, undef, undef, undef, undef, undef, undef, undef], []⟩
theorem all_true {f0 f1 f2 f3 f4 f5 f6 f7 : Bool} (h : 0 = (!f0).toNat + (!f1).toNat + (!f2).toNat + (!f3).toNat + (!f4).toNat + (!f5).toNat + (!f6).toNat + (!f7).toNat) : true = f0 ∧ true = f1 ∧ true = f2 ∧ true = f3 ∧ true = f4 ∧ true = f5 ∧ true = f6 ∧ true = f7 := by
  refine ⟨?_, ?_, ?_, ?_, ?_, ?_, ?_, ?_⟩
  · cases f0 <;> first | rfl | (simp only [Bool.not_false, Bool.toNat_true] at h; omega)
  · cases f1 <;> first | rfl | (simp only [Bool.not_false, Bool.toNat_true] at h; omega)
  · cases f2 <;> first | rfl | (simp only [Bool.not_false, Bool.toNat_true] at h; omega)
  · cases f3 <;> first | rfl | (simp only [Bool.not_false, Bool.toNat_true] at h; omega)
  · cases f4 <;> first | rfl | (simp only [Bool.not_false, Bool.toNat_true] at h; omega)
  · cases f5 <;> first | rfl | (simp only [Bool.not_false, Bool.toNat_true] at h; omega)
  · cases f6 <;> first | rfl | (simp only [Bool.not_false, Bool.toNat_true] at h; omega)
  · cases f7 <;> first | rfl | (simp only [Bool.not_false, Bool.toNat_true] at h; omega)
def CmpI (A B : List Value) (w W : World) (n : Nat) (listed : Array Bool) (a : Act) (W' : World) : Prop :=
  ∃ (f0 f1 f2 f3 f4 f5 f6 f7 : Bool) (p q : Nat), listed = #[f0, f1, f2, f3, f4, f5, f6, f7] ∧ n = (!f0).toNat + (!f1).toNat + (!f2).toNat + (!f3).toNat + (!f4).toNat + (!f5).toNat + (!f6).toNat + (!f7).toNat ∧
    a = cmpAct A B w.heap.size f0 f1 f2 f3 f4 f5 p q ∧ Below W.heap.size W W' ∧ (f4 = true → W.heap.size ≤ p ∧ Box W' p (cond f6 A zero4)) ∧ (f5 = true → W.heap.size ≤ q ∧ Box W' q (cond f7 B zero4)) ∧ (f4 = true → f5 = true → p ≠ q) ∧ (f4 = false → f6 = false) ∧ (f5 = false → f7 = false)
set_option maxRecDepth 100000 in
set_option maxHeartbeats 4000000 in
theorem compare_any (a b : Key) (w : World) : Calls Tryz.prog 21 #[.agg #[.string a.group, .string a.artifact, .string a.type, .string a.classifier], .agg #[.string b.group, .string b.artifact, .string b.type, .string b.classifier]] w fun e w' => e = .returned (.int .i64 (cmpK a b)) ∧ Below w.heap.size w w' := by
  have HFa := Lib.hid (fun w => fields_any a w)
  have HFb := Lib.hid (fun w => fields_any b w)
  go_enter Tryz.func21, Tryz.ntmps21
  go_upto_region 1 with fail
  refine wp_world ?_
  intro W hW
  have x0 : Box W w.heap.size [.string a.group, .string a.artifact, .string a.type, .string a.classifier] := by rw [hW]; exact (Box.new w _ _ _ rfl).alloc _
  have x1 : Box W (w.heap.size + 1) [.string b.group, .string b.artifact, .string b.type, .string b.classifier] := by rw [hW]; exact Box.new _ _ _ _ (by simp)
  have hB : Below w.heap.size w W := by rw [hW]; exact ((Below.refl _ w).alloc (Nat.le_refl _) _).alloc (by simp) _
  clear hW
  have HB := Lib.hid hB
  have X0 := Lib.hid x0
  have X1 := Lib.hid x1
  have a0 := x0.cell 0 _ rfl
  have a1 := x0.cell 1 _ rfl
  have a2 := x0.cell 2 _ rfl
  have a3 := x0.cell 3 _ rfl
  have b0 := x1.cell 0 _ rfl
  have b1 := x1.cell 1 _ rfl
  have b2 := x1.cell 2 _ rfl
  have b3 := x1.cell 3 _ rfl
  have l0 := x0.lt
  have l1 := x1.lt
  clear hB x0 x1
  go_cut [5, 6] from 9 (fun u v wx => ∃ p q : Nat, u = .pointer (some ⟨p, 0, none⟩) ∧ v = .pointer (some ⟨q, 0, none⟩) ∧ Box wx p [.string a.group, .string a.artifact, .string a.type, .string a.classifier] ∧ Box wx q [.string b.group, .string b.artifact, .string b.type, .string b.classifier] ∧ Below w.heap.size w wx)
  case first =>
    rename_i J K' hJ hK
    refine wp_region_inv (CmpI [.string a.group, .string a.artifact, .string a.type, .string a.classifier] [.string b.group, .string b.artifact, .string b.type, .string b.classifier] w W) (by kernel_rfl) 8 rfl ?_ ?_ ?_ ?_
    · exact ⟨false, false, false, false, false, false, false, false, 0, 0, rfl, rfl, rfl, belowN (Below.refl _ _) 1, by simp, by simp, by simp, by simp, by simp⟩
    · rintro listed a' W' ⟨f0, f1, f2, f3, f4, f5, f6, f7, p, q, rfl, hn, rfl, hB', hp, hq, hpq, h46, h57⟩
      obtain ⟨rfl, rfl, rfl, rfl, rfl, rfl, rfl, rfl⟩ := all_true hn
      obtain ⟨hp1, hp2⟩ := hp rfl
      obtain ⟨hq1, hq2⟩ := hq rfl
      refine ⟨by decide +kernel, ?_⟩
      refine hK _ _ (Met.intro (hJ _ _ ?_))
      unfold cmpAct
      simp only [cond_true]
      (repeat apply Exists.intro)
      exact ⟨⟨p, q, rfl, rfl, hp2, hq2, HB.out.trans (hB'.mono HB.out.size)⟩, rfl⟩
    · rintro n listed a' W' ⟨f0, f1, f2, f3, f4, f5, f6, f7, p, q, rfl, hn, rfl, hB', hp, hq, hpq, h46, h57⟩
      have hne : (!f0).toNat + (!f1).toNat + (!f2).toNat + (!f3).toNat + (!f4).toNat + (!f5).toNat + (!f6).toNat + (!f7).toNat ≠ 0 := by omega
      clear hn hB' hp hq hpq h46 h57
      revert f0 f1 f2 f3 f4 f5 f6 f7
      decide +kernel
    · rintro n listed a' W' ⟨f0, f1, f2, f3, f4, f5, f6, f7, p, q, rfl, hn, rfl, hB', hp, hq, hpq, h46, h57⟩ i hi
      rw [mem_ready] at hi
      obtain ⟨hu, o, ho, ha⟩ := hi
      have hi8 : i < 8 := (Array.getElem?_eq_some_iff.1 ho).1
      have hS := hB'.size
      rcases (by omega : i = 0 ∨ i = 1 ∨ i = 2 ∨ i = 3 ∨ i = 4 ∨ i = 5 ∨ i = 6 ∨ i = 7) with rfl | rfl | rfl | rfl | rfl | rfl | rfl | rfl
      · simp at hu ho
        subst hu ho
        have k0 := (hB'.cell (p := ⟨w.heap.size, 0, none⟩) (by exact l0)).trans a0
        have k1 := (hB'.cell (p := ⟨w.heap.size, 1, none⟩) (by exact l0)).trans a1
        have k2 := (hB'.cell (p := ⟨w.heap.size, 2, none⟩) (by exact l0)).trans a2
        have k3 := (hB'.cell (p := ⟨w.heap.size, 3, none⟩) (by exact l0)).trans a3
        refine .inl ?_
        unfold cmpAct Oper.wp
        go_simp
        exact ⟨true, f1, f2, f3, f4, f5, f6, f7, p, q, rfl, by simp only [Bool.not_false, Bool.not_true, Bool.toNat_true, Bool.toNat_false] at hn ⊢; omega, rfl, hB', hp, hq, hpq, h46, h57⟩
      · simp at hu ho
        subst hu ho
        have e0 : f0 = true := by simp [Region.binds] at ha; first | exact ha | exact ha.1
        subst e0
        refine .inl ?_
        unfold cmpAct Oper.wp
        go_simp
        refine (HFa.out W').mono ?_
        rintro e w1 ⟨rfl, hb⟩
        exact ⟨true, true, f2, f3, f4, f5, f6, f7, p, q, rfl, by simp only [Bool.not_false, Bool.not_true, Bool.toNat_true, Bool.toNat_false] at hn ⊢; omega, rfl, hB'.trans (hb.mono hS), fun h => ⟨(hp h).1, (hp h).2.below hb (hp h).2.lt⟩, fun h => ⟨(hq h).1, (hq h).2.below hb (hq h).2.lt⟩, hpq, h46, h57⟩
      · simp at hu ho
        subst hu ho
        have k0 := (hB'.cell (p := ⟨w.heap.size + 1, 0, none⟩) (by exact l1)).trans b0
        have k1 := (hB'.cell (p := ⟨w.heap.size + 1, 1, none⟩) (by exact l1)).trans b1
        have k2 := (hB'.cell (p := ⟨w.heap.size + 1, 2, none⟩) (by exact l1)).trans b2
        have k3 := (hB'.cell (p := ⟨w.heap.size + 1, 3, none⟩) (by exact l1)).trans b3
        refine .inl ?_
        unfold cmpAct Oper.wp
        go_simp
        exact ⟨f0, f1, true, f3, f4, f5, f6, f7, p, q, rfl, by simp only [Bool.not_false, Bool.not_true, Bool.toNat_true, Bool.toNat_false] at hn ⊢; omega, rfl, hB', hp, hq, hpq, h46, h57⟩
      · simp at hu ho
        subst hu ho
        have e0 : f2 = true := by simp [Region.binds] at ha; first | exact ha | exact ha.1
        subst e0
        refine .inl ?_
        unfold cmpAct Oper.wp
        go_simp
        refine (HFb.out W').mono ?_
        rintro e w1 ⟨rfl, hb⟩
        exact ⟨f0, f1, true, true, f4, f5, f6, f7, p, q, rfl, by simp only [Bool.not_false, Bool.not_true, Bool.toNat_true, Bool.toNat_false] at hn ⊢; omega, rfl, hB'.trans (hb.mono hS), fun h => ⟨(hp h).1, (hp h).2.below hb (hp h).2.lt⟩, fun h => ⟨(hq h).1, (hq h).2.below hb (hq h).2.lt⟩, hpq, h46, h57⟩
      · simp at hu ho
        subst hu ho
        have e6 := h46 rfl
        subst e6
        refine .inl ?_
        unfold cmpAct Oper.wp
        go_simp
        exact ⟨f0, f1, f2, f3, true, f5, false, f7, W'.heap.size, q, rfl, by simp only [Bool.not_false, Bool.not_true, Bool.toNat_true, Bool.toNat_false] at hn ⊢; omega, rfl, hB'.alloc hS _, fun _ => ⟨hS, Box.new W' zero4 _ _ rfl⟩, fun h => ⟨(hq h).1, (hq h).2.alloc _⟩, fun _ h => by have := (hq h).2.lt; omega, by simp, h57⟩
      · simp at hu ho
        subst hu ho
        have e7 := h57 rfl
        subst e7
        refine .inl ?_
        unfold cmpAct Oper.wp
        go_simp
        exact ⟨f0, f1, f2, f3, f4, true, f6, false, p, W'.heap.size, rfl, by simp only [Bool.not_false, Bool.not_true, Bool.toNat_true, Bool.toNat_false] at hn ⊢; omega, rfl, hB'.alloc hS _, fun h => ⟨(hp h).1, (hp h).2.alloc _⟩, fun _ => ⟨hS, Box.new W' zero4 _ _ rfl⟩, fun h _ => by have := (hp h).2.lt; omega, h46, by simp⟩
      · simp at hu ho
        subst hu ho
        simp [Region.binds] at ha
        obtain ⟨rfl, rfl, rfl, rfl, -, -, rfl⟩ := ha
        obtain ⟨hp1, hp2⟩ := hp rfl
        have z0 := hp2.cell 0 _ rfl
        have z1 := hp2.cell 1 _ rfl
        have z2 := hp2.cell 2 _ rfl
        have z3 := hp2.cell 3 _ rfl
        have y0 := hp2.free 0
        have y1 := hp2.free 1
        have y2 := hp2.free 2
        have y3 := hp2.free 3
        have pl := hp2.lt
        refine .inl ?_
        unfold cmpAct Oper.wp
        go_simp
        exact ⟨true, true, f2, true, true, true, true, f7, p, q, rfl, by simp only [Bool.not_false, Bool.not_true, Bool.toNat_true, Bool.toNat_false] at hn ⊢; omega, rfl, (((hB'.setCell (by exact hp1) _).setCell (by exact hp1) _).setCell (by exact hp1) _).setCell (by exact hp1) _, fun _ => ⟨hp1, (((hp2.set 0 _).set 1 _).set 2 _).set 3 _⟩, fun h => ⟨(hq h).1, ((((hq h).2.grownB (setCell_grown _ p 0 _) (Ne.symm (hpq rfl h))).grownB (setCell_grown _ p 1 _) (Ne.symm (hpq rfl h))).grownB (setCell_grown _ p 2 _) (Ne.symm (hpq rfl h))).grownB (setCell_grown _ p 3 _) (Ne.symm (hpq rfl h))⟩, hpq, by simp, h57⟩
      · simp at hu ho
        subst hu ho
        simp [Region.binds] at ha
        obtain ⟨rfl, rfl, rfl, rfl, rfl, rfl, rfl⟩ : f0 = true ∧ f1 = true ∧ f2 = true ∧ f3 = true ∧ f4 = true ∧ f5 = true ∧ f6 = true := by simp_all
        obtain ⟨hq1, hq2⟩ := hq rfl
        have z0 := hq2.cell 0 _ rfl
        have z1 := hq2.cell 1 _ rfl
        have z2 := hq2.cell 2 _ rfl
        have z3 := hq2.cell 3 _ rfl
        have y0 := hq2.free 0
        have y1 := hq2.free 1
        have y2 := hq2.free 2
        have y3 := hq2.free 3
        have pl := hq2.lt
        refine .inl ?_
        unfold cmpAct Oper.wp
        go_simp
        exact ⟨true, true, true, true, true, true, true, true, p, q, rfl, by simp only [Bool.not_false, Bool.not_true, Bool.toNat_true, Bool.toNat_false] at hn ⊢; omega, rfl, (((hB'.setCell (by exact hq1) _).setCell (by exact hq1) _).setCell (by exact hq1) _).setCell (by exact hq1) _, fun h => ⟨(hp h).1, ((((hp h).2.grownB (setCell_grown _ q 0 _) (hpq h rfl)).grownB (setCell_grown _ q 1 _) (hpq h rfl)).grownB (setCell_grown _ q 2 _) (hpq h rfl)).grownB (setCell_grown _ q 3 _) (hpq h rfl)⟩, fun _ => ⟨hq1, (((hq2.set 0 _).set 1 _).set 2 _).set 3 _⟩, hpq, h46, by simp⟩
  case rest =>
    obtain ⟨p, q, rfl, rfl, xp, xq, hB⟩ := hcut
    have HBC := Lib.hid hB
    have XP := Lib.hid xp
    have XQ := Lib.hid xq
    clear hB xp xq a0 a1 a2 a3 b0 b1 b2 b3 l0 l1 HFa HFb X0 X1 HB
    go_wp2
    go_loopw [7, 8, 13] (fun _ _ i wr => ∃ (k n : Nat) (z : Int), k ≤ 4 ∧ z = k ∧ i = .int .i64 z ∧ wr = wc.drewN n ∧ Hid (cmpK a b = cmpL ((fieldsOf a).drop k) ((fieldsOf b).drop k))) (fun _ _ i _ => 4 - (intOf i).toNat)
    case atStart => exact ⟨0, 0, 0, by omega, rfl, rfl, rfl, rfl⟩
    case round =>
      obtain ⟨k, n, z, hk, hz, rfl, hwr, HK⟩ := hrel
      have xp : Box wr p [.string a.group, .string a.artifact, .string a.type, .string a.classifier] := by rw [hwr]; exact XP.out.drewN n
      have xq : Box wr q [.string b.group, .string b.artifact, .string b.type, .string b.classifier] := by rw [hwr]; exact XQ.out.drewN n
      have HW := Lib.hid hwr
      have p0 := xp.cell 0 _ rfl
      have p1 := xp.cell 1 _ rfl
      have p2 := xp.cell 2 _ rfl
      have p3 := xp.cell 3 _ rfl
      have q0 := xq.cell 0 _ rfl
      have q1 := xq.cell 1 _ rfl
      have q2 := xq.cell 2 _ rfl
      have q3 := xq.cell 3 _ rfl
      have pl := xp.lt
      have ql := xq.lt
      clear hwr xp xq
      rcases (by omega : k = 0 ∨ k = 1 ∨ k = 2 ∨ k = 3 ∨ k = 4) with rfl | rfl | rfl | rfl | rfl
      · obtain rfl : z = 0 := hz
        have HS : Hid (∀ j, Calls Tryz.prog 46 #[.string a.group, .string b.group] (wr.drewN j) fun e w'' => e = .returned (.int .i64 (cmpS a.group b.group)) ∧ ∃ m, w'' = wr.drewN m) := fun j => quietS (strCompare_any _ _ _)
        have HN : Hid (cmpL ((fieldsOf a).drop 0) ((fieldsOf b).drop 0) = if cmpS a.group b.group = 0 then cmpL ((fieldsOf a).drop 1) ((fieldsOf b).drop 1) else cmpS a.group b.group) := rfl
        generalize cmpS a.group b.group = c at *
        by_cases hc : c = 0
        · have e0 : (c != 0) = false := by rw [hc]; rfl
          have HC : Hid (cmpK a b = cmpL ((fieldsOf a).drop 1) ((fieldsOf b).drop 1)) := by show _ = _; rw [HK.out, HN.out, if_pos hc]
          clear hc
          go_wp2
          go_quiet ((go_at_call 46; exact HS.out _))
          go_wp2
          go_roundw
          case rel => exact ⟨1, n + nq, 1, by omega, rfl, rfl, by rw [HW.out]; simp, HC⟩
          case measure => simp [intOf]
        · have e0 : (c != 0) = true := by rw [bne_iff_ne]; exact hc
          have HC : Hid (cmpK a b = c) := by show _ = _; rw [HK.out, HN.out, if_neg hc]
          clear hc
          go_wp2
          go_quiet ((go_at_call 46; exact HS.out _))
          go_wp2
          go_ret
          exact ⟨by rw [HC.out]; rfl, by rw [HW.out]; exact belowN (belowN HBC.out _) _⟩
      · obtain rfl : z = 1 := hz
        have HS : Hid (∀ j, Calls Tryz.prog 46 #[.string a.artifact, .string b.artifact] (wr.drewN j) fun e w'' => e = .returned (.int .i64 (cmpS a.artifact b.artifact)) ∧ ∃ m, w'' = wr.drewN m) := fun j => quietS (strCompare_any _ _ _)
        have HN : Hid (cmpL ((fieldsOf a).drop 1) ((fieldsOf b).drop 1) = if cmpS a.artifact b.artifact = 0 then cmpL ((fieldsOf a).drop 2) ((fieldsOf b).drop 2) else cmpS a.artifact b.artifact) := rfl
        generalize cmpS a.artifact b.artifact = c at *
        by_cases hc : c = 0
        · have e0 : (c != 0) = false := by rw [hc]; rfl
          have HC : Hid (cmpK a b = cmpL ((fieldsOf a).drop 2) ((fieldsOf b).drop 2)) := by show _ = _; rw [HK.out, HN.out, if_pos hc]
          clear hc
          go_wp2
          go_quiet ((go_at_call 46; exact HS.out _))
          go_wp2
          go_roundw
          case rel => exact ⟨2, n + nq, 2, by omega, rfl, rfl, by rw [HW.out]; simp, HC⟩
          case measure => simp [intOf]
        · have e0 : (c != 0) = true := by rw [bne_iff_ne]; exact hc
          have HC : Hid (cmpK a b = c) := by show _ = _; rw [HK.out, HN.out, if_neg hc]
          clear hc
          go_wp2
          go_quiet ((go_at_call 46; exact HS.out _))
          go_wp2
          go_ret
          exact ⟨by rw [HC.out]; rfl, by rw [HW.out]; exact belowN (belowN HBC.out _) _⟩
      · obtain rfl : z = 2 := hz
        have HS : Hid (∀ j, Calls Tryz.prog 46 #[.string a.type, .string b.type] (wr.drewN j) fun e w'' => e = .returned (.int .i64 (cmpS a.type b.type)) ∧ ∃ m, w'' = wr.drewN m) := fun j => quietS (strCompare_any _ _ _)
        have HN : Hid (cmpL ((fieldsOf a).drop 2) ((fieldsOf b).drop 2) = if cmpS a.type b.type = 0 then cmpL ((fieldsOf a).drop 3) ((fieldsOf b).drop 3) else cmpS a.type b.type) := rfl
        generalize cmpS a.type b.type = c at *
        by_cases hc : c = 0
        · have e0 : (c != 0) = false := by rw [hc]; rfl
          have HC : Hid (cmpK a b = cmpL ((fieldsOf a).drop 3) ((fieldsOf b).drop 3)) := by show _ = _; rw [HK.out, HN.out, if_pos hc]
          clear hc
          go_wp2
          go_quiet ((go_at_call 46; exact HS.out _))
          go_wp2
          go_roundw
          case rel => exact ⟨3, n + nq, 3, by omega, rfl, rfl, by rw [HW.out]; simp, HC⟩
          case measure => simp [intOf]
        · have e0 : (c != 0) = true := by rw [bne_iff_ne]; exact hc
          have HC : Hid (cmpK a b = c) := by show _ = _; rw [HK.out, HN.out, if_neg hc]
          clear hc
          go_wp2
          go_quiet ((go_at_call 46; exact HS.out _))
          go_wp2
          go_ret
          exact ⟨by rw [HC.out]; rfl, by rw [HW.out]; exact belowN (belowN HBC.out _) _⟩
      · obtain rfl : z = 3 := hz
        have HS : Hid (∀ j, Calls Tryz.prog 46 #[.string a.classifier, .string b.classifier] (wr.drewN j) fun e w'' => e = .returned (.int .i64 (cmpS a.classifier b.classifier)) ∧ ∃ m, w'' = wr.drewN m) := fun j => quietS (strCompare_any _ _ _)
        have HN : Hid (cmpL ((fieldsOf a).drop 3) ((fieldsOf b).drop 3) = if cmpS a.classifier b.classifier = 0 then cmpL ((fieldsOf a).drop 4) ((fieldsOf b).drop 4) else cmpS a.classifier b.classifier) := rfl
        generalize cmpS a.classifier b.classifier = c at *
        by_cases hc : c = 0
        · have e0 : (c != 0) = false := by rw [hc]; rfl
          have HC : Hid (cmpK a b = cmpL ((fieldsOf a).drop 4) ((fieldsOf b).drop 4)) := by show _ = _; rw [HK.out, HN.out, if_pos hc]
          clear hc
          go_wp2
          go_quiet ((go_at_call 46; exact HS.out _))
          go_wp2
          go_roundw
          case rel => exact ⟨4, n + nq, 4, by omega, rfl, rfl, by rw [HW.out]; simp, HC⟩
          case measure => simp [intOf]
        · have e0 : (c != 0) = true := by rw [bne_iff_ne]; exact hc
          have HC : Hid (cmpK a b = c) := by show _ = _; rw [HK.out, HN.out, if_neg hc]
          clear hc
          go_wp2
          go_quiet ((go_at_call 46; exact HS.out _))
          go_wp2
          go_ret
          exact ⟨by rw [HC.out]; rfl, by rw [HW.out]; exact belowN (belowN HBC.out _) _⟩
      · obtain rfl : z = 4 := hz
        have HC : Hid (cmpK a b = 0) := HK.out
        go_wp2
        go_ret
        exact ⟨by rw [HC.out]; rfl, by rw [HW.out]; exact belowN HBC.out _⟩
theorem bytesLess_cmp : ∀ l m : Bs, Op.bytesLess l m = decide (Lib.compareBytes l m = -1)
  | [], [] => rfl
  | [], _ :: _ => rfl
  | _ :: _, [] => rfl
  | x :: l, y :: m => by
    simp only [Op.bytesLess, Lib.compareBytes]
    by_cases h1 : x < y
    · simp [h1]
    · by_cases h2 : y < x
      · have h3 : ¬ x = y := by intro e; subst e; exact h1 h2
        simp [h1, h2, h3]
      · have : x = y := by rw [UInt8.lt_iff_toNat_lt] at h1 h2; exact UInt8.toNat_inj.1 (by omega)
        subst this
        simp [bytesLess_cmp l m]
theorem less_cmp (a b : S) : Op.bytesLess a.toList b.toList = decide (cmpS a b = -1) := by rw [ByteArray.toList_eq, ByteArray.toList_eq]; exact bytesLess_cmp _ _
theorem str_eq_cmp (a b : S) : (a.toList == b.toList) = decide (cmpS a b = 0) := by
  rw [ByteArray.toList_eq, ByteArray.toList_eq, Bool.eq_iff_iff, beq_iff_eq, decide_eq_true_iff]
  constructor
  · intro h; unfold cmpS; rw [h]; exact cmpB_refl _
  · intro h; rw [cmpS_eq h]
theorem more_cmp (a b : S) (t : TypeId) (w : World) : (binOp .gtr t (.string a) (.string b)).run Tryz.prog w = .ok (.bool (decide (cmpS a b = 1))) w := by
  have h1 := less_cmp a b
  have h2 := str_eq_cmp a b
  simp [binOp, Op.stringOp, h1, h2, go_sem]
  rcases cmpS_range a b with h | h | h <;> simp [h]
set_option maxRecDepth 100000 in
set_option maxHeartbeats 4000000 in
theorem refCompare_any (a b : Key) (w : World) : Calls Tryz.prog 6 #[.agg #[.string a.group, .string a.artifact, .string a.type, .string a.classifier], .agg #[.string b.group, .string b.artifact, .string b.type, .string b.classifier]] w fun e w' => e = .returned (.int .i64 (cmpK a b)) ∧ Below w.heap.size w w' := by
  go_enter Tryz.func6, Tryz.ntmps6
  go_wp2
  refine wp_world ?_
  intro W hW
  have hB : Below w.heap.size w W := by rw [hW]; exact ((((Below.refl _ w).alloc (Nat.le_refl _) _).alloc (by simp) _).alloc (by simp; omega) _).alloc (by simp; omega) _
  have xp : Box W (w.heap.size + 1 + 1) [.string a.group, .string a.artifact, .string a.type, .string a.classifier] := by rw [hW]; exact (Box.new _ _ _ _ (by simp)).alloc _
  have xq : Box W (w.heap.size + 1 + 1 + 1) [.string b.group, .string b.artifact, .string b.type, .string b.classifier] := by rw [hW]; exact Box.new _ _ _ _ (by simp)
  clear hW
  have HBC := Lib.hid hB
  have XP := Lib.hid xp
  have XQ := Lib.hid xq
  clear hB xp xq
  go_loopw [7, 28] (fun _ i wr => ∃ (k n : Nat) (z : Int), k ≤ 4 ∧ z = k ∧ i = .int .i64 z ∧ wr = W.drewN n ∧ Hid (cmpK a b = cmpL ((fieldsOf a).drop k) ((fieldsOf b).drop k))) (fun _ i _ => 4 - (intOf i).toNat)
  case atStart => exact ⟨0, 0, 0, by omega, rfl, rfl, rfl, rfl⟩
  case round =>
    obtain ⟨k, n, z, hk, hz, rfl, hwr, HK⟩ := hrel
    have xp : Box wr (w.heap.size + 1 + 1) [.string a.group, .string a.artifact, .string a.type, .string a.classifier] := by rw [hwr]; exact XP.out.drewN n
    have xq : Box wr (w.heap.size + 1 + 1 + 1) [.string b.group, .string b.artifact, .string b.type, .string b.classifier] := by rw [hwr]; exact XQ.out.drewN n
    have HW := Lib.hid hwr
    have p0 := xp.cell 0 _ rfl
    have p1 := xp.cell 1 _ rfl
    have p2 := xp.cell 2 _ rfl
    have p3 := xp.cell 3 _ rfl
    have q0 := xq.cell 0 _ rfl
    have q1 := xq.cell 1 _ rfl
    have q2 := xq.cell 2 _ rfl
    have q3 := xq.cell 3 _ rfl
    have pl := xp.lt
    have ql := xq.lt
    clear hwr xp xq
    rcases (by omega : k = 0 ∨ k = 1 ∨ k = 2 ∨ k = 3 ∨ k = 4) with rfl | rfl | rfl | rfl | rfl
    · obtain rfl : z = 0 := hz
      have HN : Hid (cmpL ((fieldsOf a).drop 0) ((fieldsOf b).drop 0) = if cmpS a.group b.group = 0 then cmpL ((fieldsOf a).drop 1) ((fieldsOf b).drop 1) else cmpS a.group b.group) := rfl
      have e1 := less_cmp a.group b.group
      have e2 := more_cmp a.group b.group 9
      have hr := cmpS_range a.group b.group
      generalize cmpS a.group b.group = c at *
      rcases hr with rfl | rfl | rfl
      · have HC : Hid (cmpK a b = -1) := by show _ = _; rw [HK.out, HN.out, if_neg (by decide)]
        simp only [decide_true, Int.reduceNeg, Int.reduceEq, decide_false] at e1 e2
        go_wp2
        go_quiet (fail)
        go_wp2
        go_ret
        exact ⟨by rw [HC.out]; rfl, by rw [HW.out]; first | exact belowN (belowN HBC.out _) _ | exact belowN (belowN (belowN HBC.out _) _) _⟩
      · have HC : Hid (cmpK a b = cmpL ((fieldsOf a).drop 1) ((fieldsOf b).drop 1)) := by show _ = _; rw [HK.out, HN.out, if_pos rfl]
        simp only [Int.reduceNeg, Int.reduceEq, decide_false] at e1 e2
        go_wp2
        go_quiet (fail)
        go_wp2
        go_quiet (fail)
        go_wp2
        go_roundw
        case rel => exact ⟨1, _, 1, by omega, rfl, rfl, by rw [HW.out]; exact World.drewN_drewN _ _ _, HC⟩
        case measure => simp [intOf]
      · have HC : Hid (cmpK a b = 1) := by show _ = _; rw [HK.out, HN.out, if_neg (by decide)]
        simp only [decide_true, Int.reduceNeg, Int.reduceEq, decide_false] at e1 e2
        go_wp2
        go_quiet (fail)
        go_wp2
        go_quiet (fail)
        go_wp2
        go_ret
        exact ⟨by rw [HC.out]; rfl, by rw [HW.out]; first | exact belowN (belowN HBC.out _) _ | exact belowN (belowN (belowN HBC.out _) _) _⟩
    · obtain rfl : z = 1 := hz
      have HN : Hid (cmpL ((fieldsOf a).drop 1) ((fieldsOf b).drop 1) = if cmpS a.artifact b.artifact = 0 then cmpL ((fieldsOf a).drop 2) ((fieldsOf b).drop 2) else cmpS a.artifact b.artifact) := rfl
      have e1 := less_cmp a.artifact b.artifact
      have e2 := more_cmp a.artifact b.artifact 9
      have hr := cmpS_range a.artifact b.artifact
      generalize cmpS a.artifact b.artifact = c at *
      rcases hr with rfl | rfl | rfl
      · have HC : Hid (cmpK a b = -1) := by show _ = _; rw [HK.out, HN.out, if_neg (by decide)]
        simp only [decide_true, Int.reduceNeg, Int.reduceEq, decide_false] at e1 e2
        go_wp2
        go_quiet (fail)
        go_wp2
        go_ret
        exact ⟨by rw [HC.out]; rfl, by rw [HW.out]; first | exact belowN (belowN HBC.out _) _ | exact belowN (belowN (belowN HBC.out _) _) _⟩
      · have HC : Hid (cmpK a b = cmpL ((fieldsOf a).drop 2) ((fieldsOf b).drop 2)) := by show _ = _; rw [HK.out, HN.out, if_pos rfl]
        simp only [Int.reduceNeg, Int.reduceEq, decide_false] at e1 e2
        go_wp2
        go_quiet (fail)
        go_wp2
        go_quiet (fail)
        go_wp2
        go_roundw
        case rel => exact ⟨2, _, 2, by omega, rfl, rfl, by rw [HW.out]; exact World.drewN_drewN _ _ _, HC⟩
        case measure => simp [intOf]
      · have HC : Hid (cmpK a b = 1) := by show _ = _; rw [HK.out, HN.out, if_neg (by decide)]
        simp only [decide_true, Int.reduceNeg, Int.reduceEq, decide_false] at e1 e2
        go_wp2
        go_quiet (fail)
        go_wp2
        go_quiet (fail)
        go_wp2
        go_ret
        exact ⟨by rw [HC.out]; rfl, by rw [HW.out]; first | exact belowN (belowN HBC.out _) _ | exact belowN (belowN (belowN HBC.out _) _) _⟩
    · obtain rfl : z = 2 := hz
      have HN : Hid (cmpL ((fieldsOf a).drop 2) ((fieldsOf b).drop 2) = if cmpS a.type b.type = 0 then cmpL ((fieldsOf a).drop 3) ((fieldsOf b).drop 3) else cmpS a.type b.type) := rfl
      have e1 := less_cmp a.type b.type
      have e2 := more_cmp a.type b.type 9
      have hr := cmpS_range a.type b.type
      generalize cmpS a.type b.type = c at *
      rcases hr with rfl | rfl | rfl
      · have HC : Hid (cmpK a b = -1) := by show _ = _; rw [HK.out, HN.out, if_neg (by decide)]
        simp only [decide_true, Int.reduceNeg, Int.reduceEq, decide_false] at e1 e2
        go_wp2
        go_quiet (fail)
        go_wp2
        go_ret
        exact ⟨by rw [HC.out]; rfl, by rw [HW.out]; first | exact belowN (belowN HBC.out _) _ | exact belowN (belowN (belowN HBC.out _) _) _⟩
      · have HC : Hid (cmpK a b = cmpL ((fieldsOf a).drop 3) ((fieldsOf b).drop 3)) := by show _ = _; rw [HK.out, HN.out, if_pos rfl]
        simp only [Int.reduceNeg, Int.reduceEq, decide_false] at e1 e2
        go_wp2
        go_quiet (fail)
        go_wp2
        go_quiet (fail)
        go_wp2
        go_roundw
        case rel => exact ⟨3, _, 3, by omega, rfl, rfl, by rw [HW.out]; exact World.drewN_drewN _ _ _, HC⟩
        case measure => simp [intOf]
      · have HC : Hid (cmpK a b = 1) := by show _ = _; rw [HK.out, HN.out, if_neg (by decide)]
        simp only [decide_true, Int.reduceNeg, Int.reduceEq, decide_false] at e1 e2
        go_wp2
        go_quiet (fail)
        go_wp2
        go_quiet (fail)
        go_wp2
        go_ret
        exact ⟨by rw [HC.out]; rfl, by rw [HW.out]; first | exact belowN (belowN HBC.out _) _ | exact belowN (belowN (belowN HBC.out _) _) _⟩
    · obtain rfl : z = 3 := hz
      have HN : Hid (cmpL ((fieldsOf a).drop 3) ((fieldsOf b).drop 3) = if cmpS a.classifier b.classifier = 0 then cmpL ((fieldsOf a).drop 4) ((fieldsOf b).drop 4) else cmpS a.classifier b.classifier) := rfl
      have e1 := less_cmp a.classifier b.classifier
      have e2 := more_cmp a.classifier b.classifier 9
      have hr := cmpS_range a.classifier b.classifier
      generalize cmpS a.classifier b.classifier = c at *
      rcases hr with rfl | rfl | rfl
      · have HC : Hid (cmpK a b = -1) := by show _ = _; rw [HK.out, HN.out, if_neg (by decide)]
        simp only [decide_true, Int.reduceNeg, Int.reduceEq, decide_false] at e1 e2
        go_wp2
        go_quiet (fail)
        go_wp2
        go_ret
        exact ⟨by rw [HC.out]; rfl, by rw [HW.out]; first | exact belowN (belowN HBC.out _) _ | exact belowN (belowN (belowN HBC.out _) _) _⟩
      · have HC : Hid (cmpK a b = cmpL ((fieldsOf a).drop 4) ((fieldsOf b).drop 4)) := by show _ = _; rw [HK.out, HN.out, if_pos rfl]
        simp only [Int.reduceNeg, Int.reduceEq, decide_false] at e1 e2
        go_wp2
        go_quiet (fail)
        go_wp2
        go_quiet (fail)
        go_wp2
        go_roundw
        case rel => exact ⟨4, _, 4, by omega, rfl, rfl, by rw [HW.out]; exact World.drewN_drewN _ _ _, HC⟩
        case measure => simp [intOf]
      · have HC : Hid (cmpK a b = 1) := by show _ = _; rw [HK.out, HN.out, if_neg (by decide)]
        simp only [decide_true, Int.reduceNeg, Int.reduceEq, decide_false] at e1 e2
        go_wp2
        go_quiet (fail)
        go_wp2
        go_quiet (fail)
        go_wp2
        go_ret
        exact ⟨by rw [HC.out]; rfl, by rw [HW.out]; first | exact belowN (belowN HBC.out _) _ | exact belowN (belowN (belowN HBC.out _) _) _⟩
    · obtain rfl : z = 4 := hz
      have HC : Hid (cmpK a b = 0) := HK.out
      go_wp2
      go_ret
      exact ⟨by rw [HC.out]; rfl, by rw [HW.out]; exact belowN HBC.out _⟩

end Go.Proofs.YtopknpainclmgaaGreatDoor
