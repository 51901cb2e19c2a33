/- Walk: lock.Print; the conditions stand in the theorems. -/
import Derived.Test.YtopknpainclmgaaGreatDoorD11

namespace Go.Proofs.YtopknpainclmgaaGreatDoor
open Go Go.RowKit

theorem pinJoin (p : Pin) : joinB [⟨#[112, 105, 110]⟩, bs (keyT p.key), p.version, bs (wordB p.scope)] ++ [10] = pinLine p := by
  rw [joinB_four]
  unfold pinLine pinW
  simp [bs_data]
theorem headJoin : joinB [⟨#[112, 111, 109, 97, 99, 101, 32, 49]⟩] ++ [10] = headB ++ [10] := by rw [joinB_one]; rfl
theorem rootJoin (g : Gav) : joinB [⟨#[114, 111, 111, 116]⟩, bs (gavT g)] ++ [10] = rootW ++ gavT g ++ [10] := by
  rw [joinB_two]; simp [bs_data, rootW]
theorem endJoin (n : Nat) : joinB [⟨#[101, 110, 100]⟩, bs (numB n)] ++ [10] = endB n ++ [10] := by
  rw [joinB_two]; simp [bs_data, endB]
theorem take_lines {ps : List Pin} {k : Nat} (h : k < ps.length) : (ps.take (k + 1)).flatMap pinLine = (ps.take k).flatMap pinLine ++ pinLine ps[k] := by
  rw [List.take_succ_eq_append_getElem h, List.flatMap_append]; simp
theorem cut_len {ps : List Pin} (h : ∀ p ∈ ps, keyS p.key ∧ p.version.size ≤ 1000) (k : Nat) : ((ps.take k).flatMap pinLine).length ≤ ps.length * 5100 := by
  have h1 := lines_len (ps := ps.take k) (fun p hp => h p (List.mem_of_mem_take hp))
  have h2 : (ps.take k).length ≤ ps.length := by simp; omega
  exact Nat.le_trans h1 (Nat.mul_le_mul_right _ h2)
set_option maxRecDepth 100000 in
set_option maxHeartbeats 8000000 in
theorem print_any (l : Lock) (v : Value) (w : World) (hv : SliceOf 6 pinC w v l.pins) (hl : lockS l) : Calls Tryz.prog 11 #[.agg #[.string l.root.group, .string l.root.artifact, .string l.root.version, v]] w fun e w' => e = .returned (.string (bs (printB l))) ∧ Below w.heap.size w w' := by
  obtain ⟨ao, cap, rfl⟩ := hv.shape
  have HV := Lib.hid hv
  have HL := Lib.hid hl
  have hn : l.pins.length ≤ 10000 := hl.len
  have HNI := Lib.hid hn
  have HHL : Hid ((headT l.root).length ≤ 3100) := headT_len hl.root
  have HGL : Hid ((bs (gavT l.root)).size ≤ 3002) := by show _ ≤ _; rw [bs_size]; exact gavT_len hl.root
  have HCL : Hid (∀ k, ((l.pins.take k).flatMap pinLine).length ≤ l.pins.length * 5100) := cut_len hl.pins
  clear hv hl
  go_enter Tryz.func11, Tryz.ntmps11
  go_upto_region 1 with fail
  refine wp_world ?_
  intro W1 hW1
  have x0 : Box W1 w.heap.size [.string l.root.group, .string l.root.artifact, .string l.root.version, .slice ao l.pins.length cap] := by rw [hW1]; exact Box.new w _ _ _ rfl
  have hb1 : Below w.heap.size w W1 := by rw [hW1]; exact (Below.refl _ w).alloc (Nat.le_refl _) _
  clear hW1
  have X0 := Lib.hid x0
  have HB1 := Lib.hid hb1
  have l0 : w.heap.size < W1.heap.size := x0.lt
  clear x0 hb1
  go_upto_region 2 with fail
  refine wp_world ?_
  intro W2 hW2
  have HBL : Hid (Bld (W1.heap.size + 1) W1.heap.size (Lib.byteCells []) W2) := by
    have h := Bld.fresh W1 W2 (by rw [hW2]; exact Below.refl _ _)
    have hs : W2.heap.size = W1.heap.size + 1 := by rw [hW2]; simp
    rw [hs] at h
    exact h
  have HS2 : Hid (W2.heap.size = W1.heap.size + 1) := by show _ = _; rw [hW2]; simp
  have hb2 : Below W1.heap.size W1 W2 := by rw [hW2]; exact (Below.refl _ W1).alloc (Nat.le_refl _) _
  clear hW2
  have X2 := Lib.hid (X0.out.below hb2 X0.out.lt)
  have HB2 := Lib.hid (HB1.out.trans (hb2.mono HB1.out.size))
  clear hb2 X0 HB1
  have HK0 : Hid (Kept (W1.heap.size + 1) W1.heap.size W2 W2) := Kept.refl _ _ _
  have hR2 : W1.heap.size + 1 ≤ W2.heap.size := Nat.le_of_eq HS2.out.symm
  generalize hb : W1.heap.size = b at *
  generalize hR : b + 1 = R at *
  have hbR : b < R := by omega
  have hwb : w.heap.size < b := l0
  clear hb hR HS2 l0
  have HL1 := Lib.hid (fun V (h : V = W2) => line_lit [⟨#[112, 111, 109, 97, 99, 101, 32, 49]⟩] V 9 V.heap.size 1 rfl rfl (by decide) (by rw [joinB_one]; decide))
  go_wp2_with fail
  refine (HL1.out W2 rfl).mono ?_
  rintro e w3 ⟨rfl, hb3⟩
  have HBL3 := Lib.hid (HBL.out.keep hb3)
  have HK3 := Lib.hid (HK0.out.trans (Kept.of_below hb3 hR2))
  clear hb3 HBL HK0 HL1
  rw [headJoin]
  go_wp2_with fail
  refine (writeString_bld R b _ _ _ HBL3.out (by decide)).mono ?_
  rintro e w4 ⟨rfl, hb4, hk4⟩
  rw [str_cells rfl] at hb4
  have HBL4 := Lib.hid hb4
  have HK4 := Lib.hid (HK3.out.trans hk4)
  clear hb4 hk4 HBL3 HK3
  have c0 : w4.cell? ⟨w.heap.size, 0, none⟩ = _ := (HK4.out.cell (by omega) (by omega)).trans (X2.out.cell 0 _ rfl)
  have c1 : w4.cell? ⟨w.heap.size, 1, none⟩ = _ := (HK4.out.cell (by omega) (by omega)).trans (X2.out.cell 1 _ rfl)
  have c2 : w4.cell? ⟨w.heap.size, 2, none⟩ = _ := (HK4.out.cell (by omega) (by omega)).trans (X2.out.cell 2 _ rfl)
  have HPG := Lib.hid (fun V => printGav_any l.root V HL.out.root)
  have HRJ := Lib.hid (rootJoin l.root)
  have HGJ : Hid (∀ x, x = bs (gavT l.root) → (joinB [⟨#[114, 111, 111, 116]⟩, x]).length ≤ 1000000000) := by
    rintro x rfl
    have h1 := HGL.out
    rw [bs_size] at h1
    rw [joinB_two, bs_data]
    simp only [List.length_append, List.length_cons, List.length_nil]
    omega
  have HL2 := Lib.hid (fun V => line_lit [⟨#[114, 111, 111, 116]⟩, bs (gavT l.root)] V 9 V.heap.size 2 rfl rfl (by simp) (HGJ.out _ rfl))
  rw [HRJ.out] at HL2
  have HRL : Hid ((bs (rootW ++ gavT l.root ++ [10])).size ≤ 100000) := by
    show _ ≤ _
    have h1 := HGL.out
    rw [bs_size] at h1 ⊢
    simp only [List.length_append, List.length_cons, List.length_nil]
    have : rootW.length = 5 := rfl
    omega
  have HE1 : Hid (∀ cs : Bs, Lib.byteCells cs ++ Lib.strCells (bs (rootW ++ gavT l.root ++ [10])) = Lib.byteCells (cs ++ (rootW ++ gavT l.root ++ [10]))) := fun cs => str_cells rfl cs
  generalize bs (rootW ++ gavT l.root ++ [10]) = rs at *
  generalize hgx : bs (gavT l.root) = gx at *
  clear hgx HGJ HRJ
  go_wp2_with fail
  refine (HPG.out _).mono ?_
  rintro e w5 ⟨rfl, hb5⟩
  have HBL5 := Lib.hid (HBL4.out.keep hb5)
  have HK5 := Lib.hid (HK4.out.trans (Kept.of_below hb5 (by have := HBL4.out.room; omega)))
  clear hb5 HBL4 HK4 c0 c1 c2
  go_wp2_with fail
  refine (HL2.out w5).mono ?_
  rintro e w6 ⟨rfl, hb6⟩
  have HBL6 := Lib.hid (HBL5.out.keep hb6)
  have HK6 := Lib.hid (HK5.out.trans (Kept.of_below hb6 (by have := HBL5.out.room; omega)))
  clear hb6 HBL5 HK5 HL2
  go_wp2_with fail
  refine (writeString_bld R b _ _ _ HBL6.out (by have := HRL.out; rw [byteCells_len]; simp [headB]; omega)).mono ?_
  rintro e w7 ⟨rfl, hb7, hk7⟩
  rw [HE1.out] at hb7
  have hHT : ([] : Bs) ++ (headB ++ [10]) ++ (rootW ++ gavT l.root ++ [10]) = headT l.root := by unfold headT; simp
  rw [hHT] at hb7
  have HBL7 := Lib.hid hb7
  have HK7 := Lib.hid (HK6.out.trans hk7)
  clear hb7 hk7 hHT HBL6 HK6 HE1 HPG HRL
  have HX7 : Hid (∀ o, w7.cell? ⟨w.heap.size, o, none⟩ = W2.cell? ⟨w.heap.size, o, none⟩) := fun o => HK7.out.cell (by omega) (by omega)
  have c3 : w7.cell? ⟨w.heap.size, 3, none⟩ = some (.slice ao l.pins.length cap) := (HX7.out 3).trans (X2.out.cell 3 _ rfl)
  go_wp2_with fail
  go_loopw [18] (fun iv wr => ∃ k : Nat, k ≤ l.pins.length ∧ iv = .int .i64 k ∧ Bld R b (Lib.byteCells (headT l.root ++ (l.pins.take k).flatMap pinLine)) wr ∧ Kept R b W2 wr) (fun iv _ => l.pins.length - (intOf iv).toNat)
  case atStart => exact ⟨0, Nat.zero_le _, rfl, by simpa using HBL7.out, HK7.out⟩
  case round =>
    obtain ⟨k, hk, rfl, hB, hK⟩ := hrel
    have HBk := Lib.hid hB
    have HKk := Lib.hid hK
    have hroom := hB.room
    have hlen := HCL.out k
    have hhl := HHL.out
    have HVr := Lib.hid (HV.out.below (HB2.out.trans (HKk.out.below (B := w.heap.size) (by omega) (by omega))))
    clear hB hK c3
    by_cases hlt : k < l.pins.length
    · have hi1 : (k : Int) < (l.pins.length : Int) := by omega
      obtain ⟨bb, oo, hao, hbl, hcell⟩ := HVr.out.at hlt
      subst hao
      have g0 : wr.cell? ⟨bb, oo + k * 6, none⟩ = some (.string l.pins[k].key.group) := by simpa using hcell 0 _ rfl
      have g1 : wr.cell? ⟨bb, oo + k * 6 + 1, none⟩ = some (.string l.pins[k].key.artifact) := hcell 1 _ rfl
      have g2 : wr.cell? ⟨bb, oo + k * 6 + 2, none⟩ = some (.string l.pins[k].key.type) := hcell 2 _ rfl
      have g3 : wr.cell? ⟨bb, oo + k * 6 + 3, none⟩ = some (.string l.pins[k].key.classifier) := hcell 3 _ rfl
      have g4 : wr.cell? ⟨bb, oo + k * 6 + 4, none⟩ = some (.string l.pins[k].version) := hcell 4 _ rfl
      have g5 : wr.cell? ⟨bb, oo + k * 6 + 5, none⟩ = some (.int .i64 l.pins[k].scope) := hcell 5 _ rfl
      have HPS := Lib.hid (HL.out.pins _ (List.getElem_mem hlt))
      have HTL := Lib.hid (take_lines hlt)
      have HCK := Lib.hid hlen
      have HHK := Lib.hid hhl
      clear hcell hlen hhl
      generalize l.pins[k] = p at *
      have HPK := Lib.hid (fun V => printKey_any p.key V HPS.out.1)
      have HWD := Lib.hid (fun V => word_any p.scope V)
      have HPL : Hid ((bs (pinLine p)).size ≤ 5100) := by show _ ≤ _; rw [bs_size]; exact pinLine_len HPS.out
      have hjl : (joinB [⟨#[112, 105, 110]⟩, bs (keyT p.key), p.version, bs (wordB p.scope)]).length ≤ 1000000000 := by
        have h1 := congrArg List.length (pinJoin p)
        have h2 := pinLine_len HPS.out
        rw [List.length_append, List.length_singleton] at h1
        omega
      have HLN := Lib.hid (fun V => line_lit [⟨#[112, 105, 110]⟩, bs (keyT p.key), p.version, bs (wordB p.scope)] V 9 V.heap.size 4 rfl rfl (by simp) hjl)
      rw [pinJoin] at HLN
      have HEC : Hid (∀ cs : Bs, Lib.byteCells cs ++ Lib.strCells (bs (pinLine p)) = Lib.byteCells (cs ++ pinLine p)) := fun cs => str_cells rfl cs
      clear hjl
      generalize bs (pinLine p) = pl at *
      generalize bs (keyT p.key) = kx at *
      generalize bs (wordB p.scope) = wx at *
      go_upto_region 7 with fail
      refine wp_world ?_
      intro W8 hW8
      have hbx : W8.heap[wr.heap.size]? = some (.cells #[.string p.key.group, .string p.key.artifact, .string p.key.type, .string p.key.classifier, .string p.version, .int .i64 p.scope] 33 (0, 0)) := by rw [hW8]; exact heap_alloc_new wr _
      have hb8 : Below wr.heap.size wr W8 := by rw [hW8]; exact (Below.refl _ wr).alloc (Nat.le_refl _) _
      have hl8 : wr.heap.size < W8.heap.size := by rw [hW8]; simp
      clear hW8 g0 g1 g2 g3 g4 g5
      have z0 : W8.cell? ⟨wr.heap.size, 0, none⟩ = some (.string p.key.group) := by rw [Lib.cell_of_heap hbx]; rfl
      have z1 : W8.cell? ⟨wr.heap.size, 1, none⟩ = some (.string p.key.artifact) := by rw [Lib.cell_of_heap hbx]; rfl
      have z2 : W8.cell? ⟨wr.heap.size, 2, none⟩ = some (.string p.key.type) := by rw [Lib.cell_of_heap hbx]; rfl
      have z3 : W8.cell? ⟨wr.heap.size, 3, none⟩ = some (.string p.key.classifier) := by rw [Lib.cell_of_heap hbx]; rfl
      have z4 : W8.cell? ⟨wr.heap.size, 4, none⟩ = some (.string p.version) := by rw [Lib.cell_of_heap hbx]; rfl
      have z5 : W8.cell? ⟨wr.heap.size, 5, none⟩ = some (.int .i64 p.scope) := by rw [Lib.cell_of_heap hbx]; rfl
      have HB8 := Lib.hid ((HBk.out.keep hb8).keep (belowN (Below.refl _ _) 1))
      have HK8 := Lib.hid (HKk.out.trans (Kept.of_below hb8 (by omega)))
      have HX := Lib.hid hbx
      clear hbx hb8
      go_region_held3 (fun w' => w'.cell? ⟨wr.heap.size, 0, none⟩ = some (.string p.key.group) ∧ w'.cell? ⟨wr.heap.size, 1, none⟩ = some (.string p.key.artifact) ∧ w'.cell? ⟨wr.heap.size, 2, none⟩ = some (.string p.key.type) ∧ w'.cell? ⟨wr.heap.size, 3, none⟩ = some (.string p.key.classifier) ∧ w'.cell? ⟨wr.heap.size, 4, none⟩ = some (.string p.version) ∧ w'.cell? ⟨wr.heap.size, 5, none⟩ = some (.int .i64 p.scope))
        (first | exact ⟨z0, z1, z2, z3, z4, z5⟩ | exact ⟨y0, y1, y2, y3, y4, y5⟩ | exact ⟨x0, x1, x2, x3, x4, x5⟩ | exact ⟨(hK9.var (by omega) (by decide) hx7 0).trans x0, (hK9.var (by omega) (by decide) hx7 1).trans x1, (hK9.var (by omega) (by decide) hx7 2).trans x2, (hK9.var (by omega) (by decide) hx7 3).trans x3, (hK9.var (by omega) (by decide) hx7 4).trans x4, (hK9.var (by omega) (by decide) hx7 5).trans x5⟩ | (go_keep; done))
        (first | (go_at_call 34; refine (HPK.out _).mono ?_; rintro e w5 ⟨rfl, hb5⟩; have hx5 := (hb5.block _ (by exact hl8)).trans HX.out; have y0 := (hb5.cell (p := ⟨wr.heap.size, 0, none⟩) (by exact hl8)).trans z0; have y1 := (hb5.cell (p := ⟨wr.heap.size, 1, none⟩) (by exact hl8)).trans z1; have y2 := (hb5.cell (p := ⟨wr.heap.size, 2, none⟩) (by exact hl8)).trans z2; have y3 := (hb5.cell (p := ⟨wr.heap.size, 3, none⟩) (by exact hl8)).trans z3; have y4 := (hb5.cell (p := ⟨wr.heap.size, 4, none⟩) (by exact hl8)).trans z4; have y5 := (hb5.cell (p := ⟨wr.heap.size, 5, none⟩) (by exact hl8)).trans z5; have hl5 := Nat.lt_of_lt_of_le hl8 hb5.size) | (go_at_call 35; refine (HWD.out _).mono ?_; rintro e w6 ⟨rfl, rfl⟩) | (go_at_call 32; refine (HLN.out _).mono ?_; rintro e w7 ⟨rfl, hb7⟩; have hx7 := (hb7.block _ (by exact hl5)).trans hx5; have x0 := (hb7.cell (p := ⟨wr.heap.size, 0, none⟩) (by exact hl5)).trans y0; have x1 := (hb7.cell (p := ⟨wr.heap.size, 1, none⟩) (by exact hl5)).trans y1; have x2 := (hb7.cell (p := ⟨wr.heap.size, 2, none⟩) (by exact hl5)).trans y2; have x3 := (hb7.cell (p := ⟨wr.heap.size, 3, none⟩) (by exact hl5)).trans y3; have x4 := (hb7.cell (p := ⟨wr.heap.size, 4, none⟩) (by exact hl5)).trans y4; have x5 := (hb7.cell (p := ⟨wr.heap.size, 5, none⟩) (by exact hl5)).trans y5) | (go_at_call 31; refine (writeString_bld R b _ _ _ ((HB8.out.keep hb5).keep hb7) (by rw [byteCells_len, List.length_append]; have h1 := HPL.out; have h2 := HCK.out; have h3 := HHK.out; omega)).mono ?_; rintro e w9 ⟨rfl, hB9, hK9⟩))
      have HB9 : Hid (Bld R b (Lib.byteCells (headT l.root ++ (l.pins.take (k + 1)).flatMap pinLine)) w9) := by
        have h2 := hB9
        rw [HEC.out] at h2
        show Bld _ _ _ _
        rw [HTL.out, ← List.append_assoc]; exact h2
      have HK9 : Hid (Kept R b W2 w9) := ((HK8.out.trans (Kept.of_below ((belowN (Below.refl _ _) 1).trans hb5) (by omega))).trans (Kept.of_below hb7 (by have := hb5.size; have h : W8.drew.heap.size = W8.heap.size := rfl; omega))).trans hK9
      clear hB9 hK9 hx5 hx7 hb5 hb7 z0 z1 z2 z3 z4 z5 y0 y1 y2 y3 y4 y5 x0 x1 x2 x3 x4 x5
      go_wp2
      go_roundw
      case rel => exact ⟨k + 1, hlt, by go_num, HB9.out, HK9.out⟩
      case measure => simp [intOf]; omega
    · obtain rfl : k = l.pins.length := by omega
      have hi1 : ¬ (l.pins.length : Int) < (l.pins.length : Int) := by omega
      rw [List.take_length] at HBk hlen
      have HCK := Lib.hid hlen
      have HHK := Lib.hid hhl
      clear hlt hlen hhl
      have c3 : wr.cell? ⟨w.heap.size, 3, none⟩ = some (.slice ao l.pins.length cap) := (HKk.out.cell (by omega) (by omega)).trans (X2.out.cell 3 _ rfl)
      have HNU := Lib.hid (fun V => number_any l.pins.length V (by have := HNI.out; omega))
      have HNL : Hid ((numB l.pins.length).length ≤ 100) := by
        have h1 := numB_len 7 l.pins.length (by have := HNI.out; omega)
        show _ ≤ _
        omega
      have HLN := Lib.hid (fun V => line_lit [⟨#[101, 110, 100]⟩, bs (numB l.pins.length)] V 9 V.heap.size 2 rfl rfl (by simp) (by have h1 := HNL.out; rw [joinB_two, bs_data]; simp only [List.length_append, List.length_cons, List.length_nil]; omega))
      rw [endJoin] at HLN
      have HEL : Hid ((bs (endB l.pins.length ++ [10])).size ≤ 1000) := by
        show _ ≤ _
        have h1 := HNL.out
        rw [bs_size]
        simp only [endB, List.length_append, List.length_cons, List.length_nil]; omega
      have HEC : Hid (∀ cs : Bs, Lib.byteCells cs ++ Lib.strCells (bs (endB l.pins.length ++ [10])) = Lib.byteCells (cs ++ (endB l.pins.length ++ [10]))) := fun cs => str_cells rfl cs
      generalize bs (endB l.pins.length ++ [10]) = es at *
      generalize bs (numB l.pins.length) = nx at *
      go_wp2_with fail
      refine (HNU.out _).mono ?_
      rintro e w5 ⟨rfl, rfl⟩
      go_wp2_with fail
      refine (HLN.out _).mono ?_
      rintro e w6 ⟨rfl, hb6⟩
      have HB6 := Lib.hid (HBk.out.keep hb6)
      have HK6 := Lib.hid (HKk.out.trans (Kept.of_below hb6 hroom))
      clear hb6 HBk HKk c3
      go_wp2_with fail
      refine (writeString_bld R b _ _ _ HB6.out (by rw [byteCells_len, List.length_append]; have h1 := HEL.out; have h2 := HCK.out; have h3 := HHK.out; omega)).mono ?_
      rintro e w9 ⟨rfl, hB9, hK9⟩
      rw [HEC.out] at hB9
      have hpb : headT l.root ++ l.pins.flatMap pinLine ++ (endB l.pins.length ++ [10]) = printB l := rfl
      rw [hpb] at hB9
      have HB9 := Lib.hid hB9
      have HK9 := Lib.hid (HK6.out.trans hK9)
      clear hB9 hK9 HB6 HK6 hpb
      go_wp2_with fail
      refine (Tryz.Builder_String_any w.heap.size b (printB l) w9 (HB9.out.isB _ (by omega) (by omega)) (by have := HB9.out.room; omega)).mono ?_
      rintro e w10 ⟨rfl, hb10⟩
      have HB10 := Lib.hid ((HB2.out.trans (HK9.out.below (B := w.heap.size) (by omega) (by omega))).trans hb10)
      clear hb10
      go_wp2
      go_ret
      exact ⟨rfl, HB10.out⟩

end Go.Proofs.YtopknpainclmgaaGreatDoor
