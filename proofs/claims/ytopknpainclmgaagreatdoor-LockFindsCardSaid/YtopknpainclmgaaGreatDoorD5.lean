/- Walks: ParseKey; the conditions stand in the theorems. -/
import Derived.Test.YtopknpainclmgaaGreatDoorD4

namespace Go.Proofs.YtopknpainclmgaaGreatDoor
open Go Go.RowKit

/-- The key of a text, if it may be one. -/
def keyR (s : Bs) : Option Key := match keyP s with
  | some k => if keyMay k then some k else none
  | none => none
theorem keyP_no {s : Bs} (h3 : (piecesB 58 s).length ≠ 3) (h4 : (piecesB 58 s).length ≠ 4) : keyP s = none := by
  unfold keyP
  split
  · rename_i h'; rw [h'] at h3; exact absurd rfl h3
  · rename_i h'; rw [h'] at h4; exact absurd rfl h4
  · rfl
theorem keyP_three {s : Bs} {a b c : Bs} (h : piecesB 58 s = [a, b, c]) : keyP s = some ⟨bs a, bs b, bs c, bs []⟩ := by
  unfold keyP
  rw [h]
theorem keyP_four {s : Bs} {a b c d : Bs} (h : piecesB 58 s = [a, b, c, d]) : keyP s = if d = [] then none else some ⟨bs a, bs b, bs c, bs d⟩ := by
  unfold keyP
  rw [h]
/-- What ParseKey gives. -/
def KeyOut (w : World) (r : Option Key) (e : Ending) (w' : World) : Prop := e = .returned (.tuple #[.agg #[.string (r.getD noKey).group, .string (r.getD noKey).artifact, .string (r.getD noKey).type, .string (r.getD noKey).classifier], .int .i64 (if r.isSome then 0 else 1)]) ∧ Below w.heap.size w w'
set_option maxRecDepth 100000 in
set_option maxHeartbeats 8000000 in
theorem parseKey_any (s : S) (m : Int) (w : World) (hs : s.size ≤ 1000000) (hm : w.cell? ⟨0, 0, none⟩ = some (.int .i64 m)) : Calls Tryz.prog 53 #[.string s] w (KeyOut w (keyR s.data.toList)) := by
  have hw0 : 0 < w.heap.size := World.block_lt_of_cell? w _ hm
  have HM := Lib.hid hm
  have HS := Lib.hid hs
  clear hm hs
  go_enter Tryz.func53, Tryz.ntmps53
  go_upto_region 1 with fail
  refine wp_world ?_
  intro W hW
  have x2 : Box W w.heap.size [.string ⟨#[]⟩, .string ⟨#[]⟩, .string ⟨#[]⟩, .string ⟨#[]⟩] := by rw [hW]; exact Box.new w [.string ⟨#[]⟩, .string ⟨#[]⟩, .string ⟨#[]⟩, .string ⟨#[]⟩] _ _ rfl
  have hb : Below w.heap.size w W := by rw [hW]; exact (Below.refl _ w).alloc (Nat.le_refl _) _
  clear hW
  have HX := Lib.hid x2
  have HB := Lib.hid hb
  have s0 := hb.size
  have hmW := (hb.cell (p := ⟨0, 0, none⟩) (by exact hw0)).trans HM.out
  have HSP := Lib.hid (split_any 58 s m W HS.out hmW)
  clear x2 hb hmW
  go_wp2_with fail
  refine HSP.out.mono ?_
  rintro e w1 ⟨v, rfl, ho, hb1⟩
  obtain ⟨g, cap, rfl, hg, hc⟩ := ho.strs (piecesS_ne _ _)
  have HX1 := Lib.hid (HX.out.below hb1 HX.out.lt)
  have HB1 := Lib.hid (HB.out.trans (hb1.mono s0))
  have s1 := HB1.out.size
  have hne : ¬ g = w.heap.size := by have := (ho.lt g rfl).1; have := HX.out.lt; omega
  have hlz := HX1.out.lt
  clear ho hb1 HSP HX HB
  have u0 := HX1.out.free 0
  have z0 := HX1.out.cell 0 _ rfl
  have u1 := HX1.out.free 1
  have z1 := HX1.out.cell 1 _ rfl
  have u2 := HX1.out.free 2
  have z2 := HX1.out.cell 2 _ rfl
  have u3 := HX1.out.free 3
  have z3 := HX1.out.cell 3 _ rfl
  have lz := HX1.out.lt
  by_cases hl3 : (piecesS 58 s.data.toList).length = 3
  rotate_left
  · by_cases hl4 : (piecesS 58 s.data.toList).length = 4
    rotate_left
    · have HN : Hid (keyR s.data.toList = none) := by show _ = _; unfold keyR; rw [keyP_no (by simpa [piecesS] using hl3) (by simpa [piecesS] using hl4)]
      have hlI : (((piecesS 58 s.data.toList).length : Int) == 3) = false := by rw [beq_eq_false_iff_ne]; omega
      have hlJ : (((piecesS 58 s.data.toList).length : Int) == 4) = false := by rw [beq_eq_false_iff_ne]; omega
      have hlN : ((piecesS 58 s.data.toList).length == 3) = false := by rw [beq_eq_false_iff_ne]; omega
      have hlM : ((piecesS 58 s.data.toList).length == 4) = false := by rw [beq_eq_false_iff_ne]; omega
      have hlP : (((piecesS 58 s.data.toList).length : Int) != 3) = true := by rw [bne_iff_ne]; omega
      have hlQ : (((piecesS 58 s.data.toList).length : Int) != 4) = true := by rw [bne_iff_ne]; omega
      clear hl3 hl4 hc
      generalize (piecesS 58 s.data.toList).length = n at *
      go_wp2
      refine bodyPost_ret (v := .tuple #[.agg #[.string ⟨#[]⟩, .string ⟨#[]⟩, .string ⟨#[]⟩, .string ⟨#[]⟩], .int .i64 1]) (by simp [results, Tryz.results53, go_sem, z0, z1, z2, z3]) rfl ?_
      rw [HN.out]
      exact ⟨rfl, (((HB1.out.setCell (by simp) _).setCell (by simp) _).setCell (by simp) _).setCell (by simp) _⟩
    · skip
      obtain ⟨pa, pb, pc, pd, hp⟩ := four (l := piecesB 58 s.data.toList) (by simpa [piecesS] using hl4)
      have hps : piecesS 58 s.data.toList = [bs pa, bs pb, bs pc, bs pd] := by unfold piecesS; rw [hp]; rfl
      have HR : Hid (keyR s.data.toList = if pd = [] then none else if keyMay ⟨bs pa, bs pb, bs pc, bs pd⟩ then some ⟨bs pa, bs pb, bs pc, bs pd⟩ else none) := by show _ = _; unfold keyR; rw [keyP_four hp]; by_cases h : pd = [] <;> simp [h]
      have HG : Hid (keySm ⟨bs pa, bs pb, bs pc, bs pd⟩) := ⟨pieces_sm HS.out (by rw [hp]; simp), pieces_sm HS.out (by rw [hp]; simp), pieces_sm HS.out (by rw [hp]; simp), pieces_sm HS.out (by rw [hp]; simp)⟩
      obtain ⟨dz, hdz⟩ : ∃ b, b = ((bs pd).toList == []) := ⟨_, rfl⟩
      have he : ((bs pd).toList == []) = dz := hdz.symm
      have HDZ : Hid (dz = decide (pd = [])) := by show _ = _; rw [hdz, str_lit, bs_data]
      clear hdz
      rw [hps] at hc
      rw [hps]
      have k0 := hc 0 _ rfl
      have k1 := hc 1 _ rfl
      have k2 := hc 2 _ rfl
      have k3 := hc 3 _ rfl
      clear hl3 hl4 hc hps hp
      generalize bs pa = xa at *
      generalize bs pb = xb at *
      generalize bs pc = xc at *
      generalize bs pd = xd at *
      go_upto_region 4 with fail
      go_big_region
      go_upto_region 5 with fail
      refine wp_world ?_
      intro W3 hW3
      have x5 : Box W3 w1.heap.size [.string xa, .string xb, .string xc, .string ⟨#[]⟩] := by rw [hW3]; exact (Box.new w1 [.string xa, .string xb, .string xc, .string ⟨#[]⟩] _ _ rfl).drewN 1
      have hb3 : Below w1.heap.size w1 W3 := by rw [hW3]; exact belowN ((Below.refl _ w1).alloc (Nat.le_refl _) _) 1
      clear hW3
      have HX2 := Lib.hid (HX1.out.below hb3 HX1.out.lt)
      have HX5 := Lib.hid x5
      have HB3 := Lib.hid (HB1.out.trans (hb3.mono s1))
      have s3 := HB3.out.size
      have k3' := (hb3.cell (p := ⟨g, 3, none⟩) (by exact hg)).trans k3
      clear k0 k1 k2 k3 u0 u1 u2 u3 z0 z1 z2 z3 lz x5 hb3 HX1
      have v3 := HX5.out.free 3
      have lv := HX5.out.lt
      have k0 := HX5.out.cell 0 _ rfl
      have k1 := HX5.out.cell 1 _ rfl
      have k2 := HX5.out.cell 2 _ rfl
      have k3 := HX5.out.cell 3 _ rfl
      go_wp2_with fail
      refine (mayKey_any ⟨xa, xb, xc, xd⟩ _ HG.out).mono ?_
      rintro e w4 ⟨rfl, hb4⟩
      have HX6 := Lib.hid ((HX2.out.grown (setCell_grown W3 w1.heap.size 3 (.string xd)) (by simp; omega)).below hb4 (by simp; omega))
      have HX7 := Lib.hid ((HX5.out.set 3 (.string xd)).below hb4 (by simp; omega))
      have HB4 := Lib.hid ((HB3.out.setCell (p := ⟨w1.heap.size, 3, none⟩) (by show _ ≤ _; omega) (.string xd)).trans (hb4.mono (by simp; omega)))
      clear k0 k1 k2 k3 k3' v3 hb4 HX2 HX5
      have u0 := HX6.out.free 0
      have z0 := HX6.out.cell 0 _ rfl
      have u1 := HX6.out.free 1
      have z1 := HX6.out.cell 1 _ rfl
      have u2 := HX6.out.free 2
      have z2 := HX6.out.cell 2 _ rfl
      have u3 := HX6.out.free 3
      have z3 := HX6.out.cell 3 _ rfl
      have lz := HX6.out.lt
      have k0 := HX7.out.cell 0 _ rfl
      have k1 := HX7.out.cell 1 _ rfl
      have k2 := HX7.out.cell 2 _ rfl
      have k3 := HX7.out.cell 3 _ rfl
      generalize keyMay ⟨xa, xb, xc, xd⟩ = ok at *
      cases dz with
      | true =>
        have hpd : pd = [] := by have := HDZ.out; simpa using this.symm
        have HN : Hid (keyR s.data.toList = none) := by show _ = _; rw [HR.out, if_pos hpd]
        clear hpd
        cases ok
        all_goals
          go_wp2
          refine bodyPost_ret (v := .tuple #[.agg #[.string ⟨#[]⟩, .string ⟨#[]⟩, .string ⟨#[]⟩, .string ⟨#[]⟩], .int .i64 1]) (by simp [results, Tryz.results53, go_sem, z0, z1, z2, z3]) rfl ?_
          rw [HN.out]
          exact ⟨rfl, (((HB4.out.setCell (by simp) _).setCell (by simp) _).setCell (by simp) _).setCell (by simp) _⟩
      | false =>
        have hpd : pd ≠ [] := by have := HDZ.out; simpa using this.symm
        rw [if_neg hpd] at HR
        clear hpd
        cases ok with
        | false =>
          have HN := HR
          go_wp2
          refine bodyPost_ret (v := .tuple #[.agg #[.string ⟨#[]⟩, .string ⟨#[]⟩, .string ⟨#[]⟩, .string ⟨#[]⟩], .int .i64 1]) (by simp [results, Tryz.results53, go_sem, z0, z1, z2, z3]) rfl ?_
          rw [HN.out]
          exact ⟨rfl, (((HB4.out.setCell (by simp) _).setCell (by simp) _).setCell (by simp) _).setCell (by simp) _⟩
        | true =>
          have HY := HR
          go_wp2
          refine bodyPost_ret (v := .tuple #[.agg #[.string xa, .string xb, .string xc, .string xd], .int .i64 0]) (by simp [results, Tryz.results53, go_sem, z0, z1, z2, z3]) rfl ?_
          rw [HY.out]
          exact ⟨rfl, (((HB4.out.setCell (by simp) _).setCell (by simp) _).setCell (by simp) _).setCell (by simp) _⟩
  · skip
    obtain ⟨pa, pb, pc, hp⟩ := three (l := piecesB 58 s.data.toList) (by simpa [piecesS] using hl3)
    have hps : piecesS 58 s.data.toList = [bs pa, bs pb, bs pc] := by unfold piecesS; rw [hp]; rfl
    have HR : Hid (keyR s.data.toList = if keyMay ⟨bs pa, bs pb, bs pc, bs []⟩ then some ⟨bs pa, bs pb, bs pc, bs []⟩ else none) := by show _ = _; unfold keyR; rw [keyP_three hp]
    have HG : Hid (keySm ⟨bs pa, bs pb, bs pc, bs []⟩) := ⟨pieces_sm HS.out (by rw [hp]; simp), pieces_sm HS.out (by rw [hp]; simp), pieces_sm HS.out (by rw [hp]; simp), by show (0 : Nat) ≤ _; omega⟩
    rw [hps] at hc
    rw [hps]
    have k0 := hc 0 _ rfl
    have k1 := hc 1 _ rfl
    have k2 := hc 2 _ rfl
    clear hl3 hc hps hp
    generalize bs pa = xa at *
    generalize bs pb = xb at *
    generalize bs pc = xc at *
    go_upto_region 4 with fail
    go_big_region
    go_upto_region 5 with fail
    refine wp_world ?_
    intro W3 hW3
    have x5 : Box W3 w1.heap.size [.string xa, .string xb, .string xc, .string ⟨#[]⟩] := by rw [hW3]; exact (Box.new w1 [.string xa, .string xb, .string xc, .string ⟨#[]⟩] _ _ rfl).drewN 1
    have hb3 : Below w1.heap.size w1 W3 := by rw [hW3]; exact belowN ((Below.refl _ w1).alloc (Nat.le_refl _) _) 1
    clear hW3
    have HX2 := Lib.hid (HX1.out.below hb3 HX1.out.lt)
    have HX5 := Lib.hid x5
    have HB3 := Lib.hid (HB1.out.trans (hb3.mono s1))
    have s3 := HB3.out.size
    clear k0 k1 k2 u0 u1 u2 u3 z0 z1 z2 z3 lz x5 hb3 HX1
    have k0 := HX5.out.cell 0 _ rfl
    have k1 := HX5.out.cell 1 _ rfl
    have k2 := HX5.out.cell 2 _ rfl
    have k3 := HX5.out.cell 3 _ rfl
    go_wp2_with fail
    refine (mayKey_any ⟨xa, xb, xc, bs []⟩ W3 HG.out).mono ?_
    rintro e w4 ⟨rfl, hb4⟩
    have HX6 := Lib.hid (HX2.out.below hb4 HX2.out.lt)
    have HX7 := Lib.hid (HX5.out.below hb4 HX5.out.lt)
    have HB4 := Lib.hid (HB3.out.trans (hb4.mono s3))
    clear k0 k1 k2 k3 hb4 HX2 HX5
    have u0 := HX6.out.free 0
    have z0 := HX6.out.cell 0 _ rfl
    have u1 := HX6.out.free 1
    have z1 := HX6.out.cell 1 _ rfl
    have u2 := HX6.out.free 2
    have z2 := HX6.out.cell 2 _ rfl
    have u3 := HX6.out.free 3
    have z3 := HX6.out.cell 3 _ rfl
    have lz := HX6.out.lt
    have k0 := HX7.out.cell 0 _ rfl
    have k1 := HX7.out.cell 1 _ rfl
    have k2 := HX7.out.cell 2 _ rfl
    have k3 := HX7.out.cell 3 _ rfl
    generalize keyMay ⟨xa, xb, xc, bs []⟩ = ok at *
    cases ok with
    | false =>
      have HN := HR
      go_wp2
      refine bodyPost_ret (v := .tuple #[.agg #[.string ⟨#[]⟩, .string ⟨#[]⟩, .string ⟨#[]⟩, .string ⟨#[]⟩], .int .i64 1]) (by simp [results, Tryz.results53, go_sem, z0, z1, z2, z3]) rfl ?_
      rw [HN.out]
      exact ⟨rfl, (((HB4.out.setCell (by simp) _).setCell (by simp) _).setCell (by simp) _).setCell (by simp) _⟩
    | true =>
      have HY := HR
      go_wp2
      refine bodyPost_ret (v := .tuple #[.agg #[.string xa, .string xb, .string xc, .string ⟨#[]⟩], .int .i64 0]) (by simp [results, Tryz.results53, go_sem, z0, z1, z2, z3]) rfl ?_
      rw [HY.out]
      exact ⟨rfl, (((HB4.out.setCell (by simp) _).setCell (by simp) _).setCell (by simp) _).setCell (by simp) _⟩

end Go.Proofs.YtopknpainclmgaaGreatDoor
