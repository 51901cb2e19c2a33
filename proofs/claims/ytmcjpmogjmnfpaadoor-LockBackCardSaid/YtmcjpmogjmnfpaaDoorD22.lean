/- Walk: the law LockBack returns true; the conditions stand in the theorem. -/
import Derived.Test.YtmcjpmogjmnfpaaDoorD18
import Derived.Test.YtmcjpmogjmnfpaaDoorD19
namespace Go.Proofs.YtmcjpmogjmnfpaaDoor
open Go Go.RowKit

theorem id_len {s : S} (h : isIdB s = true) : s.data.toList.length ≤ 64 := by rw [size_data]; exact id_small h
theorem ver_len {s : S} (h : verMay s = true) : s.data.toList.length ≤ 64 := by rw [size_data]; exact ver_small h
theorem pinLine_may {p : Pin} (h : pinMay p = true) : (pinLine p).length ≤ 400 := by
  obtain ⟨hk, hv, -⟩ := pinMay_iff.1 h
  unfold keyMay at hk
  simp only [Bool.and_eq_true, Bool.or_eq_true] at hk
  obtain ⟨⟨⟨h1, h2⟩, h3⟩, h4⟩ := hk
  have k1 := id_len h1
  have k2 := id_len h2
  have k3 := id_len h3
  have k5 := ver_len hv
  have k6 := wordB_len p.scope
  have k4 : p.key.classifier.data.toList.length ≤ 64 := by
    rcases h4 with h4 | h4
    · rw [ByteArray.toList_eq] at h4
      rw [List.isEmpty_iff.1 h4]; simp
    · exact id_len h4
  have k7 : (keyT p.key).length ≤ 259 := by
    unfold keyT
    split
    · simp only [List.length_append, List.length_cons, List.length_nil]; omega
    · simp only [List.length_append, List.length_cons]; omega
  unfold pinLine pinW
  simp only [List.length_append, List.length_cons, List.length_nil]; omega
theorem lines_may : ∀ {ps : List Pin}, (∀ p ∈ ps, pinMay p = true) → (ps.flatMap pinLine).length ≤ ps.length * 400
  | [], _ => by simp
  | p :: ps, h => by
    have h1 := pinLine_may (h p (by simp))
    have h2 := lines_may (ps := ps) (fun q hq => h q (by simp [hq]))
    rw [List.flatMap_cons, List.length_append, List.length_cons]; omega
theorem print_len {l : Lock} (h : lockMay l = true) (hn : l.pins.length ≤ 40) : (printB l).length ≤ 20000 := by
  obtain ⟨hp, -, hg, -⟩ := lockMay_iff.1 h
  have h1 := lines_may hp
  have h2 := headT_len (may_small h).root
  have h3 := numB_len 2 l.pins.length (by omega)
  unfold printB endB
  simp only [List.length_append, List.length_cons, List.length_nil]; omega
theorem print_ne (l : Lock) : printB l ≠ [] := by unfold printB headT headB; simp

set_option maxRecDepth 100000 in
set_option maxHeartbeats 16000000 in
theorem lockBack_any (l : Lock) (v : Value) (at' : Int) (more : S) (m : Int) (w : World) (hm : w.cell? ⟨0, 0, none⟩ = some (.int .i64 m)) (hv : SliceOf 6 pinC w v l.pins) (hz : lockSm l) (h0 : 0 ≤ at') (h64 : at' ≤ 18446744073709551615) :
    Calls Tryd.prog 4 #[.agg #[.string l.root.group, .string l.root.artifact, .string l.root.version, v], .int .u64 at', .string more] w fun e w' => e = .returned (.bool true) ∧ Below w.heap.size w w' := by
  have hw0 : 0 < w.heap.size := World.block_lt_of_cell? w _ hm
  obtain ⟨ao, cap, rfl⟩ := hv.shape
  have HM := Lib.hid hm
  have HV := Lib.hid hv
  have HZ := Lib.hid hz
  have HLV := Lib.hid (fun V h => lives_any m V h)
  clear hm hv hz
  go_enter Tryd.func4, Tryd.ntmps4
  go_upto_region 1 with fail
  refine wp_world ?_
  intro W hW
  have x2 : Box W w.heap.size [.string l.root.group, .string l.root.artifact, .string l.root.version, .slice ao l.pins.length cap] := by rw [hW]; exact Box.new w [.string l.root.group, .string l.root.artifact, .string l.root.version, .slice ao l.pins.length cap] _ _ rfl
  have hB : Below w.heap.size w W := by rw [hW]; exact (Below.refl _ w).alloc (Nat.le_refl _) _
  clear hW
  have X0 := Lib.hid x2
  have HB0 := Lib.hid hB
  have HS0 := Lib.hid (HV.out.below hB)
  clear x2 hB HV
  have z0 := X0.out.cell 0 _ rfl
  have z1 := X0.out.cell 1 _ rfl
  have z2 := X0.out.cell 2 _ rfl
  have z3 := X0.out.cell 3 _ rfl
  have lz := X0.out.lt
  go_wp2_with fail
  refine (light_weak l _ W HS0.out).mono ?_
  rintro e w1 ⟨l1, rfl, hl1, hb1⟩
  have L1 := Lib.hid hl1
  have X1 := Lib.hid (X0.out.below hb1 X0.out.lt)
  have HB1 := Lib.hid (HB0.out.trans (hb1.mono HB0.out.size))
  have HS1 := Lib.hid (HS0.out.below hb1)
  clear hb1 hl1 z0 z1 z2 z3 lz X0 HB0 HS0
  cases l1 with
  | false =>
    have hm1 : w1.cell? ⟨0, 0, none⟩ = some (.int .i64 m) := (HB1.out.cell (p := ⟨0, 0, none⟩) (by exact hw0)).trans HM.out
    have HL1 := Lib.hid (HLV.out w1 hm1)
    clear hm1 HLV
    go_wp2_with fail
    refine HL1.out.mono ?_
    rintro e w6 ⟨rfl, hb6⟩
    have HB6 := Lib.hid (HB1.out.trans (hb6.mono HB1.out.size))
    clear hb6
    go_wp2
    go_ret
    exact ⟨rfl, HB6.out⟩
  | true =>
    have HN := Lib.hid (L1.out rfl)
    have z0 := X1.out.cell 0 _ rfl
    have z1 := X1.out.cell 1 _ rfl
    have z2 := X1.out.cell 2 _ rfl
    have z3 := X1.out.cell 3 _ rfl
    have lz := X1.out.lt
    go_wp2_with fail
    refine (refLockMay_any l _ w1 HS1.out HZ.out).mono ?_
    rintro e w2 ⟨rfl, hb2⟩
    have X2 := Lib.hid (X1.out.below hb2 X1.out.lt)
    have HB2 := Lib.hid (HB1.out.trans (hb2.mono HB1.out.size))
    have HS2 := Lib.hid (HS1.out.below hb2)
    clear hb2 z0 z1 z2 z3 lz X1 HB1 HS1 L1
    have hm2 : w2.cell? ⟨0, 0, none⟩ = some (.int .i64 m) := (HB2.out.cell (p := ⟨0, 0, none⟩) (by exact hw0)).trans HM.out
    cases hmay : lockMay l with
    | false =>
      have HL1 := Lib.hid (HLV.out w2 hm2)
      clear hm2 HLV hmay
      go_wp2_with fail
      refine HL1.out.mono ?_
      rintro e w6 ⟨rfl, hb6⟩
      have HB6 := Lib.hid (HB2.out.trans (hb6.mono HB2.out.size))
      clear hb6
      go_wp2
      go_ret
      exact ⟨rfl, HB6.out⟩
    | true =>
      have HMAY := Lib.hid hmay
      by_cases h300 : 300 < more.size
      · have h3I : (300 : Int) < (more.size : Int) := by omega
        have HL1 := Lib.hid (HLV.out w2 hm2)
        clear hm2 HLV hmay h300
        go_wp2_with fail
        refine HL1.out.mono ?_
        rintro e w6 ⟨rfl, hb6⟩
        have HB6 := Lib.hid (HB2.out.trans (hb6.mono HB2.out.size))
        clear hb6
        go_wp2
        go_ret
        exact ⟨rfl, HB6.out⟩
      · have h3I : ¬ (300 : Int) < (more.size : Int) := by omega
        have H3 := Lib.hid h300
        have HM2 := Lib.hid hm2
        have HPL := Lib.hid (print_len HMAY.out HN.out)
        have HPP := Lib.hid (parse_print HMAY.out)
        have HPR := Lib.hid (fun V (h : SliceOf 6 pinC V (.slice ao l.pins.length cap) l.pins) => print_any l _ V h (may_small HMAY.out))
        have HSM := Lib.hid (fun u V (h : SliceOf 6 pinC V (.slice ao l.pins.length cap) l.pins) (h' : SliceOf 6 pinC V u l.pins) => sameLock_any l l _ u V h h')
        have HPZ : Hid ((bs (printB l)).size ≤ 20000) := by show _ ≤ _; rw [bs_size]; exact HPL.out
        have HPD : Hid ((bs (printB l)).data.toList = printB l) := bs_data _
        have HPE : Hid (0 < (bs (printB l)).size) := by show 0 < _; rw [bs_size]; exact List.length_pos_iff.2 (print_ne l)
        have he : ((bs (printB l)).toList == []) = false := by rw [str_lit, bs_data]; exact decide_eq_false (print_ne l)
        clear hmay h300 hm2 HPL
        generalize bs (printB l) = ps at *
        have z0 := X2.out.cell 0 _ rfl
        have z1 := X2.out.cell 1 _ rfl
        have z2 := X2.out.cell 2 _ rfl
        have z3 := X2.out.cell 3 _ rfl
        have lz := X2.out.lt
        go_wp2_with fail
        refine (HPR.out _ HS2.out).mono ?_
        rintro e w3 ⟨rfl, hb3⟩
        have X3 := Lib.hid (X2.out.below hb3 X2.out.lt)
        have HB3 := Lib.hid (HB2.out.trans (hb3.mono HB2.out.size))
        have HS3 := Lib.hid (HS2.out.below hb3)
        have HM3 : Hid (w3.cell? ⟨0, 0, none⟩ = some (.int .i64 m)) := (hb3.cell (p := ⟨0, 0, none⟩) (by have := HB2.out.size; show 0 < w2.heap.size; omega)).trans HM2.out
        clear hb3 z0 z1 z2 z3 lz X2 HB2 HS2 HPR HM2
        have HPA := Lib.hid (parse_any ps m w3 (by have := HPZ.out; omega) HM3.out)
        rw [HPD.out, HPP.out] at HPA
        have HPA := Lib.hid (show Calls _ _ _ _ (fun e w' => ∃ v, e = .returned (.tuple #[.agg #[.string l.root.group, .string l.root.artifact, .string l.root.version, v], .int .i64 0, .int .i64 0]) ∧ SliceOf 6 pinC w' v l.pins ∧ Below w3.heap.size w3 w') from HPA.out)
        go_wp2_with fail
        refine HPA.out.mono ?_
        rintro e w4 ⟨u, rfl, hu4, hb4⟩
        obtain ⟨bo, bc, rfl⟩ := hu4.shape
        have X4 := Lib.hid (X3.out.below hb4 X3.out.lt)
        have HB4 := Lib.hid (HB3.out.trans (hb4.mono HB3.out.size))
        have HS4 := Lib.hid (HS3.out.below hb4)
        have HU4 := Lib.hid hu4
        clear hb4 hu4 X3 HB3 HS3 HPA
        go_upto_region 5 with fail
        refine wp_world ?_
        intro W5 hW5
        have y5 : Box W5 w4.heap.size [.string l.root.group, .string l.root.artifact, .string l.root.version, .slice bo l.pins.length bc] := by rw [hW5]; exact Box.new w4 [.string l.root.group, .string l.root.artifact, .string l.root.version, .slice bo l.pins.length bc] _ _ rfl
        have hb5 : Below w4.heap.size w4 W5 := by rw [hW5]; exact (Below.refl _ w4).alloc (Nat.le_refl _) _
        clear hW5
        have x5 := X4.out.below hb5 X4.out.lt
        have HB5 := Lib.hid (HB4.out.trans (hb5.mono HB4.out.size))
        have HS5 := Lib.hid (HS4.out.below hb5)
        have HU5 := Lib.hid (HU4.out.below hb5)
        have z0 := x5.cell 0 _ rfl
        have z1 := x5.cell 1 _ rfl
        have z2 := x5.cell 2 _ rfl
        have z3 := x5.cell 3 _ rfl
        have lz := x5.lt
        have q0 := y5.cell 0 _ rfl
        have q1 := y5.cell 1 _ rfl
        have q2 := y5.cell 2 _ rfl
        have q3 := y5.cell 3 _ rfl
        have lq := y5.lt
        clear hb5 x5 y5 X4 HB4 HS4 HU4
        go_wp2_with fail
        refine (HSM.out _ _ HS5.out HU5.out).mono ?_
        rintro e w6 ⟨rfl, hb6⟩
        have HB6 := Lib.hid (HB5.out.trans (hb6.mono HB5.out.size))
        clear hb6 z0 z1 z2 z3 lz q0 q1 q2 q3 lq HB5 HS5 HU5 HSM
        simp only [decide_true]
        have hpz : ps.size ≤ 20000 := HPZ.out
        have hpe : 0 < ps.size := HPE.out
        obtain ⟨k, hk⟩ : ∃ k : Nat, at' % (ps.size : Int) = (k : Int) := ⟨(at' % (ps.size : Int)).toNat, by have := Int.emod_nonneg at' (show (ps.size : Int) ≠ 0 by omega); omega⟩
        have hkl : k < ps.size := by have := Int.emod_lt_of_pos at' (show (0 : Int) < (ps.size : Int) by omega); omega
        have hwk : wrap64 (at' % (ps.size : Int)) = (k : Int) := by rw [hk]; exact IntWalk.wrap64_in _ (by omega)
        have hk1 : (k : Int) ≤ (ps.size : Int) := by omega
        have hk2 : (0 : Int) ≤ (k : Int) := by omega
        have HKL := Lib.hid hkl
        have HPF : Hid (∃ j, parseB ((ps.extract 0 k).data.toList) = .error j) := by
          show ∃ j, _ = _
          have e1 : (ps.extract 0 k).data.toList = (printB l).take k := by
            have h := bs_extract (printB l) 0 k
            rw [← HPD.out, data_bs] at h
            rw [h, bs_data, HPD.out]; simp
          rw [e1]
          cases hx : parseB ((printB l).take k) with
          | error j => exact ⟨j, rfl⟩
          | ok l' =>
            exfalso
            have h2 : parseB ((printB l).take k ++ (printB l).drop k) = .ok l := by rw [List.take_append_drop]; exact HPP.out
            have h3 := parse_whole hx h2
            have h4 := congrArg List.length h3
            have h5 := congrArg List.length HPD.out
            rw [size_data] at h5
            rw [List.length_drop, List.length_nil] at h4
            omega
        have hks : (ps.extract 0 k).size ≤ 100000 := by rw [ByteArray.size_extract]; omega
        have HKS := Lib.hid hks
        have hsum : ¬ 9223372036854775807 < ps.size + more.size := by have := H3.out; omega
        have HAP : Hid ((ps ++ more).data.toList = printB l ++ more.data.toList) := by show _ = _; rw [← HPD.out]; simp
        have HAS : Hid ((ps ++ more).size ≤ 100000) := by show _ ≤ _; rw [ByteArray.size_append]; have := H3.out; omega
        clear hk hkl hks
        have HM6 : Hid (w6.cell? ⟨0, 0, none⟩ = some (.int .i64 m)) := (HB6.out.cell (p := ⟨0, 0, none⟩) (by exact hw0)).trans HM.out
        clear HM3
        go_wp2_with fail
        generalize hpx : ps.extract 0 k = px at *
        clear hpx
        obtain ⟨j, hj⟩ := HPF.out
        have HP7 := Lib.hid (parse_any px m w6 HKS.out HM6.out)
        rw [hj] at HP7
        have HP7 := Lib.hid (show Calls _ _ _ _ (fun e w' => e = .returned (.tuple #[.agg #[.string ⟨#[]⟩, .string ⟨#[]⟩, .string ⟨#[]⟩, .slice none 0 0], .int .i64 1, .int .i64 j]) ∧ Below w6.heap.size w6 w') from HP7.out)
        clear hj HPF
        refine HP7.out.mono ?_
        rintro e w7 ⟨rfl, hb7⟩
        have HB7 := Lib.hid (HB6.out.trans (hb7.mono HB6.out.size))
        clear hb7 HB6 HP7 HM6 he hwk hk1 hk2
        go_upto_region 8 with fail
        refine wp_world ?_
        intro W8 hW8
        have hb8 : Below w7.heap.size w7 W8 := by rw [hW8]; exact (Below.refl _ w7).alloc (Nat.le_refl _) _
        clear hW8
        have HB8 := Lib.hid (HB7.out.trans (hb8.mono HB7.out.size))
        clear hb8 HB7
        have HM8 : Hid (W8.cell? ⟨0, 0, none⟩ = some (.int .i64 m)) := (HB8.out.cell (p := ⟨0, 0, none⟩) (by exact hw0)).trans HM.out
        have HP8 := Lib.hid (parse_any (ps ++ more) m W8 HAS.out HM8.out)
        rw [HAP.out] at HP8
        by_cases hme : more.data.toList = []
        · have hm1 : (more.toList == []) = true := by rw [str_lit, hme]; rfl
          have hm2 : (more.toList != []) = false := by rw [bne, hm1]; rfl
          rw [hme, List.append_nil, HPP.out] at HP8
          have HP8 := Lib.hid (show Calls _ _ _ _ (fun e w' => ∃ v, e = .returned (.tuple #[.agg #[.string l.root.group, .string l.root.artifact, .string l.root.version, v], .int .i64 0, .int .i64 0]) ∧ SliceOf 6 pinC w' v l.pins ∧ Below W8.heap.size W8 w') from HP8.out)
          clear hme
          go_wp2_with fail
          refine HP8.out.mono ?_
          rintro e w9 ⟨u9, rfl, hu9, hb9⟩
          obtain ⟨co, cc, rfl⟩ := hu9.shape
          have HB9 := Lib.hid (HB8.out.trans (hb9.mono HB8.out.size))
          clear hu9 hb9 HP8
          go_upto_region 9 with fail
          refine wp_world ?_
          intro W10 hW10
          have hb10 : Below w9.heap.size w9 W10 := by rw [hW10]; exact (Below.refl _ w9).alloc (Nat.le_refl _) _
          clear hW10
          have HB10 := Lib.hid (HB9.out.trans (hb10.mono HB9.out.size))
          clear hb10 HB9
          have hm10 : W10.cell? ⟨0, 0, none⟩ = some (.int .i64 m) := (HB10.out.cell (p := ⟨0, 0, none⟩) (by exact hw0)).trans HM.out
          have HL1 := Lib.hid (HLV.out W10 hm10)
          clear hm10 HLV
          go_wp2_with fail
          refine HL1.out.mono ?_
          rintro e w11 ⟨rfl, hb11⟩
          have HB11 := Lib.hid (HB10.out.trans (hb11.mono HB10.out.size))
          clear hb11
          go_wp2
          go_ret
          exact ⟨rfl, HB11.out⟩
        · have hm1 : (more.toList == []) = false := by rw [str_lit]; exact decide_eq_false hme
          have hm2 : (more.toList != []) = true := by rw [bne, hm1]; rfl
          obtain ⟨i, hi⟩ : ∃ i, parseB (printB l ++ more.data.toList) = .error i := by
            cases hx : parseB (printB l ++ more.data.toList) with
            | error i => exact ⟨i, rfl⟩
            | ok l' => exact absurd (parse_whole HPP.out hx) hme
          rw [hi] at HP8
          have HP8 := Lib.hid (show Calls _ _ _ _ (fun e w' => e = .returned (.tuple #[.agg #[.string ⟨#[]⟩, .string ⟨#[]⟩, .string ⟨#[]⟩, .slice none 0 0], .int .i64 1, .int .i64 i]) ∧ Below W8.heap.size W8 w') from HP8.out)
          clear hme hi
          go_wp2_with fail
          refine HP8.out.mono ?_
          rintro e w9 ⟨rfl, hb9⟩
          have HB9 := Lib.hid (HB8.out.trans (hb9.mono HB8.out.size))
          clear hb9 HP8
          go_upto_region 9 with fail
          refine wp_world ?_
          intro W10 hW10
          have hb10 : Below w9.heap.size w9 W10 := by rw [hW10]; exact (Below.refl _ w9).alloc (Nat.le_refl _) _
          clear hW10
          have HB10 := Lib.hid (HB9.out.trans (hb10.mono HB9.out.size))
          clear hb10 HB9
          have hm10 : W10.cell? ⟨0, 0, none⟩ = some (.int .i64 m) := (HB10.out.cell (p := ⟨0, 0, none⟩) (by exact hw0)).trans HM.out
          have HL1 := Lib.hid (HLV.out W10 hm10)
          clear hm10 HLV
          go_wp2_with fail
          refine HL1.out.mono ?_
          rintro e w11 ⟨rfl, hb11⟩
          have HB11 := Lib.hid (HB10.out.trans (hb11.mono HB10.out.size))
          clear hb11
          go_wp2
          go_ret
          exact ⟨rfl, HB11.out⟩

end Go.Proofs.YtmcjpmogjmnfpaaDoor
