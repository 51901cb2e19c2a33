/- The walk of the program's reader's until; its conditions stand in the theorem. -/
import Derived.Test.YtpchljiiappmnaaK14
namespace Go.Proofs.Ytpchljiiappmnaa
open Go Go.RowKit

theorem index_room {l til : Bs} (h : 0 ≤ Lib.index l til) : (Lib.index l til).toNat + til.length ≤ l.length := by
  induction l with
  | nil =>
    unfold Lib.index at h ⊢
    split
    · rename_i h2; simp at h2; simp [h2]
    · rename_i h2; rw [if_neg h2] at h; omega
  | cons c l ih =>
    have hge := Lib.index_ge l til
    unfold Lib.index at h ⊢
    split
    · rename_i h2
      have := (List.isPrefixOf_iff_prefix.1 h2).length_le
      simpa using this
    · rename_i h2
      rw [if_neg h2] at h
      split
      · rename_i h3; rw [if_pos h3] at h; omega
      · rename_i h3
        have h4 : 0 ≤ Lib.index l til := by simp at h3; omega
        have := ih h4
        simp only [List.length_cons]; omega

set_option maxRecDepth 100000 in
set_option maxHeartbeats 4000000 in
theorem until_any (b : Nat) (s fr til : S) (l0 l : Bs) (ov : Value) (m : Int) (w : World) (h : Rd w b s l0 ov) (hl : l = l0.drop fr.size) (hfs : fr.size ≤ l0.length) (hs : s.size ≤ 1000000) (hm : w.cell? ⟨0, 0, none⟩ = some (.int .i64 m))
    (ht : til.data.toList ≠ []) (hts : til.size ≤ 100) :
    Calls Try.prog 79 #[.pointer (some ⟨b, 0, none⟩), .string fr, .string til] w (Out (fun t => .string (bs t)) b s ov w (plain til.data.toList l)) := by
  have hsuf : l <:+ s.data.toList := by rw [hl]; exact (List.drop_suffix _ _).trans h.suf
  have hpl : pos s l = pos s l0 + fr.size := by
    have h1 := pos_add h.suf
    have h2 := pos_add hsuf
    have h3 : l.length = l0.length - fr.size := by rw [hl, List.length_drop]
    omega
  have hadd := pos_add hsuf
  have HO : Hid (plain til.data.toList l = untilP til.data.toList l) := plain_until ht l
  have hge := Lib.index_ge l til.data.toList
  have hroom := fun h0 => index_room (l := l) (til := til.data.toList) h0
  rw [size_data] at hroom
  have HI : Hid (∀ w, w.cell? ⟨0, 0, none⟩ = some (.int .i64 m) → Calls Try.prog 111 #[.string (bs l), .string til] w fun e w' => e = .returned (.int .i64 (Lib.index l til.data.toList)) ∧ w = w') := fun w hw => by
    have := index_any (bs l) til m w (by rw [bs_size]; omega) hw
    rw [bs_data] at this; exact this
  have HU : Hid (untilP til.data.toList l = if 0 ≤ Lib.index l til.data.toList then
    if span cText (l.take (Lib.index l til.data.toList).toNat) < (Lib.index l til.data.toList).toNat then .bad 10 (l.drop (span cText (l.take (Lib.index l til.data.toList).toNat)))
    else .ok (l.take (Lib.index l til.data.toList).toNat) (l.drop ((Lib.index l til.data.toList).toNat + til.size))
  else if span cText l < l.length then .bad 10 (l.drop (span cText l)) else .bad 13 []) := by show _ = _; rw [← size_data til]; rfl
  have c1 := h.c1
  have f1 := h.f1
  have hlt := h.box.lt
  have HR := Lib.hid h
  have HM := Lib.hid hm
  have HS := Lib.hid hsuf
  have HPL := Lib.hid hpl
  have hq0 : pos s l0 + fr.size ≤ s.size := by omega
  clear h hm hl hsuf
  generalize hI : Lib.index l til.data.toList = n at *
  clear hI
  generalize pos s l0 = p0 at *
  have hpp : pos s l ≤ s.size := by omega
  have HADD := Lib.hid hadd
  clear hadd hpl
  generalize hpg : pos s l = p at *
  have HPG := Lib.hid hpg
  clear hpg
  by_cases hn : 0 ≤ n
  · obtain ⟨k, rfl⟩ := Int.eq_ofNat_of_zero_le hn
    have hk := hroom hn
    rw [Int.toNat_natCast] at hk
    have hkl : k ≤ l.length := by omega
    have hk0 : (0 : Int) ≤ (k : Int) := by omega
    have hk1 : k ≤ (bs l).size := by rw [bs_size]; exact hkl
    have HV : Hid ((bs l).extract 0 k = bs (l.take k)) := by show _ = _; rw [bs_extract]; simp
    have HVL : Hid ((bs (l.take k)).size = k) := by show _ = _; rw [bs_size, List.length_take]; omega
    have hneg : ¬ (k : Int) < 0 := by omega
    have hkp : p + (k + til.size) ≤ s.size := by have := HADD.out; omega
    have HBAD : Hid (∀ j, span cText (bs (l.take k)).data.toList = j → j < (bs (l.take k)).size → plain til.data.toList l = .bad 10 (l.drop j) ∧ pos s (l.drop j) = p + j) := fun j h1 h2 => by
      rw [HVL.out] at h2
      rw [bs_data] at h1
      refine ⟨by rw [HO.out, HU.out, if_pos hn, Int.toNat_natCast, h1, if_pos h2], ?_⟩
      have h3 := pos_add ((List.drop_suffix j l).trans HS.out)
      have h4 := HADD.out
      rw [List.length_drop] at h3; omega
    have HOK : Hid (span cText (bs (l.take k)).data.toList = k → plain til.data.toList l = .ok (l.take k) (l.drop (k + til.size)) ∧ pos s (l.drop (k + til.size)) = p + (k + til.size) ∧ l.drop (k + til.size) <:+ s.data.toList) := fun h1 => by
      rw [bs_data] at h1
      have h0 := (List.drop_suffix (k + til.size) l).trans HS.out
      refine ⟨by rw [HO.out, HU.out, if_pos hn, Int.toNat_natCast, h1, if_neg (by omega)], ?_, h0⟩
      have h3 := pos_add h0
      have h4 := HADD.out
      rw [List.length_drop] at h3; omega
    clear hroom hge
    go_enter Try.func79, Try.ntmps79
    go_wp2_with fail
    refine Calls.world ?_
    intro W hW
    have hR : Rd W b s l ov := by rw [hW]; exact HR.out.move HS.out (v := .int .i64 ((p0 : Int) + fr.size)) (by rw [HPG.out, HPL.out]; rfl)
    have hm : W.cell? ⟨0, 0, none⟩ = some (.int .i64 m) := by rw [hW, World.cell?_setCell_other _ _ _ _ (by simp)]; exact HM.out
    have hG : Hid (w.grownBy W (some b)) := by rw [hW]; exact setCell_grown _ b 1 _
    clear hW c1 f1
    have c1 := hR.c1
    rw [HPG.out] at c1
    have f1 := hR.f1
    have hltW := hR.box.lt
    have HR2 := Lib.hid hR
    clear hR
    have HRT := Lib.hid (fun n => rest_any b s l ov (W.drewN n) (HR2.out.drewN n))
    have HRT0 := Lib.hid (rest_any b s l ov W HR2.out)
    generalize bs l = u at *
    refine HRT0.out.mono ?_
    rintro e w' ⟨rfl, n1, rfl⟩
    go_wp2_with fail
    refine (HI.out _ (show (W.drewN n1).cell? _ = _ from hm)).mono ?_
    rintro e w' ⟨rfl, rfl⟩
    go_wp2_with fail
    refine (HRT.out _).mono ?_
    rintro e w' ⟨rfl, n2, rfl⟩
    go_wp2
    rw [HV.out]
    have HVK := Lib.hid (show k ≤ l.length from hkl)
    clear HV
    generalize hvv : bs (l.take k) = v at *
    have HVV := Lib.hid hvv
    clear hvv
    go_loop [9, 38] (fun _ i => ∃ j : Nat, j ≤ k ∧ i = .int .i64 j ∧ Hid (span cText v.data.toList = j + span cText (v.data.toList.drop j))) (fun _ i => k - (intOf i).toNat)
    case atStart => exact ⟨0, Nat.zero_le _, rfl, by show _ = _; simp⟩
    case round =>
      obtain ⟨j, hj, rfl, H⟩ := hrel
      by_cases hjk : j < k
      · have hjv : j < v.size := by have := HVL.out; omega
        have HD := Lib.hid (drop_byte v j hjv)
        have hjp : (p : Int) + (j : Int) ≤ 1000000 := by have := HADD.out; have := HVK.out; omega
        cases hp : cText v[j]
        all_goals
          have HP := Lib.hid hp
          clear hp
        · have HJ := Lib.hid (HBAD.out j (by rw [H.out, HD.out]; simp [span, HP.out]) hjv)
          go_wp2_with (go_at_call 115; refine (isText_any _ _).mono ?_; rintro e w' ⟨rfl, rfl⟩; rw [HP.out])
          refine (fail_any 10 (p + j) _).mono ?_
          rintro e w' ⟨rfl, rfl⟩
          go_wp2
          rw [HJ.out.1]
          exact ⟨rfl, by rw [HJ.out.2], hG.out.trans (grownN W _ _)⟩
        · go_wp2_with (go_at_call 115; refine (isText_any _ _).mono ?_; rintro e w' ⟨rfl, rfl⟩; rw [HP.out])
          go_round
          case rel => exact ⟨j + 1, by omega, by go_num, by show _ = _; rw [H.out, HD.out]; simp only [span, HP.out, if_true]; omega⟩
          case measure => simp [intOf]; omega
      · have hall : span cText v.data.toList = k := by
          have := HVL.out
          rw [H.out, List.drop_of_length_le (by rw [size_data]; omega)]; simp [span]; omega
        have HK := Lib.hid (HOK.out hall)
        clear hall H
        go_wp2
        go_ret
        rw [HK.out.1]
        refine ⟨by show _ = Ending.returned (.string (bs (l.take k))); rw [HVV.out]; rfl, ?_, (hG.out.trans (grownN W _ _)).trans (setCell_grown _ b 1 _)⟩
        exact (HR2.out.drewN _).move HK.out.2.2 (v := .int .i64 ((p : Int) + ((k : Int) + (til.size : Int)))) (by rw [HK.out.2.1]; rfl)
  · have hn1 : n = -1 := by omega
    have HBAD : Hid (∀ j, span cText (bs l).data.toList = j → j < (bs l).size → plain til.data.toList l = .bad 10 (l.drop j) ∧ pos s (l.drop j) = p + j) := fun j h1 h2 => by
      rw [bs_size] at h2
      rw [bs_data] at h1
      refine ⟨by rw [HO.out, HU.out, if_neg hn, h1, if_pos h2], ?_⟩
      have h3 := pos_add ((List.drop_suffix j l).trans HS.out)
      have h4 := HADD.out
      rw [List.length_drop] at h3; omega
    have HEND : Hid (span cText (bs l).data.toList = (bs l).size → plain til.data.toList l = .bad 13 []) := fun h1 => by
      rw [bs_data, bs_size] at h1
      rw [HO.out, HU.out, if_neg hn, h1, if_neg (by omega)]
    have HVK : Hid ((bs l).size ≤ l.length) := by show _ ≤ _; rw [bs_size]; exact Nat.le_refl _
    subst hn1
    clear hroom hge hn HU
    go_enter Try.func79, Try.ntmps79
    go_wp2_with fail
    refine Calls.world ?_
    intro W hW
    have hR : Rd W b s l ov := by rw [hW]; exact HR.out.move HS.out (v := .int .i64 ((p0 : Int) + fr.size)) (by rw [HPG.out, HPL.out]; rfl)
    have hm : W.cell? ⟨0, 0, none⟩ = some (.int .i64 m) := by rw [hW, World.cell?_setCell_other _ _ _ _ (by simp)]; exact HM.out
    have hG : Hid (w.grownBy W (some b)) := by rw [hW]; exact setCell_grown _ b 1 _
    clear hW c1 f1
    have c0 := hR.c0
    have c1 := hR.c1
    rw [HPG.out] at c1
    have hltW := hR.box.lt
    have HR2 := Lib.hid hR
    clear hR
    have HRT := Lib.hid (fun n => rest_any b s l ov (W.drewN n) (HR2.out.drewN n))
    have HRT0 := Lib.hid (rest_any b s l ov W HR2.out)
    generalize bs l = v at *
    refine HRT0.out.mono ?_
    rintro e w' ⟨rfl, n1, rfl⟩
    go_wp2_with fail
    refine (HI.out _ (show (W.drewN n1).cell? _ = _ from hm)).mono ?_
    rintro e w' ⟨rfl, rfl⟩
    go_wp2_with fail
    refine (HRT.out _).mono ?_
    rintro e w' ⟨rfl, n2, rfl⟩
    go_wp2
    go_loop [9, 38] (fun _ i => ∃ j : Nat, j ≤ v.size ∧ i = .int .i64 j ∧ Hid (span cText v.data.toList = j + span cText (v.data.toList.drop j))) (fun _ i => v.size - (intOf i).toNat)
    case atStart => exact ⟨0, Nat.zero_le _, rfl, by show _ = _; simp⟩
    case round =>
      obtain ⟨j, hj, rfl, H⟩ := hrel
      by_cases hjk : j < v.size
      · have hjv : j < v.size := hjk
        have HD := Lib.hid (drop_byte v j hjv)
        have hjp : (p : Int) + (j : Int) ≤ 1000000 := by have := HADD.out; have := HVK.out; omega
        cases hp : cText v[j]
        all_goals
          have HP := Lib.hid hp
          clear hp
        · have HJ := Lib.hid (HBAD.out j (by rw [H.out, HD.out]; simp [span, HP.out]) hjv)
          go_wp2_with (go_at_call 115; refine (isText_any _ _).mono ?_; rintro e w' ⟨rfl, rfl⟩; rw [HP.out])
          refine (fail_any 10 (p + j) _).mono ?_
          rintro e w' ⟨rfl, rfl⟩
          go_wp2
          rw [HJ.out.1]
          exact ⟨rfl, by rw [HJ.out.2], hG.out.trans (grownN W _ _)⟩
        · go_wp2_with (go_at_call 115; refine (isText_any _ _).mono ?_; rintro e w' ⟨rfl, rfl⟩; rw [HP.out])
          go_round
          case rel => exact ⟨j + 1, by omega, by go_num, by show _ = _; rw [H.out, HD.out]; simp only [span, HP.out, if_true]; omega⟩
          case measure => simp [intOf]; omega
      · have hall : span cText v.data.toList = v.size := by
          rw [H.out, List.drop_of_length_le (by rw [size_data]; omega)]; simp [span]; omega
        have HK := Lib.hid (HEND.out hall)
        clear hall H
        go_wp2_with fail
        refine (fail_any 13 s.size _).mono ?_
        rintro e w' ⟨rfl, rfl⟩
        go_wp2
        rw [HK.out]
        exact ⟨rfl, by rw [pos_nil], hG.out.trans (grownN W _ _)⟩

end Go.Proofs.Ytpchljiiappmnaa
