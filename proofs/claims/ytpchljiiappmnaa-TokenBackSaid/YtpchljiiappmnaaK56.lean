/- The walk of the law TokenBack; its condition stands in the theorem. -/
import Derived.Test.YtpchljiiappmnaaK55
import Derived.Test.YtpchljiiappmnaaK31
namespace Go.Proofs.Ytpchljiiappmnaa
open Go Go.RowKit

theorem TokSl.ms {base : Nat} {w : World} {s : S} {ov : Value} {L : List TkM} {acc : List (Tk × Bs)} (h : TokSl base w s ov L acc) : TkMs w ov L ∧ L.map (·.t) = acc.map (·.1) := by
  refine ⟨⟨h.own.slice tkC_len, fun x hx => (h.att x hx).slice atC_len⟩, ?_⟩
  have := congrArg (List.map Prod.fst) h.is
  simpa [List.map_map, Function.comp_def] using this
theorem TkMs.tks {w : World} {v : Value} {L : List TkM} (h : TkMs w v L) : TksOf w v (L.map (·.t)) := ⟨L, h.own, h.att, rfl⟩

set_option maxRecDepth 100000 in
set_option maxHeartbeats 8000000 in
theorem back_bad (s0 : S) (m : Int) (w : World) (hm : w.cell? ⟨0, 0, none⟩ = some (.int .i64 m)) {x : Int} {r : Bs} (hall : allR (cutS s0).data.toList = .bad x r) :
    Calls Try.prog 10 #[.string s0] w fun e w' => e = .returned (.bool true) ∧ Below w.heap.size w w' := by
  have hw0 : 0 < w.heap.size := World.block_lt_of_cell? w _ hm
  have HM := Lib.hid hm
  clear hm
  have hs := cutS_size s0
  have HCUT := Lib.hid (fun w => cut_any s0 w)
  generalize cutS s0 = s at *
  have HA := Lib.hid (all_bad s m w (by omega) HM.out hall)
  have hx0 : (x != 0) = true := by rw [bne_iff_ne]; exact allR_bad_ne hall
  clear hall
  go_enter Try.func10, Try.ntmps10
  go_wp2_with fail
  refine (HCUT.out _).mono ?_
  rintro e w' ⟨rfl, rfl⟩
  go_wp2_with fail
  refine HA.out.mono ?_
  intro e w1 hO
  obtain ⟨rfl, hb1⟩ := hO
  have HB1 := Lib.hid hb1
  have hw1 := hb1.size
  clear hb1
  unfold placeV
  generalize (lineCol (s.data.toList.take (pos s r))).1 = li at *
  generalize (lineCol (s.data.toList.take (pos s r))).2 = co at *
  generalize pos s r = o at *
  go_wp2_with fail
  refine Calls.world ?_
  intro W hW
  have hB : Below w1.heap.size w1 W := by rw [hW]; exact (Below.refl _ _).alloc (Nat.le_refl _) _
  clear hW
  refine (lives_any m W ((hB.cell (by simp; omega)).trans ((HB1.out.cell (by simp; omega)).trans HM.out))).mono ?_
  rintro e w2 ⟨rfl, hb2⟩
  have HZ := Lib.hid ((HB1.out.trans (hB.mono hw1)).trans (hb2.mono (Nat.le_trans hw1 hB.size)))
  clear hB hb2
  go_wp2
  go_ret
  exact ⟨rfl, HZ.out⟩

set_option maxRecDepth 100000 in
set_option maxHeartbeats 8000000 in
theorem back_ok (s0 : S) (m : Int) (w : World) (hm : w.cell? ⟨0, 0, none⟩ = some (.int .i64 m)) {acc : List (Tk × Bs)} {r : Bs} (hall : allR (cutS s0).data.toList = .ok acc r) :
    Calls Try.prog 10 #[.string s0] w fun e w' => e = .returned (.bool true) ∧ Below w.heap.size w w' := by
  have hw0 : 0 < w.heap.size := World.block_lt_of_cell? w _ hm
  have HM := Lib.hid hm
  clear hm
  have hs := cutS_size s0
  have HCUT := Lib.hid (fun w => cut_any s0 w)
  generalize cutS s0 = s at *
  have HA := Lib.hid (all_ok s m w (by omega) HM.out hall)
  obtain ⟨hl1, hl2⟩ := allR_eat hall
  rw [size_data] at hl1 hl2
  obtain ⟨more, hb, hj, hp⟩ := back_all hall
  obtain ⟨ts, hts⟩ : ∃ ts, acc.map (·.1) = ts := ⟨_, rfl⟩
  rw [hts] at hl1 hl2 hb hj hp
  have hl3 := (allR_eat hb).2
  rw [hj] at hl3
  obtain ⟨P, hP⟩ : ∃ P : S, bs (printP ts) = P := ⟨_, rfl⟩
  have hPs : P.size ≤ 12000 := by rw [← hP, bs_size]; omega
  have HTS := Lib.hid hts
  have HPR : Hid (∀ (w : World) v L, TkMs w v L → L.map (·.t) = ts → Calls Try.prog 29 #[v] w fun e w' => e = .returned (.string P) ∧ Below w.heap.size w w') := fun w v L h1 h2 => by
    have := print_any v L w h1 (by rw [h2]; omega)
    rw [h2, hP] at this; exact this
  have HPR2 : Hid (∀ (w : World) v L, TkMs w v L → L.map (·.t) = joined ts → Calls Try.prog 29 #[v] w fun e w' => e = .returned (.string P) ∧ Below w.heap.size w w') := fun w v L h1 h2 => by
    have := print_any v L w h1 (by rw [h2]; omega)
    rw [h2, hp, hP] at this; exact this
  have HA2 : Hid (∀ (w : World), w.cell? ⟨0, 0, none⟩ = some (.int .i64 m) → Calls Try.prog 20 #[.string P] w fun e w' => ∃ ao cap L, e = .returned (.tuple #[.slice ao L.length cap, .int .i64 0, zeroPlace]) ∧ TkMs w' (.slice ao L.length cap) L ∧ L.map (·.t) = joined ts ∧ Below w.heap.size w w') := fun w hw => by
    refine (all_ok P m w (by omega) hw (by rw [← hP, bs_data]; exact hb)).mono fun e w' hO => ?_
    obtain ⟨ov, L, rfl, hT, hbb⟩ := hO
    obtain ⟨ao, cap, rfl⟩ := hT.own.shape
    exact ⟨ao, cap, L, rfl, hT.ms.1, hT.ms.2.trans hj, hbb⟩
  have HJ : Hid (∀ (w : World) v L, TkMs w v L → L.map (·.t) = ts → Calls Try.prog 31 #[v] w fun e w' => ∃ ov, e = .returned ov ∧ TksOf w' ov (joined ts) ∧ Below w.heap.size w w') := fun w v L h1 h2 => by
    have := joined_any v L w h1 (by rw [h2]; omega)
    rw [h2] at this; exact this
  have HS : Hid (∀ (w : World) v1 v2, TksOf w v1 (joined ts) → TksOf w v2 (joined ts) → Calls Try.prog 22 #[v1, v2] w (Qt (.bool true) w)) := fun w v1 v2 h1 h2 => by
    have := same_any v1 v2 _ _ w h1 h2
    rwa [decide_eq_true rfl] at this
  clear hall hl1 hl2 hl3 hb hj hp hts hP
  go_enter Try.func10, Try.ntmps10
  go_wp2_with fail
  refine (HCUT.out _).mono ?_
  rintro e w' ⟨rfl, rfl⟩
  go_wp2_with fail
  refine HA.out.mono ?_
  intro e w1 hO
  obtain ⟨ov, L, rfl, hT, hb1⟩ := hO
  obtain ⟨ao, cap, rfl⟩ := hT.own.shape
  have HT1 := Lib.hid hT.ms.1
  have HL1 := Lib.hid (hT.ms.2.trans HTS.out)
  have HB1 := Lib.hid hb1
  have hw1 := hb1.size
  clear hT hb1
  unfold zeroPlace
  go_wp2_with fail
  refine Calls.world ?_
  intro W hW
  have hBW : Below w1.heap.size w1 W := by rw [hW]; exact (Below.refl _ _).alloc (Nat.le_refl _) _
  clear hW
  have HTW := Lib.hid (HT1.out.below hBW)
  have HBW := Lib.hid (HB1.out.trans (hBW.mono hw1))
  have hwW : w.heap.size ≤ W.heap.size := Nat.le_trans hw1 hBW.size
  clear hBW
  refine (HPR.out _ _ _ HTW.out HL1.out).mono ?_
  rintro e w2 ⟨rfl, hb2⟩
  have HT2 := Lib.hid (HTW.out.below hb2)
  have HB2 := Lib.hid (HBW.out.trans (hb2.mono hwW))
  have hw2 : w.heap.size ≤ w2.heap.size := Nat.le_trans hwW hb2.size
  clear hb2
  go_wp2_with fail
  refine (HA2.out w2 ((HB2.out.cell (by exact hw0)).trans HM.out)).mono ?_
  rintro e w3 ⟨ao3, cap3, L3, rfl, hT3, hL3, hb3⟩
  have HT3 := Lib.hid hT3
  have HL3 := Lib.hid hL3
  have HT23 := Lib.hid (HT2.out.below hb3)
  have HB3 := Lib.hid (HB2.out.trans (hb3.mono hw2))
  have hw3 : w.heap.size ≤ w3.heap.size := Nat.le_trans hw2 hb3.size
  clear hT3 hL3 hb3
  unfold zeroPlace
  go_wp2_with fail
  refine Calls.world ?_
  intro W4 hW4
  have hB4 : Below w3.heap.size w3 W4 := by rw [hW4]; exact (Below.refl _ _).alloc (Nat.le_refl _) _
  clear hW4
  have HT4 := Lib.hid (HT23.out.below hB4)
  have HM4 := Lib.hid (HT3.out.below hB4)
  have HB4 := Lib.hid (HB3.out.trans (hB4.mono hw3))
  have hw4 : w.heap.size ≤ W4.heap.size := Nat.le_trans hw3 hB4.size
  clear hB4
  refine (HJ.out _ _ _ HT4.out HL1.out).mono ?_
  rintro e w5 ⟨ov5, rfl, hT5, hb5⟩
  have HT5 := Lib.hid (HT4.out.below hb5)
  have HM5 := Lib.hid (HM4.out.below hb5)
  have HB5 := Lib.hid (HB4.out.trans (hb5.mono hw4))
  have hw5 : w.heap.size ≤ w5.heap.size := Nat.le_trans hw4 hb5.size
  have h35 : TksOf w5 (.slice ao3 L3.length cap3) (joined ts) := by rw [← HL3.out]; exact HM5.out.tks
  have HJ5 := Lib.hid hT5
  have H35 := Lib.hid h35
  clear hb5 hT5 h35
  go_wp2_with fail
  refine (HS.out _ _ _ H35.out HJ5.out).mono ?_
  rintro e w' ⟨rfl, n, rfl⟩
  have HT6 := Lib.hid (HT5.out.below (belowN (Below.refl _ _) n))
  have HM6 := Lib.hid (HM5.out.below (belowN (Below.refl _ _) n))
  have HB6 := Lib.hid (belowN HB5.out n)
  go_wp2_with fail
  refine (HPR2.out _ _ _ HM6.out HL3.out).mono ?_
  rintro e w7 ⟨rfl, hb7⟩
  have HT7 := Lib.hid (HT6.out.below hb7)
  have HB7 := Lib.hid (HB6.out.trans (hb7.mono hw5))
  have hw7 : w.heap.size ≤ w7.heap.size := Nat.le_trans hw5 hb7.size
  clear hb7
  go_wp2_with fail
  refine (HPR.out _ _ _ HT7.out HL1.out).mono ?_
  rintro e w8 ⟨rfl, hb8⟩
  have HB8 := Lib.hid (HB7.out.trans (hb8.mono hw7))
  have hw8 : w.heap.size ≤ w8.heap.size := Nat.le_trans hw7 hb8.size
  clear hb8
  go_wp2_with fail
  refine (lives_any m w8 ((HB8.out.cell (by exact hw0)).trans HM.out)).mono ?_
  rintro e w9 ⟨rfl, hb9⟩
  have HZ := Lib.hid (HB8.out.trans (hb9.mono hw8))
  clear hb9
  go_wp2
  go_ret
  exact ⟨rfl, HZ.out⟩

theorem back_any (s0 : S) (m : Int) (w : World) (hm : w.cell? ⟨0, 0, none⟩ = some (.int .i64 m)) :
    Calls Try.prog 10 #[.string s0] w fun e w' => e = .returned (.bool true) ∧ Below w.heap.size w w' := by
  cases h : allR (cutS s0).data.toList with
  | ok acc r => exact back_ok s0 m w hm h
  | bad x r => exact back_bad s0 m w hm h

end Go.Proofs.Ytpchljiiappmnaa
