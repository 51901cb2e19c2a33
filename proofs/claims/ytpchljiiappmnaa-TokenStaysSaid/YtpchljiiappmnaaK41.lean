/- The walk of the law TokenStays, where there is an error of which it speaks; its condition stands in the theorem. -/
import Derived.Test.YtpchljiiappmnaaK40
namespace Go.Proofs.Ytpchljiiappmnaa
open Go Go.RowKit

theorem stays_all {s t : S} {x : Int} {r v : Bs} {en : Nat} (h : StaysAt s t x r en v) (hs : s.size ≤ 2000) (ht : t.size ≤ 2000) {off li co : Nat} (h1 : pos s r = off) (h2 : (lineCol (s.data.toList.take off)).1 = li) (h3 : (lineCol (s.data.toList.take off)).2 = co) (m : Int) (W : World) (hm : W.cell? ⟨0, 0, none⟩ = some (.int .i64 m)) :
    Calls Try.prog 20 #[.string (s.extract 0 en ++ t)] W fun e w' => e = .returned (.tuple #[.slice none 0 0, .int .i64 x, .agg #[.int .i64 off, .int .i64 li, .int .i64 co]]) ∧ Below W.heap.size W w' := by
  refine (all_bad _ m W ?_ hm h.all).mono fun e w' hO => ?_
  · rw [← size_data, ext_data, List.length_append, List.length_take, size_data, size_data]; omega
  · obtain ⟨rfl, hb⟩ := hO
    refine ⟨?_, hb⟩
    have h4 := h.take
    rw [h1] at h4
    unfold placeV
    rw [h.pos, h1, h4, h2, h3]

set_option maxRecDepth 100000 in
set_option maxHeartbeats 8000000 in
theorem stays_three (s0 t0 : S) (m : Int) (w : World) (hm : w.cell? ⟨0, 0, none⟩ = some (.int .i64 m)) {x : Int} {r : Bs} (hall : allR (cutS s0).data.toList = .bad x r) (hx : Bad3 x) :
    Calls Try.prog 5 #[.string s0, .string t0] w fun e w' => e = .returned (.bool true) ∧ Below w.heap.size w w' := by
  have hw0 : 0 < w.heap.size := World.block_lt_of_cell? w _ hm
  have HM := Lib.hid hm
  clear hm
  have hs := cutS_size s0
  have ht := cutS_size t0
  have HCUT := Lib.hid (fun w => cut_any s0 w)
  have HCU2 := Lib.hid (fun w => cut_any t0 w)
  generalize cutS s0 = s at *
  generalize cutS t0 = t at *
  have HA := Lib.hid (all_bad s m w (by omega) HM.out hall)
  have hx13 : x ≠ 13 := by rcases hx with rfl | rfl | rfl <;> decide
  obtain ⟨c, r', rfl⟩ := allR_badAt hall hx13
  have hsuf := allR_badSuf hall
  have hlt := pos_lt hsuf
  have HG := Lib.hid (pos_get hsuf hlt)
  have hnle : pos s (c :: r') + nameLen (c :: r') ≤ s.size := by
    have := pos_add hsuf
    have := nameLen_le (c :: r')
    omega
  have HN : Hid (∀ w, Calls Try.prog 25 #[.string (s.extract (pos s (c :: r')) s.size)] w fun e w' => e = .returned (.int .i64 (nameLen (c :: r'))) ∧ w = w') := fun w => by
    have := refName_any (bs (c :: r')) w (by rw [bs_size]; have := pos_add hsuf; omega)
    rw [bs_data] at this
    rw [pos_extract hsuf]; exact this
  have HST : Hid (∀ en, c ≠ 33 → c ≠ 63 → pos s (c :: r') + nameLen (c :: r') < en → en ≤ s.size → ∃ v, StaysAt s t x (c :: r') en v) := fun en h1 h2 h3 h4 => stays_at s t hx hall h1 h2 h3 h4
  have HX := Lib.hid hx
  clear hall hx hx13 hsuf
  generalize nameLen (c :: r') = n at *
  go_enter Try.func5, Try.ntmps5
  go_wp2_with fail
  refine (HCUT.out _).mono ?_
  rintro e w' ⟨rfl, rfl⟩
  go_wp2_with fail
  refine (HCU2.out _).mono ?_
  rintro e w' ⟨rfl, rfl⟩
  go_wp2_with fail
  refine HA.out.mono ?_
  intro e w1 hO
  obtain ⟨rfl, hb1⟩ := hO
  have HB1 := Lib.hid hb1
  have hw1 := hb1.size
  clear hb1
  unfold placeV
  generalize hli : (lineCol (s.data.toList.take (pos s (c :: r')))).1 = li at *
  generalize hco : (lineCol (s.data.toList.take (pos s (c :: r')))).2 = co at *
  generalize hoff : pos s (c :: r') = off at *
  have HLI := Lib.hid hli
  have HCO := Lib.hid hco
  have HOFF := Lib.hid hoff
  clear hli hco hoff
  have hge : decide (s.size ≤ off) = false := by rw [decide_eq_false_iff_not]; omega
  have hoI : (off : Int) < (s.size : Int) := by omega
  by_cases hb : c = 33 ∨ c = 63
  · have hq : ((((s[off].toNat : Nat) : Int) == 33) = true) ∨ ((((s[off].toNat : Nat) : Int) == 33) = false ∧ (((s[off].toNat : Nat) : Int) == 63) = true) := by
      have := HG.out
      rw [this]
      rcases hb with rfl | rfl
      · exact .inl rfl
      · exact .inr ⟨rfl, rfl⟩
    clear hb
    have hx := HX.out
    rcases hx with rfl | rfl | rfl
    all_goals
      rcases hq with e1 | ⟨e1, e2⟩
      all_goals
        go_wp2_with fail
        refine Calls.world ?_
        intro W hW
        have hB : Below w1.heap.size w1 W := by rw [hW]; exact (Below.refl _ _).alloc (Nat.le_refl _) _
        clear hW
        refine (lives_any m W ((hB.cell (by simp; omega)).trans ((HB1.out.cell (by simp; omega)).trans HM.out))).mono ?_
        rintro e w2 ⟨rfl, hb2⟩
        have HZ := Lib.hid ((HB1.out.trans (hB.mono hw1)).trans (hb2.mono (Nat.le_trans hw1 hB.size)))
        clear hB hb2
        go_wp2
        go_ret
        exact ⟨rfl, HZ.out⟩
  · obtain ⟨h33, h63⟩ := not_or.1 hb
    have e1 : (((s[off].toNat : Nat) : Int) == 33) = false := by
      rw [HG.out, beq_eq_false_iff_ne]; intro e; exact h33 (UInt8.toNat_inj.1 (by simpa using (by omega : c.toNat = 33)))
    have e2 : (((s[off].toNat : Nat) : Int) == 63) = false := by
      rw [HG.out, beq_eq_false_iff_ne]; intro e; exact h63 (UInt8.toNat_inj.1 (by simpa using (by omega : c.toNat = 63)))
    have HST2 := Lib.hid (fun en => HST.out en h33 h63)
    clear hb h33 h63 HST
    obtain ⟨mx, hmx⟩ : ∃ mx : Nat, mx = max 1 n := ⟨_, rfl⟩
    have hmxI : max (1 : Int) (n : Int) = (mx : Int) := by omega
    have hcase : (n = 0 ∧ ¬ (0 : Int) < (n : Int)) ∨ (0 < n ∧ off + n = s.size) ∨ (0 < n ∧ off + n + 1 = s.size) ∨ (0 < n ∧ off + n + 1 < s.size) := by omega
    have hx := HX.out
    rcases hx with rfl | rfl | rfl
    all_goals
      go_wp2_with fail
      refine (HN.out _).mono ?_
      rintro e w' ⟨rfl, rfl⟩
      rcases hcase with ⟨c1, c2⟩ | ⟨c1, c2⟩ | ⟨c1, c2⟩ | ⟨c1, c2⟩
      · have c3 : off + mx ≤ s.size := by omega
        obtain ⟨v, hv⟩ := HST2.out (off + mx) (by omega) c3
        have HV := Lib.hid hv
        clear c1 hv hmx
        go_wp2_with fail
        refine Calls.world ?_
        intro W hW
        have x1 : Box W w1.heap.size [.int .i64 off, .int .i64 li, .int .i64 co] := by rw [hW]; exact Box.new w1 _ _ _ rfl
        have hB : Below w1.heap.size w1 W := by rw [hW]; exact (Below.refl _ _).alloc (Nat.le_refl _) _
        clear hW
        have hmW := (hB.cell (by simp; omega)).trans ((HB1.out.cell (by simp; omega)).trans HM.out)
        refine (stays_all HV.out hs ht HOFF.out HLI.out HCO.out m W hmW).mono ?_
        rintro e w2 ⟨rfl, hb2⟩
        have x2 := x1.below hb2 x1.lt
        have y0 := x2.cell 0 _ rfl
        have y1 := x2.cell 1 _ rfl
        have y2 := x2.cell 2 _ rfl
        have ly := x2.lt
        have HM2 := Lib.hid ((hb2.cell (by have := hB.size; simp; omega)).trans hmW)
        have HB2 := Lib.hid ((HB1.out.trans (hB.mono hw1)).trans (hb2.mono (Nat.le_trans hw1 hB.size)))
        have hw2 : w1.heap.size ≤ w2.heap.size := Nat.le_trans hB.size hb2.size
        clear hB hb2 hmW x1 x2
        go_wp2_with fail
        clear y0 y1 y2 ly
        refine Calls.world ?_
        intro W3 hW3
        have hB3 : Below w2.heap.size w2 W3 := by rw [hW3]; exact (Below.refl _ _).alloc (Nat.le_refl _) _
        clear hW3
        refine (lives_any m W3 ((hB3.cell (by simp; omega)).trans HM2.out)).mono ?_
        rintro e w3 ⟨rfl, hb3⟩
        have HZ := Lib.hid ((HB2.out.trans (hB3.mono (Nat.le_trans hw1 hw2))).trans (hb3.mono (Nat.le_trans (Nat.le_trans hw1 hw2) hB3.size)))
        clear hB3 hb3
        go_wp2
        go_ret
        exact ⟨rfl, HZ.out⟩
      · have f0 : (0 : Int) < (n : Int) := by omega
        have f1 : ¬ (off : Int) + (mx : Int) < (s.size : Int) := by omega
        have f2 : ((off : Int) + (mx : Int) == (s.size : Int)) = true := by rw [beq_iff_eq]; omega
        clear c1 c2 hmx
        go_wp2_with fail
        refine Calls.world ?_
        intro W hW
        have hB : Below w1.heap.size w1 W := by rw [hW]; exact (Below.refl _ _).alloc (Nat.le_refl _) _
        clear hW
        refine (lives_any m W ((hB.cell (by simp; omega)).trans ((HB1.out.cell (by simp; omega)).trans HM.out))).mono ?_
        rintro e w2 ⟨rfl, hb2⟩
        have HZ := Lib.hid ((HB1.out.trans (hB.mono hw1)).trans (hb2.mono (Nat.le_trans hw1 hB.size)))
        clear hB hb2
        go_wp2
        go_ret
        exact ⟨rfl, HZ.out⟩
      · have f0 : (0 : Int) < (n : Int) := by omega
        have f1 : (off : Int) + (mx : Int) < (s.size : Int) := by omega
        have f2 : ((off : Int) + (mx : Int) + 1 == (s.size : Int)) = true := by rw [beq_iff_eq]; omega
        clear c1 c2 hmx
        go_wp2_with fail
        refine Calls.world ?_
        intro W hW
        have hB : Below w1.heap.size w1 W := by rw [hW]; exact (Below.refl _ _).alloc (Nat.le_refl _) _
        clear hW
        refine (lives_any m W ((hB.cell (by simp; omega)).trans ((HB1.out.cell (by simp; omega)).trans HM.out))).mono ?_
        rintro e w2 ⟨rfl, hb2⟩
        have HZ := Lib.hid ((HB1.out.trans (hB.mono hw1)).trans (hb2.mono (Nat.le_trans hw1 hB.size)))
        clear hB hb2
        go_wp2
        go_ret
        exact ⟨rfl, HZ.out⟩
      · have f0 : (0 : Int) < (n : Int) := by omega
        have f1 : (off : Int) + (mx : Int) < (s.size : Int) := by omega
        have f2 : ((off : Int) + (mx : Int) + 1 == (s.size : Int)) = false := by rw [beq_eq_false_iff_ne]; omega
        have c3 : off + mx + 1 ≤ s.size := by omega
        obtain ⟨v, hv⟩ := HST2.out (off + mx + 1) (by omega) c3
        have HV := Lib.hid hv
        clear c1 c2 hv hmx
        go_wp2_with fail
        refine Calls.world ?_
        intro W hW
        have x1 : Box W w1.heap.size [.int .i64 off, .int .i64 li, .int .i64 co] := by rw [hW]; exact Box.new w1 _ _ _ rfl
        have hB : Below w1.heap.size w1 W := by rw [hW]; exact (Below.refl _ _).alloc (Nat.le_refl _) _
        clear hW
        have hmW := (hB.cell (by simp; omega)).trans ((HB1.out.cell (by simp; omega)).trans HM.out)
        refine (stays_all HV.out hs ht HOFF.out HLI.out HCO.out m W hmW).mono ?_
        rintro e w2 ⟨rfl, hb2⟩
        have x2 := x1.below hb2 x1.lt
        have y0 := x2.cell 0 _ rfl
        have y1 := x2.cell 1 _ rfl
        have y2 := x2.cell 2 _ rfl
        have ly := x2.lt
        have HM2 := Lib.hid ((hb2.cell (by have := hB.size; simp; omega)).trans hmW)
        have HB2 := Lib.hid ((HB1.out.trans (hB.mono hw1)).trans (hb2.mono (Nat.le_trans hw1 hB.size)))
        have hw2 : w1.heap.size ≤ w2.heap.size := Nat.le_trans hB.size hb2.size
        clear hB hb2 hmW x1 x2
        go_wp2_with fail
        clear y0 y1 y2 ly
        refine Calls.world ?_
        intro W3 hW3
        have hB3 : Below w2.heap.size w2 W3 := by rw [hW3]; exact (Below.refl _ _).alloc (Nat.le_refl _) _
        clear hW3
        refine (lives_any m W3 ((hB3.cell (by simp; omega)).trans HM2.out)).mono ?_
        rintro e w3 ⟨rfl, hb3⟩
        have HZ := Lib.hid ((HB2.out.trans (hB3.mono (Nat.le_trans hw1 hw2))).trans (hb3.mono (Nat.le_trans (Nat.le_trans hw1 hw2) hB3.size)))
        clear hB3 hb3
        go_wp2
        go_ret
        exact ⟨rfl, HZ.out⟩

theorem stays_any (s0 t0 : S) (m : Int) (w : World) (hm : w.cell? ⟨0, 0, none⟩ = some (.int .i64 m)) :
    Calls Try.prog 5 #[.string s0, .string t0] w fun e w' => e = .returned (.bool true) ∧ Below w.heap.size w w' := by
  cases h : allR (cutS s0).data.toList with
  | ok acc r => exact stays_ok s0 t0 m w hm h
  | bad x r =>
    by_cases hx : Bad3 x
    · exact stays_three s0 t0 m w hm h hx
    · exact stays_other s0 t0 m w hm h hx

end Go.Proofs.Ytpchljiiappmnaa
