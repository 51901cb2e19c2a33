/- The walk of the law TokenStays; its condition stands in the theorem. -/
import Derived.Test.YtpchljiiappmnaaK31
import Derived.Test.YtpchljiiappmnaaK39
namespace Go.Proofs.Ytpchljiiappmnaa
open Go Go.RowKit

set_option maxRecDepth 100000 in
set_option maxHeartbeats 8000000 in
theorem stays_ok (s0 t0 : S) (m : Int) (w : World) (hm : w.cell? ⟨0, 0, none⟩ = some (.int .i64 m)) {acc : List (Tk × Bs)} {r : Bs} (hall : allR (cutS s0).data.toList = .ok acc r) :
    Calls Try.prog 5 #[.string s0, .string t0] w fun e w' => e = .returned (.bool true) ∧ Below w.heap.size w w' := by
  have hw0 : 0 < w.heap.size := World.block_lt_of_cell? w _ hm
  have HM := Lib.hid hm
  clear hm
  have hs := cutS_size s0
  have HCUT := Lib.hid (fun w => cut_any s0 w)
  have HCU2 := Lib.hid (fun w => cut_any t0 w)
  generalize cutS s0 = s at *
  generalize cutS t0 = t at *
  have HA := Lib.hid (all_ok s m w (by omega) HM.out hall)
  clear hall
  go_enter Try.func5, Try.ntmps5
  go_wp2_with fail
  refine (HCUT.out _).mono ?_
  rintro e w' ⟨rfl, rfl⟩
  go_wp2_with fail
  refine (HCU2.out _).mono ?_
  rintro e w' ⟨rfl, rfl⟩
  go_wp2_with fail
  refine HA.out.mono ?_
  intro e w1 hO
  obtain ⟨ov, L, rfl, hT, hb1⟩ := hO
  have HB1 := Lib.hid hb1
  have hw1 := hb1.size
  clear hT hb1
  unfold zeroPlace
  go_wp2_with fail
  refine Calls.world ?_
  intro W hW
  have hB : Below w1.heap.size w1 W := by rw [hW]; exact (Below.refl _ _).alloc (Nat.le_refl _) _
  clear hW
  refine (lives_any m W ((hB.cell (by simp; omega)).trans ((HB1.out.cell (by simp; omega)).trans HM.out))).mono ?_
  rintro e w2 ⟨rfl, hb2⟩
  have HZ := Lib.hid ((HB1.out.trans (hB.mono hw1)).trans (hb2.mono (Nat.le_trans hw1 hB.size)))
  clear hB hb2
  go_wp2
  go_ret
  exact ⟨rfl, HZ.out⟩

set_option maxRecDepth 100000 in
set_option maxHeartbeats 8000000 in
theorem stays_other (s0 t0 : S) (m : Int) (w : World) (hm : w.cell? ⟨0, 0, none⟩ = some (.int .i64 m)) {x : Int} {r : Bs} (hall : allR (cutS s0).data.toList = .bad x r) (hx : ¬ Bad3 x) :
    Calls Try.prog 5 #[.string s0, .string t0] w fun e w' => e = .returned (.bool true) ∧ Below w.heap.size w w' := by
  have hw0 : 0 < w.heap.size := World.block_lt_of_cell? w _ hm
  have HM := Lib.hid hm
  clear hm
  have hs := cutS_size s0
  have HCUT := Lib.hid (fun w => cut_any s0 w)
  have HCU2 := Lib.hid (fun w => cut_any t0 w)
  generalize cutS s0 = s at *
  generalize cutS t0 = t at *
  have HA := Lib.hid (all_bad s m w (by omega) HM.out hall)
  have x1 : (x != 11) = true := by rw [bne_iff_ne]; intro e; exact hx (.inr (.inl e))
  have x2 : (x != 15) = true := by rw [bne_iff_ne]; intro e; exact hx (.inr (.inr e))
  have x3 : (x != 10) = true := by rw [bne_iff_ne]; intro e; exact hx (.inl e)
  clear hall hx
  go_enter Try.func5, Try.ntmps5
  go_wp2_with fail
  refine (HCUT.out _).mono ?_
  rintro e w' ⟨rfl, rfl⟩
  go_wp2_with fail
  refine (HCU2.out _).mono ?_
  rintro e w' ⟨rfl, rfl⟩
  go_wp2_with fail
  refine HA.out.mono ?_
  intro e w1 hO
  obtain ⟨rfl, hb1⟩ := hO
  have HB1 := Lib.hid hb1
  have hw1 := hb1.size
  clear hb1
  unfold placeV
  generalize (lineCol (s.data.toList.take (pos s r))).1 = li at *
  generalize (lineCol (s.data.toList.take (pos s r))).2 = co at *
  generalize pos s r = o at *
  go_wp2_with fail
  refine Calls.world ?_
  intro W hW
  have hB : Below w1.heap.size w1 W := by rw [hW]; exact (Below.refl _ _).alloc (Nat.le_refl _) _
  clear hW
  refine (lives_any m W ((hB.cell (by simp; omega)).trans ((HB1.out.cell (by simp; omega)).trans HM.out))).mono ?_
  rintro e w2 ⟨rfl, hb2⟩
  have HZ := Lib.hid ((HB1.out.trans (hB.mono hw1)).trans (hb2.mono (Nat.le_trans hw1 hB.size)))
  clear hB hb2
  go_wp2
  go_ret
  exact ⟨rfl, HZ.out⟩

end Go.Proofs.Ytpchljiiappmnaa
