/- The walk of the law TokenLimits; its condition stands in the theorem. -/
import Derived.Test.YtpchljiiappmnaaK33
import Derived.StillTailTactics
import Derived.BigQuiet
namespace Go.Proofs.Ytpchljiiappmnaa
open Go Go.RowKit

theorem info_u8 : (Try.prog.info? 5).map (fun i => (i.zero, i.size, i.bytes)) = some (some (.int .u8 0), 1, 1) := by kernel_rfl
theorem make_xs (w : World) (n : Nat) (h : n ≤ 65541) : (Instr.makeSlice 47 (.int .i64 n) (.int .i64 n)).run Try.prog w = .ok (.slice (some ⟨w.heap.size, 0, none⟩) n n) (w.alloc (.cells (madeCells #[.int .u8 0] n) 5)) := by
  obtain ⟨i, hi, hz, hs, hb⟩ := info_parts info_u8
  have := run_make (P := Try.prog) w 47 5 i (.int .u8 0) Try.underlying47 hi hz .i64 .i64 n n (by omega) (by omega) (by rw [hb]; omega) (by omega)
  rw [hs] at this
  simpa [Value.cells] using this

set_option maxRecDepth 100000 in
set_option maxHeartbeats 8000000 in
theorem limits_any (x : Int) (m : Int) (w : World) (hm : w.cell? ⟨0, 0, none⟩ = some (.int .i64 m)) :
    Calls Try.prog 8 #[.int .i64 x] w fun e w' => e = .returned (.bool true) ∧ Below w.heap.size w w' := by
  have hw0 : 0 < w.heap.size := World.block_lt_of_cell? w _ hm
  have HM := Lib.hid hm
  clear hm
  obtain ⟨n, hn, hx⟩ : ∃ n : Nat, n ≤ 65541 ∧ max 0 (min x 65541) = (n : Int) := ⟨(max 0 (min x 65541)).toNat, by omega, by omega⟩
  have hmk := fun (w : World) => make_xs w n hn
  go_enter Try.func8, Try.ntmps8
  go_wp2_with fail
  clear hmk hx
  refine wp_world ?_
  intro W hW
  have hX := Xs.made w n 5
  rw [← hW] at hX
  have HX := Lib.hid hX
  have HB : Hid (Below w.heap.size w W) := by show Below _ _ _; rw [hW]; exact (Below.refl _ _).alloc (Nat.le_refl _) _
  clear hW hX
  go_loopw [4, 15] (fun _ i wr => ∃ k : Nat, k ≤ n ∧ i = .int .i64 k ∧ Xs wr w.heap.size n k ∧ Below w.heap.size w wr) (fun _ i _ => n - (intOf i).toNat)
  case atStart => exact ⟨0, Nat.zero_le _, rfl, HX.out, HB.out⟩
  case round =>
    obtain ⟨k, hk, rfl, hX, hB⟩ := hrel
    by_cases hlt : k < n
    · have hi : (k : Int) < (n : Int) := by omega
      have c1 := hX.at_ k hlt
      rw [if_neg (Nat.lt_irrefl _)] at c1
      have f1 := hX.free k
      have HXk := Lib.hid hX
      have HBk := Lib.hid hB
      clear hX hB
      go_wp2
      go_round
      case rel => exact ⟨k + 1, hlt, by go_num, HXk.out.store hlt, HBk.out.setCell (by simp) _⟩
      case measure => simp [intOf]; omega
    · obtain rfl : k = n := by omega
      have hi : ¬ (k : Int) < (k : Int) := by omega
      have hcv := hX.string k
      have HXk := Lib.hid hX
      have HBk := Lib.hid hB
      have HM1 := Lib.hid ((hB.cell hw0).trans HM.out)
      have hgl := hX.lt
      have hle := hB.size
      clear hX hB
      by_cases hbig : 65536 < k
      · have hbi : (65536 : Int) < (k : Int) := by omega
        have hA : Calls Try.prog 20 #[.string (xS k)] wr fun e w' => e = .returned (.tuple #[.slice none 0 0, .int .i64 2, .agg #[.int .i64 0, .int .i64 1, .int .i64 1]]) ∧ Below wr.heap.size wr w' := all_big (xS k) wr (by rw [xS_size]; exact hbig) (by rw [xS_size]; omega)
        have HA := Lib.hid hA
        clear hA
        go_wp2_with fail
        refine HA.out.mono ?_
        rintro e w1 ⟨rfl, hb1⟩
        have HB1 := Lib.hid hb1
        have hs1 := hb1.size
        clear hb1
        go_wp2_with fail
        refine Calls.world ?_
        intro W1 hW1
        have hB1 : Below w1.heap.size w1 W1 := by rw [hW1]; exact (Below.refl _ _).alloc (Nat.le_refl _) _
        clear hW1
        have hm1 : W1.cell? ⟨0, 0, none⟩ = some (.int .i64 m) := (hB1.cell (by simp; omega)).trans ((HB1.out.cell (by simp; omega)).trans HM1.out)
        refine (lives_any m W1 hm1).mono ?_
        rintro e w2 ⟨rfl, hb2⟩
        have HZ := Lib.hid ((((HBk.out).trans (HB1.out.mono hle)).trans (hB1.mono (Nat.le_trans hle hs1))).trans (hb2.mono (Nat.le_trans (Nat.le_trans hle hs1) hB1.size)))
        clear hm1 hB1 hb2
        go_wp2
        go_ret
        exact ⟨rfl, HZ.out⟩
      · have hbi : ¬ (65536 : Int) < (k : Int) := by omega
        by_cases hk0 : k = 0
        · have hA : Calls Try.prog 20 #[.string (xS k)] wr (AllOut (xS k) wr (.ok [] [])) := all_ok (xS k) m wr (by rw [xS_size]; omega) HM1.out (by rw [xS_data, hk0]; rfl)
          have HA := Lib.hid hA
          have e1 : ((k : Int) == 0) = true := by rw [hk0]; rfl
          have e2 : min (k : Int) 1 = 0 := by omega
          clear hA hk0
          go_wp2_with fail
          clear hcv
          refine HA.out.mono ?_
          intro e w1 hO
          obtain ⟨ov, L, rfl, hT, hb1⟩ := hO
          obtain ⟨ao, cap, rfl⟩ := hT.own.shape
          obtain rfl : L = [] := List.eq_nil_of_length_eq_zero hT.len
          have HB1 := Lib.hid hb1
          have hs1 := hb1.size
          clear hb1 hT
          unfold zeroPlace
          simp only [List.length_nil]
          go_wp2_with fail
          refine wp_world ?_
          intro W1 hW1
          have hB1 : Below w1.heap.size w1 W1 := by rw [hW1]; exact (Below.refl _ _).alloc (Nat.le_refl _) _
          clear hW1
          have HBB := Lib.hid hB1
          have hm1 : W1.cell? ⟨0, 0, none⟩ = some (.int .i64 m) := (hB1.cell (by simp; omega)).trans ((HB1.out.cell (by simp; omega)).trans HM1.out)
          have hW10 : 0 < W1.heap.size := Nat.lt_of_lt_of_le (Nat.lt_of_lt_of_le hw0 (Nat.le_trans hle hs1)) hB1.size
          have HLV : Hid (∀ x : Later W1, Calls Try.prog 23 #[] x.at_ fun e w' => e = .returned (.bool true) ∧ Below x.at_.heap.size x.at_ w') := fun x => lives_any m x.at_ ((x.cells 0 0 hW10).trans hm1)
          clear hB1 hm1
          refine region_later (by kernel_rfl) (by kernel_rfl) ?_
          repeat (go_big_quiet_step ((go_at_call 23; exact Later.call (HLV.out _))))
          refine wpQuiet_nil ?_
          rintro _ ⟨nx, rfl⟩
          have HZ := Lib.hid (((HBk.out).trans (HB1.out.mono hle)).trans ((HBB.out.mono (Nat.le_trans hle hs1)).trans (nx.below.mono (Nat.le_trans (Nat.le_trans hle hs1) HBB.out.size))))
          go_wp2
          go_ret
          exact ⟨rfl, HZ.out⟩
        · obtain ⟨j, rfl⟩ : ∃ j, k = j + 1 := ⟨k - 1, by omega⟩
          have hA : Calls Try.prog 20 #[.string (xS (j + 1))] wr (AllOut (xS (j + 1)) wr (.ok [(⟨4, [], [], xs (j + 1)⟩, xs (j + 1))] [])) := all_ok (xS (j + 1)) m wr (by rw [xS_size]; omega) HM1.out (by rw [xS_data]; exact allR_xs j)
          generalize hq : j + 1 = q at *
          have HA := Lib.hid hA
          have HQ := Lib.hid hq
          clear hA hq hk0
          go_wp2_with fail
          refine HA.out.mono ?_
          intro e w1 hO
          obtain ⟨ov, L, rfl, hT, hb1⟩ := hO
          obtain ⟨g, o, cap, av, rfl, hg1, -, -, -, c3, -⟩ := hT.at (i := 0) rfl
          have HB1 := Lib.hid hb1
          have hs1 := hb1.size
          clear hb1 hT
          have c3' : w1.cell? ⟨g, o + 3, none⟩ = some (.string (xS q)) := by simpa [xS] using c3
          have e1 : ((q : Int) == 0) = false := by rw [beq_eq_false_iff_ne]; have := HQ.out; omega
          have e2 : min (q : Int) 1 = 1 := by have := HQ.out; omega
          have HC3 := Lib.hid c3'
          have HHG := Lib.hid hg1
          clear c3 c3' hcv
          unfold zeroPlace
          simp only [List.length_singleton]
          go_wp2_with fail
          refine wp_world ?_
          intro W1 hW1
          have hB1 : Below w1.heap.size w1 W1 := by rw [hW1]; exact (Below.refl _ _).alloc (Nat.le_refl _) _
          clear hW1
          have hcv1 := (((HXk.out.below HB1.out hgl).below hB1.drew (Nat.lt_of_lt_of_le hgl hs1))).string q
          have hc3 := (hB1.cell (by exact HHG.out)).trans HC3.out
          have hlt1 := Nat.lt_of_lt_of_le HHG.out hB1.size
          have hm1 : W1.drew.cell? ⟨0, 0, none⟩ = some (.int .i64 m) := (hB1.cell (by simp; omega)).trans ((HB1.out.cell (by simp; omega)).trans HM1.out)
          have HLV := Lib.hid (lives_any m W1.drew hm1)
          have HBB := Lib.hid hB1
          clear hB1 hm1
          go_still_tail 23, (by kernel_rfl)
          change wpList _ _ _ _ _ W1.drew
          go_wp2_with fail
          refine HLV.out.mono ?_
          rintro e w2 ⟨rfl, hb2⟩
          have hsd : W1.drew.heap.size = W1.heap.size := rfl
          have HZ := Lib.hid ((((HBk.out).trans (HB1.out.mono hle)).trans (HBB.out.drew.mono (Nat.le_trans hle hs1))).trans (hb2.mono (Nat.le_trans (Nat.le_trans hle hs1) HBB.out.size)))
          clear hb2
          go_wp2
          go_ret
          exact ⟨rfl, HZ.out⟩

end Go.Proofs.Ytpchljiiappmnaa
