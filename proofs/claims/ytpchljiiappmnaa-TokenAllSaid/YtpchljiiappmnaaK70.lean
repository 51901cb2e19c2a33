/- The walk of the law TokenAll; its condition stands in the theorem. -/
import Derived.Test.YtpchljiiappmnaaK69
namespace Go.Proofs.Ytpchljiiappmnaa
open Go Go.RowKit

theorem TokSl.asTks {base : Nat} {w : World} {s : S} {ov : Value} {L : List TkM} {acc : List (Tk × Bs)} (h : TokSl base w s ov L acc) : TksOf w ov (acc.map (·.1)) := by
  refine ⟨L, h.own.slice tkC_len, fun x hx => (h.att x hx).slice atC_len, ?_⟩
  have := congrArg (List.map Prod.fst) h.is
  simpa [List.map_map, Function.comp_def] using this

theorem eqg_place : Try.prog.eqGuardType Try.prog.depth 26 = false := by kernel_rfl
theorem eqs_place : Try.prog.stoodInHeld 26 = false := by kernel_rfl
theorem neq_place (a b c : Int) (w : World) : (binOp .neq 26 (.agg #[.int .i64 a, .int .i64 b, .int .i64 c]) (.agg #[.int .i64 a, .int .i64 b, .int .i64 c])).run Try.prog w = .ok (.bool false) w := by
  have h := eqs_place
  simp [go_sem, h]
theorem eql_place (a b c : Int) (w : World) : (binOp .eql 26 (.agg #[.int .i64 a, .int .i64 b, .int .i64 c]) (.agg #[.int .i64 a, .int .i64 b, .int .i64 c])).run Try.prog w = .ok (.bool true) w := by
  have h := eqs_place
  simp [go_sem, h]

attribute [local go_sem ↓] eqg_place neq_place eql_place in
set_option maxRecDepth 100000 in
set_option maxHeartbeats 8000000 in
theorem tokenAll_any (s0 : S) (m : Int) (w : World) (hm : w.cell? ⟨0, 0, none⟩ = some (.int .i64 m)) :
    Calls Try.prog 3 #[.string s0] w fun e w' => e = .returned (.bool true) ∧ Below w.heap.size w w' := by
  have hw0 : 0 < w.heap.size := World.block_lt_of_cell? w _ hm
  have HM := Lib.hid hm
  clear hm
  have hs := cutS_size s0
  have HCUT := Lib.hid (fun w => cut_any s0 w)
  generalize cutS s0 = s at *
  have hs65 : s.size ≤ 65536 := by omega
  cases hall : allR s.data.toList with
  | bad x r =>
    have HA := Lib.hid (all_bad s m w hs65 HM.out hall)
    have HRA : Hid (∀ W, Calls Try.prog 21 #[.string s] W (RAllOut s W (.bad x r))) := fun W => hall ▸ rall_any s W hs65
    have hx0 : (x == 0) = false := beq_eq_false_iff_ne.2 (allR_bad_ne hall)
    have hx1 : (x != x) = false := by simp
    have hpr : pos s r ≤ s.size := by unfold pos; omega
    have HAT := Lib.hid (fun w => refAt_any s (pos s r) w (by omega) (by omega))
    have HS0 : Hid (∀ W, Calls Try.prog 22 #[.slice none 0 0, .slice none 0 0] W (Qt (.bool true) W)) := fun W => same_any _ _ [] [] W ⟨[], SliceOf.nil, by simp, rfl⟩ ⟨[], SliceOf.nil, by simp, rfl⟩
    clear hall hpr
    unfold placeV at HA
    go_enter Try.func3, Try.ntmps3
    go_wp2_with fail
    refine (HCUT.out _).mono ?_
    rintro e w' ⟨rfl, rfl⟩
    go_wp2_with fail
    refine HA.out.mono ?_
    intro e w1 hO
    obtain ⟨rfl, hb1⟩ := hO
    unfold placeV
    generalize (lineCol (s.data.toList.take (pos s r))).1 = li at *
    generalize (lineCol (s.data.toList.take (pos s r))).2 = co at *
    generalize hpo : pos s r = o at *
    have HPO := Lib.hid hpo
    clear hpo
    go_wp2_with fail
    refine Calls.world ?_
    intro W hW
    have hB : Below w.heap.size w W := by rw [hW]; exact hb1.alloc hb1.size _
    have hx5 : Box W w1.heap.size [.int .i64 o, .int .i64 li, .int .i64 co] := by rw [hW]; exact Box.new w1 _ _ _ rfl
    clear hW
    refine (HRA.out W).mono ?_
    intro e w2 hO
    obtain ⟨rfl, hb2⟩ := hO
    rw [HPO.out]
    have hB2 := hB.trans (hb2.mono hB.size)
    have HX5 := Lib.hid (hx5.below hb2 hx5.lt)
    have HB2 := Lib.hid hB2
    clear hB hb1 hb2 hB2 hx5
    go_wp2_with fail
    refine (HS0.out _).mono ?_
    rintro e w3 ⟨rfl, n3, hw3⟩
    have hx5 : Box w3 w1.heap.size [.int .i64 o, .int .i64 li, .int .i64 co] := by rw [hw3]; exact HX5.out.drewN _
    have HB3 : Hid (Below w.heap.size w w3) := by rw [hw3]; exact belowN HB2.out _
    have q0 := hx5.cell 0 _ rfl
    have q1 := hx5.cell 1 _ rfl
    have q2 := hx5.cell 2 _ rfl
    have ql := hx5.lt
    clear hw3 HB2 HX5 hx5 HA HRA
    go_wp2
    go_loopw [9, 37] (fun _ i wr => i = .int .i64 0 ∧ w3 = wr) (fun _ _ _ => 0)
    case atStart => exact ⟨rfl, rfl⟩
    case round =>
      obtain ⟨rfl, rfl⟩ := hrel
      go_wp2_with fail
      refine (HAT.out _).mono ?_
      rintro e w' ⟨rfl, rfl⟩
      go_wp2_with fail
      refine (lives_any m _ ((HB3.out.cell hw0).trans HM.out)).mono ?_
      rintro e w5 ⟨rfl, hb5⟩
      go_wp2
      go_ret
      exact ⟨rfl, HB3.out.trans (hb5.mono HB3.out.size)⟩
  | ok acc r =>
    have HA := Lib.hid (all_ok s m w hs65 HM.out hall)
    have HRA : Hid (∀ W, Calls Try.prog 21 #[.string s] W (RAllOut s W (.ok acc r))) := fun W => hall ▸ rall_any s W hs65
    have HS : Hid (∀ W v1 v2, TksOf W v1 (acc.map (·.1)) → TksOf W v2 (acc.map (·.1)) → Calls Try.prog 22 #[v1, v2] W (Qt (.bool true) W)) := fun W v1 v2 h1 h2 => by
      have := same_any v1 v2 _ _ W h1 h2
      simpa using this
    clear hall
    go_enter Try.func3, Try.ntmps3
    go_wp2_with fail
    refine (HCUT.out _).mono ?_
    rintro e w' ⟨rfl, rfl⟩
    go_wp2_with fail
    refine HA.out.mono ?_
    intro e w1 hO
    obtain ⟨ov, L, rfl, hT, hb1⟩ := hO
    obtain ⟨ao, cap, rfl⟩ := hT.own.shape
    have HLL := Lib.hid hT.len
    unfold zeroPlace
    go_wp2_with fail
    refine Calls.world ?_
    intro W hW
    have hB : Below w.heap.size w W := by rw [hW]; exact hb1.alloc hb1.size _
    have hx5 : Box W w1.heap.size [.int .i64 0, .int .i64 0, .int .i64 0] := by rw [hW]; exact Box.new w1 _ _ _ rfl
    have hTW : Hid (TokSl w.heap.size W s (.slice ao L.length cap) L acc) := by rw [hW]; exact ⟨hT.own.alloc _, fun x hx => (hT.att x hx).alloc _, hT.is⟩
    clear hW hT
    refine (HRA.out W).mono ?_
    intro e w2 hO
    obtain ⟨ov2, L2, rfl, hT2, hb2⟩ := hO
    obtain ⟨ao2, cap2, rfl⟩ := hT2.own.shape
    have HLL2 := Lib.hid hT2.len
    have hB2 := hB.trans (hb2.mono hB.size)
    have HX5 := Lib.hid (hx5.below hb2 hx5.lt)
    have HT1 : Hid (TokSl w.heap.size w2 s (.slice ao L.length cap) L acc) := ⟨hTW.out.own.below hb2, fun x hx => (hTW.out.att x hx).below hb2, hTW.out.is⟩
    have HT2 := Lib.hid hT2
    have HB2 := Lib.hid hB2
    clear hB hb1 hb2 hB2 hx5 hT2 hTW
    go_wp2_with fail
    refine (HS.out _ _ _ HT1.out.asTks HT2.out.asTks).mono ?_
    rintro e w3 ⟨rfl, n3, hw3⟩
    have hx5 : Box w3 w1.heap.size [.int .i64 0, .int .i64 0, .int .i64 0] := by rw [hw3]; exact HX5.out.drewN _
    have HB3 : Hid (Below w2.heap.size w2 w3) := by rw [hw3]; exact belowN (Below.refl _ _) _
    have HX3 := Lib.hid hx5
    have hsz3 := HB3.out.size
    clear hw3 HX5 hx5 HA HRA HS
    have hLb : L.length ≤ 9223372036854775807 := by have h1 := HT1.out.own.slice tkC_len; obtain ⟨_, c, e, h3, h4, -⟩ := h1; unfold maxLen at h4; omega
    go_wp2
    go_loopw [9, 37] (fun _ i wr => ∃ k : Nat, i = .int .i64 k ∧ k ≤ L.length ∧ Below w3.heap.size w3 wr) (fun _ i _ => L.length - (intOf i).toNat)
    case atStart => exact ⟨0, rfl, Nat.zero_le _, Below.refl _ _⟩
    case round =>
      obtain ⟨k, rfl, hk, hb⟩ := hrel
      have HK := Lib.hid hb
      have hwr := hb.size
      clear hb
      by_cases hlt : k < L.length
      · have hltI : (k : Int) < (L.length : Int) := by omega
        have hltI2 : (k : Int) < (L2.length : Int) := by have := HLL.out; have := HLL2.out; omega
        obtain ⟨t, rr, hg⟩ : ∃ t rr, acc[k]? = some (t, rr) := ⟨_, _, List.getElem?_eq_getElem (by rw [← HLL.out]; exact hlt)⟩
        obtain ⟨g, o, cap', av, e, hg1, -, -, -, -, c4, c5, c6, -⟩ := HT1.out.at hg
        simp only [Value.slice.injEq] at e
        obtain ⟨rfl, -, rfl⟩ := e
        obtain ⟨g2, o2, cap2', av2, e, hg2, -, -, -, -, k4, k5, k6, -⟩ := HT2.out.at hg
        simp only [Value.slice.injEq] at e
        obtain ⟨rfl, -, rfl⟩ := e
        have tr : ∀ g j v, g < w2.heap.size → w2.cell? ⟨g, j, none⟩ = some v → wr.cell? ⟨g, j, none⟩ = some v := fun g j v hgg hc => (HK.out.cell (by exact Nat.lt_of_lt_of_le hgg hsz3)).trans ((HB3.out.cell (by exact hgg)).trans hc)
        have d4 := tr _ _ _ hg1 c4
        have d5 := tr _ _ _ hg1 c5
        have d6 := tr _ _ _ hg1 c6
        have e4 := tr _ _ _ hg2 k4
        have e5 := tr _ _ _ hg2 k5
        have e6 := tr _ _ _ hg2 k6
        have hgr : g < wr.heap.size := by omega
        have hgr2 : g2 < wr.heap.size := by omega
        clear c4 c5 c6 k4 k5 k6 tr hg1 hg2 hg
        generalize (lineCol (s.data.toList.take (pos s rr))).1 = li at *
        generalize (lineCol (s.data.toList.take (pos s rr))).2 = co at *
        generalize pos s rr = off at *
        go_wp2
        go_quiet (fail)
        go_wp2
        go_roundw
        case rel => exact ⟨k + 1, by go_num, hlt, belowN HK.out _⟩
        case measure => simp [intOf]; omega
      · obtain rfl : k = L.length := by omega
        have hB4 : Below w.heap.size w wr := (HB2.out.trans (HB3.out.mono HB2.out.size)).trans (HK.out.mono (Nat.le_trans HB2.out.size hsz3))
        have hx6 := HX3.out.below HK.out HX3.out.lt
        have q0 := hx6.cell 0 _ rfl
        have q1 := hx6.cell 1 _ rfl
        have q2 := hx6.cell 2 _ rfl
        have ql := hx6.lt
        have HB4 := Lib.hid hB4
        clear hB4 hx6
        go_wp2_with fail
        refine (lives_any m _ ((HB4.out.cell hw0).trans HM.out)).mono ?_
        rintro e w5 ⟨rfl, hb5⟩
        go_wp2
        go_ret
        exact ⟨rfl, HB4.out.trans (hb5.mono HB4.out.size)⟩

end Go.Proofs.Ytpchljiiappmnaa
