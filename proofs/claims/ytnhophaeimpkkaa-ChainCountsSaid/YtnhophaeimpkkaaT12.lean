/- The walk of the document's Under; its conditions stand in the theorems. -/
import Derived.Test.YtnhophaeimpkkaaT11
import Derived.Test.YtnhophaeimpkkaaOwn2
import Derived.WalkKit
import Derived.WalkSpells
import Derived.WalkLawsBesides
namespace Go.Proofs.Ytnhophaeimpkkaa
open Go Go.RowKit

set_option maxRecDepth 100000 in
set_option maxHeartbeats 400000 in
theorem refUnder_any (l more : List (Dep × Value)) (v u : Value) (w : World) (hs : SliceOf 8 depC w v l) (hok : ∀ p ∈ l, DepOk w p) (hm' : SliceOf 8 depC w u more) (hmo : ∀ p ∈ more, DepOk w p)
    (hl : Hid ((l.length + more.length) * 120 ≤ 140737488355328)) :
    Calls Try.prog 19 #[v, u] w (RetOwn 34 8 depC (underL l more) w) := by
  obtain ⟨ao, cap, rfl⟩ := hs.shape
  obtain ⟨ao2, cap2, rfl⟩ := hm'.shape
  have hl2 : l.length ≤ 140737488355328 := by have := hl.out; omega
  have hl3 : more.length ≤ 140737488355328 := by have := hl.out; omega
  go_enter Try.func19, Try.ntmps19
  go_wp2_with (at_builtin; refine wpList_append_slice _ rfl _ _ 25 rfl w.heap.size 34 Try.underlying25 info_dep rfl (by decide) depC_len (.slice (some ⟨w.heap.size, 0, none⟩) 0 0) [] rfl (Owns.empty rfl (Nat.le_refl _)) _ l rfl (hs.below ((Below.refl _ _).alloc (Nat.le_refl _) _)) (fun y hy => depC_one (hok y hy)) (by have := hl.out; simp; omega) (by decide) (by simp) ?_; intro v1 w1 hown hgrow hloc)
  have hb1 := ((Below.refl w.heap.size w).alloc (Nat.le_refl _) (.cells #[] 34)).grown hgrow (by simp) (by simp [Value.ownBlock])
  clear hgrow hloc
  go_wp2
  go_loopw [5, 13] (fun v i wr => ∃ k : Nat, k ≤ more.length ∧ i = .int .i64 k ∧ Below w.heap.size w wr ∧ Owns w.heap.size 34 8 depC wr v (underL l (more.take k))) (fun _ i _ => more.length - (intOf i).toNat)
  case atStart => exact ⟨0, Nat.zero_le _, rfl, hb1, by simpa [underL] using hown⟩
  case round =>
    clear hb1 hown
    obtain ⟨k, hk, rfl, hb, hown⟩ := hrel
    have hsz := hb.size
    by_cases hlt : k < more.length
    · have hok' := (hmo more[k] (by simp)).below hb
      have hone := depC_one hok'
      obtain ⟨b, o, rfl, hbl, c0, c1, c2, c3, c4, c5, c6, c7⟩ := (hm'.below hb).atDep hlt
      have hst := Lib.hid (underL_take l more k hlt)
      have hlen := underL_len l (more.take k)
      have hlen2 : (more.take k).length = k := by simp; omega
      have hbd : Hid (((underL l (more.take k)).length + 1) * 120 ≤ 140737488355328) := by
        have h2 := hl.out
        have h3 : (underL l (more.take k)).length + 1 ≤ l.length + more.length := by omega
        exact Nat.le_trans (Nat.mul_le_mul_right 120 h3) h2
      have hs' := hs.below hb
      have hokL : Hid (∀ p ∈ l, DepOk wr p) := fun p hp => (hok p hp).below hb
      clear hs hok hm' hmo hlen hlen2
      generalize underL l (more.take k) = cur at *
      generalize more[k] = q at *
      obtain ⟨qd, qx⟩ := q
      obtain ⟨ao4, cap4, rfl⟩ := hok'.shape
      obtain ⟨ao5, cap5, rfl⟩ := hown.shape
      simp only at c0 c1 c2 c3 c4 c5 c6 c7
      have hbx : Box _ _ _ := Box.new wr (depC (qd, .slice ao4 qd.excl.length cap4)) 34 wr.heap.size rfl
      have hbw := (Below.refl wr.heap.size wr).alloc (Nat.le_refl _) (.cells (depC (qd, .slice ao4 qd.excl.length cap4)).toArray 34)
      have hown2 := hown.alloc (.cells (depC (qd, .slice ao4 qd.excl.length cap4)).toArray 34)
      simp only [depC] at hbx hbw hown2
      go_wp2_with fail
      generalize wr.alloc (.cells #[.string qd.group, .string qd.artifact, .string qd.version, .string qd.type, .string qd.classifier, .int .i64 qd.scope, .int .i64 qd.opt, .slice ao4 qd.excl.length cap4] 34) = w2 at *
      refine (refKey_any qd (.slice ao4 qd.excl.length cap4) _).mono ?_
      rintro e w3 ⟨rfl, hb3⟩
      have hx3 := hbx.below hb3 hbx.lt
      have hown3 := hown2.below hb3
      have hb4 := hbw.trans (hb3.mono hbw.size)
      clear hb3 hbx hbw hown2
      simp only [keyC]
      go_wp2_with fail
      refine (has_any l (keyOf qd) _ _ (hs'.below hb4) (fun p hp => (hokL.out p hp).below hb4) hl2).mono ?_
      rintro e w5 ⟨rfl, hb5⟩
      have hx5 := hx3.below hb5 hx3.lt
      have hown5 := hown3.below hb5
      have hb6 := hb4.trans (hb5.mono hb4.size)
      have hb7 := hb.trans (hb6.mono hb.size)
      have hsz7 := hb7.size
      have e0 := hx5.cell 0 _ rfl
      have e1 := hx5.cell 1 _ rfl
      have e2 := hx5.cell 2 _ rfl
      have e3 := hx5.cell 3 _ rfl
      have e4 := hx5.cell 4 _ rfl
      have e5 := hx5.cell 5 _ rfl
      have e6 := hx5.cell 6 _ rfl
      have e7 := hx5.cell 7 _ rfl
      clear hb4 hx3 hown3 hs' hokL hown hb hb5 hx5 c0 c1 c2 c3 c4 c5 c6 c7
      cases hq : has (l.map (·.1)) (keyOf qd)
      · have Hq := Lib.hid hq
        clear hq
        go_wp2_with (at_builtin; refine wpList_append_slice _ rfl _ _ 25 rfl w.heap.size 34 Try.underlying25 info_dep rfl (by decide) depC_len (.slice ao5 cur.length cap5) cur rfl (hown5.alloc _) _ [(qd, .slice ao4 qd.excl.length cap4)] rfl (sliceLit depC_len w5 [(qd, .slice ao4 qd.excl.length cap4)] _ _ 1 rfl rfl (by simp [maxLen])) (fun y hy => by simp at hy; subst hy; exact hone) (by simpa using hbd.out) (by decide) (by simp; omega) ?_; intro v8 w8 hown8 hgrow8 hloc8)
        go_wp2
        go_roundw
        case rel =>
          refine ⟨_, hlt, by go_num, (hb7.alloc (by omega) _).grown hgrow8 (by simp; omega) (fun j hj => (hown5.lt j hj).1), ?_⟩
          rw [hst.out, Hq.out]
          exact hown8
        case measure => simp [intOf]; omega
      · have Hq := Lib.hid hq
        clear hq
        go_wp2
        go_roundw
        case rel =>
          refine ⟨_, hlt, by go_num, hb7, ?_⟩
          rw [hst.out, Hq.out]
          exact hown5
        case measure => simp [intOf]; omega
    · go_wp2
      go_ret
      exact ⟨_, rfl, by rw [List.take_of_length_le (by omega)] at hown; exact hown, hb⟩

end Go.Proofs.Ytnhophaeimpkkaa
