/- The walk of SameDeps on equal data; its conditions stand in the theorems. -/
import Derived.Test.YtnhophaeimpkkaaProg
import Derived.Test.YtnhophaeimpkkaaT4
import Derived.WalkKit
import Derived.WalkSpells
import Derived.WalkLawsBesides
import Derived.Deep.QuietTactic
import Derived.BigQuiet
import Derived.Lib.Hide
import Derived.Deep.RegionHeld3
import Derived.StillTailTactics
namespace Go.Proofs.Ytnhophaeimpkkaa
open Go Go.RowKit

attribute [local go_sem ↓] eqg_prp neq_prp eqg_id neq_id eqg_gav eql_gav

set_option maxRecDepth 100000 in
set_option maxHeartbeats 400000 in
theorem sameDeps_yes (ds : List Dep) (v u : Value) (w : World) (hv : DepsOf w v ds) (hu : DepsOf w u ds) (hl : ds.length ≤ 140737488355328) (hxl : ∀ d ∈ ds, d.excl.length ≤ 140737488355328) :
    Calls Try.prog 14 #[v, u] w fun e w' => e = .returned (.bool true) ∧ Below w.heap.size w w' := by
  obtain ⟨l, rfl, hs, hso⟩ := hv
  obtain ⟨m, he, hm, hmo⟩ := hu
  have hlen : m.length = l.length := by simpa using congrArg List.length he
  obtain ⟨ao, cap, rfl⟩ := hs.shape
  obtain ⟨ao2, cap2, rfl⟩ := hm.shape
  rw [hlen] at hm ⊢
  rw [List.length_map] at hl
  have HL := Lib.hid hlen
  have HE := Lib.hid he
  clear hlen he
  go_enter Try.func14, Try.ntmps14
  go_wp2
  go_loopw [13] (fun i wr => ∃ k : Nat, k ≤ l.length ∧ i = .int .i64 k ∧ Below w.heap.size w wr) (fun i _ => l.length - (intOf i).toNat)
  case atStart => exact ⟨0, Nat.zero_le _, rfl, Below.refl _ _⟩
  case round =>
    obtain ⟨k, hk, rfl, hb⟩ := hrel
    by_cases hlt : k < l.length
    · have hkm : k < m.length := by have := HL.out; omega
      have hd : m[k].1 = l[k].1 := by
        have : (m.map (·.1))[k]'(by simpa using hkm) = (l.map (·.1))[k]'(by simpa using hlt) := by simp only [HE.out]
        simpa using this
      have hlx := hxl l[k].1 (List.mem_map.2 ⟨l[k], by simp, rfl⟩)
      have hok := (hso l[k] (by simp)).below hb
      have hok2 := (hmo m[k] (by simp)).below hb
      obtain ⟨b, o, rfl, hbl, c0, c1, c2, c3, c4, c5, c6, c7⟩ := (hs.below hb).atDep hlt
      obtain ⟨b2, o2, rfl, hbl2, d0, d1, d2, d3, d4, d5, d6, d7⟩ := (hm.below hb).atDep hkm
      clear hs hm hso hmo hxl
      generalize l[k] = q at *
      generalize m[k] = q2 at *
      obtain ⟨qd, qx⟩ := q
      obtain ⟨qd2, qx2⟩ := q2
      obtain rfl : qd2 = qd := hd
      obtain ⟨ao4, cap4, rfl⟩ := hok.shape
      obtain ⟨ao5, cap5, rfl⟩ := hok2.shape
      simp only at c0 c1 c2 c3 c4 c5 c6 c7 d0 d1 d2 d3 d4 d5 d6 d7 hlx
      go_wp2
      have hL := @Later.cells wr
      refine region_later (by kernel_rfl) (by kernel_rfl) ?_
      repeat (go_big_quiet_step ((go_at_call 32; exact Later.call (sameDep_yes qd2 _ _ _ (hok.below (Later.below _)) (hok2.below (Later.below _)) hlx))))
      refine wpQuiet_nil ?_
      rintro _ ⟨nx, rfl⟩
      go_wp2
      go_roundw
      case rel => exact ⟨k + 1, by omega, by go_num, hb.trans (nx.below.mono hb.size)⟩
      case measure => simp [intOf]; omega
    · go_wp2
      go_ret
      exact ⟨rfl, hb⟩

end Go.Proofs.Ytnhophaeimpkkaa
