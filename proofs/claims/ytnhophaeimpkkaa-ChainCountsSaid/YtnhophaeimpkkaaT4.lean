/- The walks of SameProps and SameDep on equal data; its conditions stand in the theorems. -/
import Derived.Test.YtnhophaeimpkkaaProg
import Derived.Test.YtnhophaeimpkkaaT3
import Derived.WalkKit
import Derived.WalkSpells
import Derived.WalkLawsBesides
import Derived.Deep.QuietTactic
import Derived.BigQuiet
import Derived.Lib.Hide
import Derived.Deep.RegionHeld3
import Derived.StillTailTactics
namespace Go.Proofs.Ytnhophaeimpkkaa
open Go Go.RowKit

attribute [local go_sem ↓] eqg_prp neq_prp eqg_id neq_id eqg_gav eql_gav

set_option maxHeartbeats 400000 in
theorem sameProps_yes (l : List Prp) (v u : Value) (w : World) (hs : SliceOf 2 prpC w v l) (hm : SliceOf 2 prpC w u l) (hl : l.length ≤ 140737488355328) :
    Calls Try.prog 29 #[v, u] w fun e w' => e = .returned (.bool true) ∧ Below w.heap.size w w' := by
  obtain ⟨ao, cap, rfl⟩ := hs.shape
  obtain ⟨ao2, cap2, rfl⟩ := hm.shape
  go_enter Try.func29, Try.ntmps29
  go_wp2
  go_loopw [13] (fun i wr => ∃ k : Nat, k ≤ l.length ∧ i = .int .i64 k ∧ Below w.heap.size w wr) (fun i _ => l.length - (intOf i).toNat)
  case atStart => exact ⟨0, Nat.zero_le _, rfl, Below.refl _ _⟩
  case round =>
    obtain ⟨k, hk, rfl, hb⟩ := hrel
    by_cases hlt : k < l.length
    · obtain ⟨b, o, rfl, -, h0, h1⟩ := (hs.below hb).atPrp hlt
      obtain ⟨b2, o2, rfl, -, h2, h3⟩ := (hm.below hb).atPrp hlt
      clear hs hm
      generalize l[k].name = x at *
      generalize l[k].value = y at *
      go_wp2
      go_quiet (fail)
      go_wp2
      go_roundw
      case rel => exact ⟨k + 1, by omega, by go_num, below_drewN hb _⟩
      case measure => simp [intOf]; omega
    · go_wp2
      go_ret
      exact ⟨rfl, hb⟩

set_option maxRecDepth 100000 in
set_option maxHeartbeats 800000 in
theorem sameDep_yes (d : Dep) (ex ex2 : Value) (w : World) (hx : SliceOf 2 idC w ex d.excl) (hy : SliceOf 2 idC w ex2 d.excl) (hl : d.excl.length ≤ 140737488355328) :
    Calls Try.prog 32 #[.agg (depC (d, ex)).toArray, .agg (depC (d, ex2)).toArray] w fun e w' => e = .returned (.bool true) ∧ Below w.heap.size w w' := by
  obtain ⟨g, a, v, t, c, s, o, x⟩ := d
  simp only [depC]
  obtain ⟨ao, cap, rfl⟩ := hx.shape
  obtain ⟨ao2, cap2, rfl⟩ := hy.shape
  simp only at hx hy hl
  go_enter Try.func32, Try.ntmps32
  go_wp2
  go_loopw [65] (fun i wr => ∃ k : Nat, k ≤ x.length ∧ i = .int .i64 k ∧ Below w.heap.size w wr ∧ Box wr w.heap.size [.string g, .string a, .string v, .string t, .string c, .int .i64 s, .int .i64 o, .slice ao x.length cap] ∧ Box wr (w.heap.size + 1) [.string g, .string a, .string v, .string t, .string c, .int .i64 s, .int .i64 o, .slice ao2 x.length cap2]) (fun i _ => x.length - (intOf i).toNat)
  case atStart => exact ⟨0, Nat.zero_le _, rfl, ((Below.refl _ _).alloc (Nat.le_refl _) _).alloc (by simp) _, (Box.new w _ _ _ rfl).alloc _, Box.new _ _ _ _ (by simp)⟩
  case round =>
    obtain ⟨k, hk, rfl, hb, hx1, hx2⟩ := hrel
    by_cases hlt : k < x.length
    · have c7 := hx1.cell 7 _ rfl
      have d7 := hx2.cell 7 _ rfl
      obtain ⟨b, o', rfl, -, h0, h1⟩ := (hx.below hb).atId hlt
      obtain ⟨b2, o2', rfl, -, h2, h3⟩ := (hy.below hb).atId hlt
      clear hx hy
      generalize x[k].group = y1 at *
      generalize x[k].artifact = y2 at *
      go_wp2
      go_quiet (fail)
      go_wp2
      go_roundw
      case rel => exact ⟨k + 1, by omega, by go_num, below_drewN hb _, hx1.drewN _, hx2.drewN _⟩
      case measure => simp [intOf]; omega
    · go_wp2
      go_ret
      exact ⟨rfl, hb⟩

end Go.Proofs.Ytnhophaeimpkkaa
