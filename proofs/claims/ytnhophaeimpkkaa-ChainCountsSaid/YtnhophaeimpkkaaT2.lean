/- The walk of LightDep; its conditions stand in the theorems. -/
import Derived.Test.YtnhophaeimpkkaaProg
import Derived.Test.YtnhophaeimpkkaaT1
import Derived.WalkKit
import Derived.WalkSpells
import Derived.WalkLawsBesides
import Derived.Deep.QuietTactic
import Derived.BigQuiet
import Derived.Lib.Hide
namespace Go.Proofs.Ytnhophaeimpkkaa
open Go Go.RowKit

attribute [local go_sem ↓] eqg_prp neq_prp

set_option maxRecDepth 100000 in
set_option maxHeartbeats 400000 in
theorem lightDep_any (d : Dep) (ex : Value) (w : World) (hx : SliceOf 2 idC w ex d.excl) :
    Calls Try.prog 27 #[.agg (depC (d, ex)).toArray] w (RetB (LightDep d) w) := by
  obtain ⟨g, a, v, t, c, s, o, x⟩ := d
  simp only [depC]
  obtain ⟨ao, cap, rfl, -, -, -, hc⟩ := hx
  simp only at hc
  by_cases hl : x.length ≤ 10
  · go_enter Try.func27, Try.ntmps27
    cases hshort : allLe 2000 [g, a, v, t, c]
    all_goals
      have Hs := Lib.hid hshort
      clear hshort
      go_wp2_with (go_at_call 26; refine (short_any [g, a, v, t, c] _ _ (sliceStr _ [g, a, v, t, c] _ _ (by simp) (by simp [maxLen])) (by simp)).mono ?_; rintro e w' ⟨rfl, rfl⟩; rw [Hs.out])
    · go_ret
      exact RetB.no (((Below.refl _ _).alloc (Nat.le_refl _) _).alloc (by simp) _)
    · go_loopw [27] (fun i wr => ∃ k : Nat, k ≤ x.length ∧ i = .int .i64 k ∧ Below w.heap.size w wr) (fun i _ => x.length - (intOf i).toNat)
      case atStart => exact ⟨0, Nat.zero_le _, rfl, ((Below.refl _ _).alloc (Nat.le_refl _) _).alloc (by simp) _⟩
      case round =>
        obtain ⟨k, hk, rfl, hb⟩ := hrel
        have hb1 := bcell hb
        have hsz := hb.size
        by_cases hlt : k < x.length
        · obtain ⟨b, o', rfl, hbl, hcell⟩ := hc k x[k] (by simp [hlt])
          have h0 : wr.cell? ⟨b, o' + k * 2, none⟩ = some (.string x[k].group) := (hb.cell hbl).trans (by simpa using hcell 0 _ rfl)
          have h1 : wr.cell? ⟨b, o' + k * 2 + 1, none⟩ = some (.string x[k].artifact) := (hb.cell hbl).trans (by simpa using hcell 1 _ rfl)
          clear hc hcell hb1
          generalize x[k].group = y1 at *
          generalize x[k].artifact = y2 at *
          cases hshort : allLe 2000 [y1, y2]
          all_goals
            have Hs2 := Lib.hid hshort
            clear hshort
            go_wp2_with (go_at_call 26; refine (short_any [y1, y2] _ _ (sliceStr _ [y1, y2] _ _ (by simp) (by simp [maxLen])) (by simp)).mono ?_; rintro e w' ⟨rfl, rfl⟩; rw [Hs2.out])
          · go_ret
            exact RetB.no ((hb.alloc (by omega) _).alloc (by simp; omega) _)
          · go_roundw
            case rel => exact ⟨k + 1, by omega, by go_num, (hb.alloc (by omega) _).alloc (by simp; omega) _⟩
            case measure => simp [intOf]; omega
        · go_wp2
          go_ret
          exact RetB.yes ⟨hl⟩ hb
  · go_enter Try.func27, Try.ntmps27
    go_wp2
    go_ret
    exact RetB.no ((Below.refl _ _).alloc (Nat.le_refl _) _)

end Go.Proofs.Ytnhophaeimpkkaa
