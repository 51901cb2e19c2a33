/- Walks of short, Key (both), SameProps; its conditions stand in the theorems. -/
import Derived.Test.YtnhophaeimpkkaaProg
import Derived.Test.YtnhophaeimpkkaaEq
import Derived.WalkKit
import Derived.WalkSpells
import Derived.WalkLawsBesides
import Derived.Deep.QuietTactic
import Derived.BigQuiet
import Derived.Lib.Hide
namespace Go.Proofs.Ytnhophaeimpkkaa
open Go Go.RowKit

set_option maxHeartbeats 400000 in
theorem short_any (l : List S) (v : Value) (w : World) (hs : SliceOf 1 strC w v l) (hl : l.length ≤ 140737488355328) :
    Calls Try.prog 26 #[v] w fun e w' => e = .returned (.bool (allLe 2000 l)) ∧ w = w' := by
  obtain ⟨ao, cap, rfl, -, -, -, hc⟩ := hs
  go_enter Try.func26, Try.ntmps26
  go_wp2
  go_loop [4, 7] (fun _ i => ∃ k : Nat, k ≤ l.length ∧ i = .int .i64 k ∧ Hid (allLe 2000 l = allLe 2000 (l.drop k))) (fun _ i => l.length - (intOf i).toNat)
  case atStart => exact ⟨0, Nat.zero_le _, rfl, rfl⟩
  case round =>
    obtain ⟨k, hk, rfl, H⟩ := hrel
    by_cases hlt : k < l.length
    · obtain ⟨b, o, rfl, -, hcell⟩ := hc k l[k] (by simp [hlt])
      have h0 : w.cell? ⟨b, o + k, none⟩ = some (.string l[k]) := by simpa using hcell 0 _ rfl
      have hd : Hid _ := drop_cons' hlt
      clear hc hcell
      generalize l[k] = s at *
      by_cases h2 : s.size ≤ 2000
      · go_wp2
        go_round
        case rel => exact ⟨k + 1, by omega, by go_num, by show _ = _; rw [H.out, hd.out]; simp [allLe, h2]⟩
        case measure => simp [intOf]; omega
      · go_wp2
        go_ret
        exact ⟨ret_bool (by rw [H.out, hd.out]; simp [allLe, h2]), rfl⟩
    · go_wp2
      go_ret
      exact ⟨ret_bool (by rw [H.out, List.drop_of_length_le (by omega)]; rfl), rfl⟩

set_option maxHeartbeats 400000 in
theorem refKey_any (d : Dep) (ex : Value) (w : World) :
    Calls Try.prog 16 #[.agg (depC (d, ex)).toArray] w fun e w' => e = .returned (.agg (keyC (keyOf d)).toArray) ∧ Below w.heap.size w w' := by
  obtain ⟨g, a, v, t, c, s, o, x⟩ := d
  simp only [keyOf, depC, keyC]
  cases ht : isE t
  all_goals
    simp only [isE] at ht
    go_enter Try.func16, Try.ntmps16
    go_wp2
    refine bodyPost_ret (v := .agg #[.string g, .string a, .string _, .string c]) (by simp [results, Try.results16, go_sem]; rfl) rfl ⟨by simp [jar], ?_⟩
    exact ((Below.refl _ _).alloc (Nat.le_refl _) _).alloc (by simp) _

set_option maxHeartbeats 400000 in
theorem key_any (d : Dep) (ex : Value) (w : World) :
    Calls Try.prog 17 #[.agg (depC (d, ex)).toArray] w fun e w' => e = .returned (.agg (keyC (keyOf d)).toArray) ∧ Below w.heap.size w w' := by
  obtain ⟨g, a, v, t, c, s, o, x⟩ := d
  simp only [keyOf, depC, keyC]
  cases ht : isE t
  all_goals
    simp only [isE] at ht
    go_enter Try.func17, Try.ntmps17
    go_wp2
    refine bodyPost_ret (v := .agg #[.string g, .string a, .string _, .string c]) (by simp [results, Try.results17, go_sem]; rfl) rfl ⟨by simp [jar], ?_⟩
    exact (((Below.refl _ _).alloc (Nat.le_refl _) _).alloc (by simp) _).alloc (by simp; omega) _

attribute [local go_sem ↓] eqg_prp neq_prp

end Go.Proofs.Ytnhophaeimpkkaa
