/- The walk of Light; its conditions stand in the theorems. -/
import Derived.Test.YtnhophaeimpkkaaProg
import Derived.Test.YtnhophaeimpkkaaT2
import Derived.WalkKit
import Derived.WalkSpells
import Derived.WalkLawsBesides
import Derived.Deep.QuietTactic
import Derived.BigQuiet
import Derived.Lib.Hide
namespace Go.Proofs.Ytnhophaeimpkkaa
open Go Go.RowKit


set_option maxRecDepth 100000 in
set_option maxHeartbeats 1000000 in
theorem light_any (p : Pom) (pv mv dv : Value) (w : World) (hp : PomOf w (.agg (pomC p pv mv dv).toArray) p pv mv dv) :
    Calls Try.prog 7 #[.agg (pomC p pv mv dv).toArray] w (RetB (Light p) w) := by
  obtain ⟨-, h1, h2, h3⟩ := hp
  obtain ⟨md, he2, hm, hmo⟩ := h2
  obtain ⟨dd, he3, hd, hdo⟩ := h3
  obtain ⟨ao1, cap1, rfl⟩ := h1.shape
  obtain ⟨ao2, cap2, rfl⟩ := hm.shape
  obtain ⟨ao3, cap3, rfl⟩ := hd.shape
  have HP : Hid (md.length ≤ 30 → dd.length ≤ 30 → p.props.length ≤ 30 → (∀ q ∈ md, LightDep q.1) → (∀ q ∈ dd, LightDep q.1) → Light p) := by
    refine Lib.hid fun a b c d e => ⟨c, ?_, ?_, ?_, ?_⟩
    · rw [← he2]; simpa using a
    · rw [← he3]; simpa using b
    · rw [← he2]; intro x hx; obtain ⟨q, hq, rfl⟩ := List.mem_map.1 hx; exact d q hq
    · rw [← he3]; intro x hx; obtain ⟨q, hq, rfl⟩ := List.mem_map.1 hx; exact e q hq
  clear he2 he3
  obtain ⟨hpb, ⟨pg, pa, pve⟩, g, a, v, pk, pr, pm, pd⟩ := p
  simp only [pomC]
  simp only at h1 HP
  by_cases l1 : pr.length ≤ 30
  · by_cases l2 : md.length ≤ 30
    · by_cases l3 : dd.length ≤ 30
      · go_enter Try.func7, Try.ntmps7
        cases hshort : allLe 2000 [g, a, v, pk, pg, pa, pve]
        all_goals
          have Hs := Lib.hid hshort
          clear hshort
          go_wp2_with (go_at_call 26; refine (short_any [g, a, v, pk, pg, pa, pve] _ _ (sliceStr _ [g, a, v, pk, pg, pa, pve] _ _ (by simp) (by simp [maxLen])) (by simp)).mono ?_; rintro e w' ⟨rfl, rfl⟩; rw [Hs.out])
        · go_ret
          exact RetB.no (((Below.refl _ _).alloc (Nat.le_refl _) _).alloc (by simp) _)
        · go_loopw [50] (fun i wr => ∃ k : Nat, k ≤ pr.length ∧ i = .int .i64 k ∧ Below w.heap.size w wr ∧ Box wr w.heap.size [.bool hpb, .string pg, .string pa, .string pve, .string g, .string a, .string v, .string pk, .slice ao1 pr.length cap1, .slice ao2 md.length cap2, .slice ao3 dd.length cap3]) (fun i _ => pr.length - (intOf i).toNat)
          case atStart => exact ⟨0, Nat.zero_le _, rfl, ((Below.refl _ _).alloc (Nat.le_refl _) _).alloc (by simp) _, (Box.new w _ _ _ rfl).alloc _⟩
          case round =>
            obtain ⟨k, hk, rfl, hb, hx⟩ := hrel
            have hsz := hb.size
            by_cases hlt : k < pr.length
            · obtain ⟨b, o', rfl, hbl, h0, h1'⟩ := (h1.below hb).atPrp hlt
              clear h1 hm hd hmo hdo HP Hs
              generalize pr[k].name = y1 at *
              generalize pr[k].value = y2 at *
              cases hshort : allLe 2000 [y1, y2]
              all_goals
                have Hs2 := Lib.hid hshort
                clear hshort
                go_wp2_with (go_at_call 26; refine (short_any [y1, y2] _ _ (sliceStr _ [y1, y2] _ _ (by simp) (by simp [maxLen])) (by simp)).mono ?_; rintro e w' ⟨rfl, rfl⟩; rw [Hs2.out])
              · go_ret
                exact RetB.no ((hb.alloc (by omega) _).alloc (by simp; omega) _)
              · go_roundw
                case rel => exact ⟨k + 1, by omega, by go_num, (hb.alloc (by omega) _).alloc (by simp; omega) _, (hx.alloc _).alloc _⟩
                case measure => simp [intOf]; omega
            · have hc9 := hx.cell 9 _ rfl
              go_wp2
              go_loopw [65] (fun i wr => ∃ k : Nat, k ≤ md.length ∧ i = .int .i64 k ∧ Below w.heap.size w wr ∧ Box wr w.heap.size [.bool hpb, .string pg, .string pa, .string pve, .string g, .string a, .string v, .string pk, .slice ao1 pr.length cap1, .slice ao2 md.length cap2, .slice ao3 dd.length cap3] ∧ (∀ j q, j < k → md[j]? = some q → LightDep q.1)) (fun i _ => md.length - (intOf i).toNat)
              case atStart => exact ⟨0, Nat.zero_le _, rfl, hb, hx, by simp⟩
              case round =>
                obtain ⟨k, hk, rfl, hb, hx, hq⟩ := hrel
                have hsz := hb.size
                by_cases hlt : k < md.length
                · have hok := (hmo md[k] (by simp)).below hb
                  have hmk : md[k]? = some md[k] := by simp [hlt]
                  obtain ⟨b, o', rfl, hbl, c0, c1, c2, c3, c4, c5, c6, c7⟩ := (hm.below hb).atDep hlt
                  have Hk := Lib.hid hmk
                  have HQ := Lib.hid hq
                  have hxl := hx.lt
                  clear h1 hm hd hmo hdo HP Hs hmk hq
                  generalize md[k] = q at *
                  obtain ⟨qd, qx⟩ := q
                  obtain ⟨ao4, cap4, rfl⟩ := hok.shape
                  simp only at c0 c1 c2 c3 c4 c5 c6 c7
                  go_wp2_with (go_at_call 27; refine (lightDep_any qd (.slice ao4 qd.excl.length cap4) _ ?_).mono ?_; (first | exact hok.below ((Below.refl _ _).alloc (Nat.le_refl _) _)); intro e w' hR; obtain ⟨b', rfl, hbt, hbel⟩ := hR)
                  · go_ret
                    exact RetB.no ((hb.alloc (by omega) _).trans (hbel.mono (by simp; omega)))
                  · go_roundw
                    case rel =>
                      refine ⟨k + 1, by omega, by go_num, (hb.alloc (by omega) _).trans (hbel.mono (by simp; omega)), (hx.alloc _).below hbel (by simp; omega), fun j q' hj hq' => ?_⟩
                      rcases Nat.lt_succ_iff_lt_or_eq.1 hj with hj | rfl
                      · exact HQ.out j q' hj hq'
                      · have := Hk.out.symm.trans hq'; cases this; exact hbt (by first | assumption | simp_all)
                    case measure => simp [intOf]; omega

                · have hc10 := hx.cell 10 _ rfl
                  have hall : ∀ q ∈ md, LightDep q.1 := fun q hm' => by
                    obtain ⟨j, hj, rfl⟩ := List.mem_iff_getElem.1 hm'
                    exact hq j _ (by omega) (by simp [hj])
                  have HM := Lib.hid hall
                  clear hall hq hm hmo
                  go_wp2
                  go_loopw [76] (fun i wr => ∃ k : Nat, k ≤ dd.length ∧ i = .int .i64 k ∧ Below w.heap.size w wr ∧ Box wr w.heap.size [.bool hpb, .string pg, .string pa, .string pve, .string g, .string a, .string v, .string pk, .slice ao1 pr.length cap1, .slice ao2 md.length cap2, .slice ao3 dd.length cap3] ∧ (∀ j q, j < k → dd[j]? = some q → LightDep q.1)) (fun i _ => dd.length - (intOf i).toNat)
                  case atStart => exact ⟨0, Nat.zero_le _, rfl, hb, hx, by simp⟩
                  case round =>
                    clear hx hb hsz
                    obtain ⟨k, hk, rfl, hb, hx, hq⟩ := hrel
                    have hsz := hb.size
                    by_cases hlt : k < dd.length
                    · have hok := (hdo dd[k] (by simp)).below hb
                      have hmk : dd[k]? = some dd[k] := by simp [hlt]
                      obtain ⟨b, o', rfl, hbl, c0, c1, c2, c3, c4, c5, c6, c7⟩ := (hd.below hb).atDep hlt
                      have Hk := Lib.hid hmk
                      have HQ := Lib.hid hq
                      have hxl := hx.lt
                      clear h1 hd hdo HP HM Hs hmk hq
                      generalize dd[k] = q at *
                      obtain ⟨qd, qx⟩ := q
                      obtain ⟨ao4, cap4, rfl⟩ := hok.shape
                      simp only at c0 c1 c2 c3 c4 c5 c6 c7
                      go_wp2_with (go_at_call 27; refine (lightDep_any qd (.slice ao4 qd.excl.length cap4) _ ?_).mono ?_; (first | exact hok.below ((Below.refl _ _).alloc (Nat.le_refl _) _)); intro e w' hR; obtain ⟨b', rfl, hbt, hbel⟩ := hR)
                      · go_ret
                        exact RetB.no ((hb.alloc (by omega) _).trans (hbel.mono (by simp; omega)))
                      · go_roundw
                        case rel =>
                          refine ⟨k + 1, by omega, by go_num, (hb.alloc (by omega) _).trans (hbel.mono (by simp; omega)), (hx.alloc _).below hbel (by simp; omega), fun j q' hj hq' => ?_⟩
                          rcases Nat.lt_succ_iff_lt_or_eq.1 hj with hj | rfl
                          · exact HQ.out j q' hj hq'
                          · have := Hk.out.symm.trans hq'; cases this; exact hbt (by first | assumption | simp_all)
                        case measure => simp [intOf]; omega
                    · have hall : ∀ q ∈ dd, LightDep q.1 := fun q hm' => by
                        obtain ⟨j, hj, rfl⟩ := List.mem_iff_getElem.1 hm'
                        exact hq j _ (by omega) (by simp [hj])
                      have HD := Lib.hid hall
                      clear hall hq hd hdo
                      go_wp2
                      go_ret
                      exact RetB.yes (HP.out l2 l3 l1 HM.out HD.out) hb
      · go_enter Try.func7, Try.ntmps7
        go_wp2
        go_ret
        exact RetB.no ((Below.refl _ _).alloc (Nat.le_refl _) _)
    · go_enter Try.func7, Try.ntmps7
      go_wp2
      go_ret
      exact RetB.no ((Below.refl _ _).alloc (Nat.le_refl _) _)
  · go_enter Try.func7, Try.ntmps7
    go_wp2
    go_ret
    exact RetB.no ((Below.refl _ _).alloc (Nat.le_refl _) _)

end Go.Proofs.Ytnhophaeimpkkaa
