/- The walk of LightDep, and what it says of the texts; the conditions stand in the theorems. -/
import Derived.Test.YtbbbfjcikhpmbaaGreatProg
import Derived.Test.YtbbbfjcikhpmbaaGreatJH18
import Derived.WalkKit
import Derived.WalkSpells
import Derived.WalkLawsBesides
import Derived.Deep.QuietTactic
import Derived.BigQuiet
import Derived.Lib.Hide
import Derived.Deep.RegionHeld3
import Derived.StillTailTactics
import Derived.Test.YtbbbfjcikhpmbaaGreatJH02
import Derived.Deep.Cut
import Derived.Test.YtbbbfjcikhpmbaaGreatJH11
import Derived.Test.YtbbbfjcikhpmbaaGreatJH08
import Derived.Test.YtbbbfjcikhpmbaaGreatJH13
import Derived.Test.YtbbbfjcikhpmbaaGreatJH05
namespace Go.Proofs.YtbbbfjcikhpmbaaGreat
open Go Go.RowKit

/-- A dependency that the law looks at. -/
structure LightD (d : Dep) : Prop where
 excl : d.excl.length ≤ 10
 own : ∀ s ∈ [d.group, d.artifact, d.version, d.type, d.classifier], s.size ≤ 2000
 ex : ∀ y ∈ d.excl, y.group.size ≤ 2000 ∧ y.artifact.size ≤ 2000
theorem allLe_mem {n : Nat} : ∀ {l : List S}, allLe n l = true → ∀ s ∈ l, s.size ≤ n
 | [], _, s, hs => by cases hs
 | x :: l, h, s, hs => by
  simp only [allLe, Bool.and_eq_true, decide_eq_true_eq] at h
  rcases List.mem_cons.1 hs with rfl | hs
  · exact h.1
  · exact allLe_mem h.2 s hs
attribute [local go_sem ↓] eqg_prp neq_prp
set_option maxRecDepth 100000 in
set_option maxHeartbeats 400000 in
theorem lightD_any (d : Dep) (ex : Value) (w : World) (hx : SliceOf 2 idC w ex d.excl) :
    Calls Tryz.prog 51 #[.agg (depC (d, ex)).toArray] w (RetB (LightD d) w) := by
 obtain ⟨g, a, v, t, c, s, o, x⟩ := d
 simp only [depC]
 obtain ⟨ao, cap, rfl, -, -, -, hc⟩ := hx
 simp only at hc
 by_cases hl : x.length ≤ 10
 · go_enter Tryz.func51, Tryz.ntmps51
   cases hshort : allLe 2000 [g, a, v, t, c]
   all_goals
    have Hs := Lib.hid hshort
    clear hshort
    go_wp2_with (go_at_call 50; refine (short_any [g, a, v, t, c] _ _ (sliceStrQ _ [g, a, v, t, c] _ _ (by simp) (by simp [maxLen])) (by simp)).mono ?_; rintro e w' ⟨rfl, rfl⟩; rw [Hs.out])
   · go_ret
     exact RetB.noQ (((Below.refl _ _).alloc (Nat.le_refl _) _).alloc (by simp) _)
   · go_loopw [27] (fun i wr => ∃ k : Nat, k ≤ x.length ∧ i = .int .i64 k ∧ Below w.heap.size w wr ∧ Hid (∀ j y, j < k → x[j]? = some y → y.group.size ≤ 2000 ∧ y.artifact.size ≤ 2000)) (fun i _ => x.length - (intOf i).toNat)
     case atStart => exact ⟨0, Nat.zero_le _, rfl, ((Below.refl _ _).alloc (Nat.le_refl _) _).alloc (by simp) _, fun j y hj => absurd hj (by omega)⟩
     case round =>
      obtain ⟨k, hk, rfl, hb, HQ⟩ := hrel
      have hb1 := bcellQ hb
      have hsz := hb.size
      by_cases hlt : k < x.length
      · obtain ⟨b, o', rfl, hbl, hcell⟩ := hc k x[k] (by simp [hlt])
        have h0 : wr.cell? ⟨b, o' + k * 2, none⟩ = some (.string x[k].group) := (hb.cell hbl).trans (by simpa using hcell 0 _ rfl)
        have h1 : wr.cell? ⟨b, o' + k * 2 + 1, none⟩ = some (.string x[k].artifact) := (hb.cell hbl).trans (by simpa using hcell 1 _ rfl)
        have Hk : Hid (x[k]? = some ⟨x[k].group, x[k].artifact⟩) := by show _ = _; simp [hlt]
        clear hc hcell hb1
        generalize x[k].group = y1 at *
        generalize x[k].artifact = y2 at *
        cases hshort : allLe 2000 [y1, y2]
        all_goals
         have Hs2 := Lib.hid hshort
         clear hshort
         go_wp2_with (go_at_call 50; refine (short_any [y1, y2] _ _ (sliceStrQ _ [y1, y2] _ _ (by simp) (by simp [maxLen])) (by simp)).mono ?_; rintro e w' ⟨rfl, rfl⟩; rw [Hs2.out])
        · go_ret
          exact RetB.noQ ((hb.alloc (by omega) _).alloc (by simp; omega) _)
        · go_roundw
          case rel =>
           refine ⟨k + 1, by omega, by go_num, (hb.alloc (by omega) _).alloc (by simp; omega) _, fun j y hj hy => ?_⟩
           rcases Nat.lt_succ_iff_lt_or_eq.1 hj with hj | rfl
           · exact HQ.out j y hj hy
           · have h9 := Hk.out.symm.trans hy; cases h9; have h8 := allLe_mem Hs2.out; exact ⟨h8 _ (by simp), h8 _ (by simp)⟩
          case measure => simp [intOf]; omega
      · go_wp2
        go_ret
        exact RetB.yesQ ⟨hl, allLe_mem Hs.out, fun y hy => by obtain ⟨j, hj, rfl⟩ := List.mem_iff_getElem.1 hy; exact HQ.out j _ (by have hj2 : j < x.length := hj; omega) (by have hj2 : j < x.length := hj; simp [hj2])⟩ hb
 · go_enter Tryz.func51, Tryz.ntmps51
   go_wp2
   go_ret
   exact RetB.noQ ((Below.refl _ _).alloc (Nat.le_refl _) _)

end Go.Proofs.YtbbbfjcikhpmbaaGreat

/- The walk of Light; its conditions stand in the theorems. -/
namespace Go.Proofs.YtbbbfjcikhpmbaaGreat
open Go Go.RowKit

/-- A project that the law looks at. -/
structure LightP (p : Pom) : Prop where
 props : p.props.length ≤ 30
 managed : p.managed.length ≤ 30
 deps : p.deps.length ≤ 30
 own : ∀ s ∈ [p.group, p.artifact, p.version, p.packaging, p.parent.group, p.parent.artifact, p.parent.version], s.size ≤ 2000
 prp : ∀ y ∈ p.props, y.name.size ≤ 2000 ∧ y.value.size ≤ 2000
 managedL : ∀ d ∈ p.managed, LightD d
 depsL : ∀ d ∈ p.deps, LightD d
set_option maxRecDepth 100000 in
set_option maxHeartbeats 1000000 in
theorem lightP_any (p : Pom) (pv mv dv : Value) (w : World) (hp : PomOf w (.agg (pomC p pv mv dv).toArray) p pv mv dv) :
    Calls Tryz.prog 16 #[.agg (pomC p pv mv dv).toArray] w (RetB (LightP p) w) := by
 obtain ⟨-, h1, h2, h3⟩ := hp
 obtain ⟨md, he2, hm, hmo⟩ := h2
 obtain ⟨dd, he3, hd, hdo⟩ := h3
 obtain ⟨ao1, cap1, rfl⟩ := h1.shape
 obtain ⟨ao2, cap2, rfl⟩ := hm.shape
 obtain ⟨ao3, cap3, rfl⟩ := hd.shape
 have HP : Hid (md.length ≤ 30 → dd.length ≤ 30 → p.props.length ≤ 30 → (∀ q ∈ md, LightD q.1) → (∀ q ∈ dd, LightD q.1) → allLe 2000 [p.group, p.artifact, p.version, p.packaging, p.parent.group, p.parent.artifact, p.parent.version] = true → (∀ j y, j < p.props.length → p.props[j]? = some y → y.name.size ≤ 2000 ∧ y.value.size ≤ 2000) → LightP p) := by
  refine Lib.hid fun a b c d e f z => ⟨c, ?_, ?_, allLe_mem f, fun y hy => (by obtain ⟨j, hj, rfl⟩ := List.mem_iff_getElem.1 hy; exact z j _ hj (by simp [hj])), ?_, ?_⟩
  · rw [← he2]; simpa using a
  · rw [← he3]; simpa using b
  · rw [← he2]; intro x hx; obtain ⟨q, hq, rfl⟩ := List.mem_map.1 hx; exact d q hq
  · rw [← he3]; intro x hx; obtain ⟨q, hq, rfl⟩ := List.mem_map.1 hx; exact e q hq
 clear he2 he3
 obtain ⟨hpb, ⟨pg, pa, pve⟩, g, a, v, pk, pr, pm, pd⟩ := p
 simp only [pomC]
 simp only at h1 HP
 by_cases l1 : pr.length ≤ 30
 · by_cases l2 : md.length ≤ 30
   · by_cases l3 : dd.length ≤ 30
     · go_enter Tryz.func16, Tryz.ntmps16
       cases hshort : allLe 2000 [g, a, v, pk, pg, pa, pve]
       all_goals
        have Hs := Lib.hid hshort
        clear hshort
        go_wp2_with (go_at_call 50; refine (short_any [g, a, v, pk, pg, pa, pve] _ _ (sliceStrQ _ [g, a, v, pk, pg, pa, pve] _ _ (by simp) (by simp [maxLen])) (by simp)).mono ?_; rintro e w' ⟨rfl, rfl⟩; rw [Hs.out])
       · go_ret
         exact RetB.noQ (((Below.refl _ _).alloc (Nat.le_refl _) _).alloc (by simp) _)
       · go_loopw [50] (fun i wr => ∃ k : Nat, k ≤ pr.length ∧ i = .int .i64 k ∧ Below w.heap.size w wr ∧ Box wr w.heap.size [.bool hpb, .string pg, .string pa, .string pve, .string g, .string a, .string v, .string pk, .slice ao1 pr.length cap1, .slice ao2 md.length cap2, .slice ao3 dd.length cap3] ∧ Hid (∀ j y, j < k → pr[j]? = some y → y.name.size ≤ 2000 ∧ y.value.size ≤ 2000)) (fun i _ => pr.length - (intOf i).toNat)
         case atStart => exact ⟨0, Nat.zero_le _, rfl, ((Below.refl _ _).alloc (Nat.le_refl _) _).alloc (by simp) _, (Box.new w _ _ _ rfl).alloc _, fun j y hj => absurd hj (by omega)⟩
         case round =>
          obtain ⟨k, hk, rfl, hb, hx, HQR⟩ := hrel
          have hsz := hb.size
          by_cases hlt : k < pr.length
          · obtain ⟨b, o', rfl, hbl, h0, h1'⟩ := (h1.below hb).atPrp hlt
            have Hk : Hid (pr[k]? = some ⟨pr[k].name, pr[k].value⟩) := by show _ = _; simp [hlt]
            clear h1 hm hd hmo hdo HP Hs
            generalize pr[k].name = y1 at *
            generalize pr[k].value = y2 at *
            cases hshort : allLe 2000 [y1, y2]
            all_goals
             have Hs2 := Lib.hid hshort
             clear hshort
             go_wp2_with (go_at_call 50; refine (short_any [y1, y2] _ _ (sliceStrQ _ [y1, y2] _ _ (by simp) (by simp [maxLen])) (by simp)).mono ?_; rintro e w' ⟨rfl, rfl⟩; rw [Hs2.out])
            · go_ret
              exact RetB.noQ ((hb.alloc (by omega) _).alloc (by simp; omega) _)
            · go_roundw
              case rel =>
               refine ⟨k + 1, by omega, by go_num, (hb.alloc (by omega) _).alloc (by simp; omega) _, (hx.alloc _).alloc _, fun j y hj hy => ?_⟩
               rcases Nat.lt_succ_iff_lt_or_eq.1 hj with hj | rfl
               · exact HQR.out j y hj hy
               · have h9 := Hk.out.symm.trans hy; cases h9; have h8 := allLe_mem Hs2.out; exact ⟨h8 _ (by simp), h8 _ (by simp)⟩
              case measure => simp [intOf]; omega
          · have HPR : Hid (∀ j y, j < pr.length → pr[j]? = some y → y.name.size ≤ 2000 ∧ y.value.size ≤ 2000) := fun j y hj hy => HQR.out j y (by omega) hy
            have hc9 := hx.cell 9 _ rfl
            go_wp2
            go_loopw [65] (fun i wr => ∃ k : Nat, k ≤ md.length ∧ i = .int .i64 k ∧ Below w.heap.size w wr ∧ Box wr w.heap.size [.bool hpb, .string pg, .string pa, .string pve, .string g, .string a, .string v, .string pk, .slice ao1 pr.length cap1, .slice ao2 md.length cap2, .slice ao3 dd.length cap3] ∧ (∀ j q, j < k → md[j]? = some q → LightD q.1)) (fun i _ => md.length - (intOf i).toNat)
            case atStart => exact ⟨0, Nat.zero_le _, rfl, hb, hx, by simp⟩
            case round =>
             obtain ⟨k, hk, rfl, hb, hx, hq⟩ := hrel
             have hsz := hb.size
             by_cases hlt : k < md.length
             · have hok := (hmo md[k] (by simp)).below hb
               have hmk : md[k]? = some md[k] := by simp [hlt]
               obtain ⟨b, o', rfl, hbl, c0, c1, c2, c3, c4, c5, c6, c7⟩ := (hm.below hb).atDep hlt
               have Hk := Lib.hid hmk
               have HQ := Lib.hid hq
               have hxl := hx.lt
               clear h1 hm hd hmo hdo HP Hs HPR hmk hq
               generalize md[k] = q at *
               obtain ⟨qd, qx⟩ := q
               obtain ⟨ao4, cap4, rfl⟩ := hok.shape
               simp only at c0 c1 c2 c3 c4 c5 c6 c7
               go_wp2_with (go_at_call 51; refine (lightD_any qd (.slice ao4 qd.excl.length cap4) _ ?_).mono ?_; (first | exact hok.below ((Below.refl _ _).alloc (Nat.le_refl _) _)); intro e w' hR; obtain ⟨b', rfl, hbt, hbel⟩ := hR)
               · go_ret
                 exact RetB.noQ ((hb.alloc (by omega) _).trans (hbel.mono (by simp; omega)))
               · go_roundw
                 case rel =>
                  refine ⟨k + 1, by omega, by go_num, (hb.alloc (by omega) _).trans (hbel.mono (by simp; omega)), (hx.alloc _).below hbel (by simp; omega), fun j q' hj hq' => ?_⟩
                  rcases Nat.lt_succ_iff_lt_or_eq.1 hj with hj | rfl
                  · exact HQ.out j q' hj hq'
                  · have := Hk.out.symm.trans hq'; cases this; exact hbt (by first | assumption | simp_all)
                 case measure => simp [intOf]; omega

             · have hc10 := hx.cell 10 _ rfl
               have hall : ∀ q ∈ md, LightD q.1 := fun q hm' => by
                obtain ⟨j, hj, rfl⟩ := List.mem_iff_getElem.1 hm'
                exact hq j _ (by omega) (by simp [hj])
               have HM := Lib.hid hall
               clear hall hq hm hmo
               go_wp2
               go_loopw [76] (fun i wr => ∃ k : Nat, k ≤ dd.length ∧ i = .int .i64 k ∧ Below w.heap.size w wr ∧ Box wr w.heap.size [.bool hpb, .string pg, .string pa, .string pve, .string g, .string a, .string v, .string pk, .slice ao1 pr.length cap1, .slice ao2 md.length cap2, .slice ao3 dd.length cap3] ∧ (∀ j q, j < k → dd[j]? = some q → LightD q.1)) (fun i _ => dd.length - (intOf i).toNat)
               case atStart => exact ⟨0, Nat.zero_le _, rfl, hb, hx, by simp⟩
               case round =>
                clear hx hb hsz
                obtain ⟨k, hk, rfl, hb, hx, hq⟩ := hrel
                have hsz := hb.size
                by_cases hlt : k < dd.length
                · have hok := (hdo dd[k] (by simp)).below hb
                  have hmk : dd[k]? = some dd[k] := by simp [hlt]
                  obtain ⟨b, o', rfl, hbl, c0, c1, c2, c3, c4, c5, c6, c7⟩ := (hd.below hb).atDep hlt
                  have Hk := Lib.hid hmk
                  have HQ := Lib.hid hq
                  have hxl := hx.lt
                  clear h1 hd hdo HP HM Hs HPR hmk hq
                  generalize dd[k] = q at *
                  obtain ⟨qd, qx⟩ := q
                  obtain ⟨ao4, cap4, rfl⟩ := hok.shape
                  simp only at c0 c1 c2 c3 c4 c5 c6 c7
                  go_wp2_with (go_at_call 51; refine (lightD_any qd (.slice ao4 qd.excl.length cap4) _ ?_).mono ?_; (first | exact hok.below ((Below.refl _ _).alloc (Nat.le_refl _) _)); intro e w' hR; obtain ⟨b', rfl, hbt, hbel⟩ := hR)
                  · go_ret
                    exact RetB.noQ ((hb.alloc (by omega) _).trans (hbel.mono (by simp; omega)))
                  · go_roundw
                    case rel =>
                     refine ⟨k + 1, by omega, by go_num, (hb.alloc (by omega) _).trans (hbel.mono (by simp; omega)), (hx.alloc _).below hbel (by simp; omega), fun j q' hj hq' => ?_⟩
                     rcases Nat.lt_succ_iff_lt_or_eq.1 hj with hj | rfl
                     · exact HQ.out j q' hj hq'
                     · have := Hk.out.symm.trans hq'; cases this; exact hbt (by first | assumption | simp_all)
                    case measure => simp [intOf]; omega
                · have hall : ∀ q ∈ dd, LightD q.1 := fun q hm' => by
                   obtain ⟨j, hj, rfl⟩ := List.mem_iff_getElem.1 hm'
                   exact hq j _ (by omega) (by simp [hj])
                  have HD := Lib.hid hall
                  clear hall hq hd hdo
                  go_wp2
                  go_ret
                  exact RetB.yesQ (HP.out l2 l3 l1 HM.out HD.out Hs.out HPR.out) hb
     · go_enter Tryz.func16, Tryz.ntmps16
       go_wp2
       go_ret
       exact RetB.noQ ((Below.refl _ _).alloc (Nat.le_refl _) _)
   · go_enter Tryz.func16, Tryz.ntmps16
     go_wp2
     go_ret
     exact RetB.noQ ((Below.refl _ _).alloc (Nat.le_refl _) _)
 · go_enter Tryz.func16, Tryz.ntmps16
   go_wp2
   go_ret
   exact RetB.noQ ((Below.refl _ _).alloc (Nat.le_refl _) _)

end Go.Proofs.YtbbbfjcikhpmbaaGreat

/- Walks: the document's Same of dependencies, at any two; the conditions stand in the theorems. -/
namespace Go.Proofs.YtbbbfjcikhpmbaaGreat
open Go Go.RowKit

attribute [local go_sem ↓] eqg_prp neq_prp eqg_id neq_id eqg_gav eql_gav
set_option maxRecDepth 100000 in
set_option maxHeartbeats 4000000 in
theorem sameDepX_any (d d2 : Dep) (ex ex2 : Value) (w : World) (hx : SliceOf 2 idC w ex d.excl) (hy : SliceOf 2 idC w ex2 d2.excl) (hl : d.excl.length ≤ 140737488355328) (hl2 : d2.excl.length ≤ 140737488355328) :
    Calls Tryz.prog 23 #[.agg (depC (d, ex)).toArray, .agg (depC (d2, ex2)).toArray] w fun e w' => e = .returned (.bool (decide (d = d2))) ∧ Below w.heap.size w w' := by
 have HD : Hid (∀ b, b = decide (d = d2) → b = decide (d = d2)) := fun _ h => h
 obtain ⟨r, hr⟩ : ∃ r, r = decide (d = d2) := ⟨_, rfl⟩
 have HR : Hid (r = decide (d = d2)) := hr
 rw [← hr]
 clear hr HD
 obtain ⟨dg, da, dv, dt, dc, ds, dp, dx⟩ := d
 obtain ⟨eg, ea, ev, et, ec, es, ep, xx⟩ := d2
 simp only [Dep.mk.injEq] at HR
 simp only [depC]
 obtain ⟨ao, cap, rfl⟩ := hx.shape
 obtain ⟨ao2, cap2, rfl⟩ := hy.shape
 simp only at hx hy hl hl2
 have HX := Lib.hid hx
 have HY := Lib.hid hy
 have HBB : Hid (∀ o1 o2, Below w.heap.size w ((w.alloc o1).alloc o2)) := fun o1 o2 => ((Below.refl _ _).alloc (Nat.le_refl _) _).alloc (by simp) _
 clear hx hy
 by_cases hg : dg = eg
 rotate_left
 · have HN : Hid (r = false) := by show _ = _; rw [HR.out]; exact decide_eq_false (fun h => hg h.1)
   have hb : (dg.toList == eg.toList) = false := by rw [str_beq]; exact decide_eq_false hg
   clear hg HR HX HY
   go_enter Tryz.func23, Tryz.ntmps23
   go_wp2
   go_ret
   exact ⟨by rw [HN.out]; rfl, HBB.out _ _⟩
 subst hg
 by_cases ha : da = ea
 rotate_left
 · have HN : Hid (r = false) := by show _ = _; rw [HR.out]; exact decide_eq_false (fun h => ha h.2.1)
   have hb : (da.toList == ea.toList) = false := by rw [str_beq]; exact decide_eq_false ha
   clear ha HR HX HY
   go_enter Tryz.func23, Tryz.ntmps23
   go_wp2
   go_ret
   exact ⟨by rw [HN.out]; rfl, HBB.out _ _⟩
 subst ha
 by_cases hv : dv = ev
 rotate_left
 · have HN : Hid (r = false) := by show _ = _; rw [HR.out]; exact decide_eq_false (fun h => hv h.2.2.1)
   have hb : (dv.toList == ev.toList) = false := by rw [str_beq]; exact decide_eq_false hv
   clear hv HR HX HY
   go_enter Tryz.func23, Tryz.ntmps23
   go_wp2
   go_ret
   exact ⟨by rw [HN.out]; rfl, HBB.out _ _⟩
 subst hv
 by_cases ht : dt = et
 rotate_left
 · have HN : Hid (r = false) := by show _ = _; rw [HR.out]; exact decide_eq_false (fun h => ht h.2.2.2.1)
   have hb : (dt.toList == et.toList) = false := by rw [str_beq]; exact decide_eq_false ht
   clear ht HR HX HY
   go_enter Tryz.func23, Tryz.ntmps23
   go_wp2
   go_ret
   exact ⟨by rw [HN.out]; rfl, HBB.out _ _⟩
 subst ht
 by_cases hc : dc = ec
 rotate_left
 · have HN : Hid (r = false) := by show _ = _; rw [HR.out]; exact decide_eq_false (fun h => hc h.2.2.2.2.1)
   have hb : (dc.toList == ec.toList) = false := by rw [str_beq]; exact decide_eq_false hc
   clear hc HR HX HY
   go_enter Tryz.func23, Tryz.ntmps23
   go_wp2
   go_ret
   exact ⟨by rw [HN.out]; rfl, HBB.out _ _⟩
 subst hc
 by_cases hs : ds = es
 rotate_left
 · have HN : Hid (r = false) := by show _ = _; rw [HR.out]; exact decide_eq_false (fun h => hs h.2.2.2.2.2.1)
   have hb : (ds == es) = false := beq_eq_false_iff_ne.2 hs
   have hb2 : (ds != es) = true := by rw [bne, hb]; rfl
   clear hs HR HX HY
   go_enter Tryz.func23, Tryz.ntmps23
   go_wp2
   go_ret
   exact ⟨by rw [HN.out]; rfl, HBB.out _ _⟩
 subst hs
 by_cases hp : dp = ep
 rotate_left
 · have HN : Hid (r = false) := by show _ = _; rw [HR.out]; exact decide_eq_false (fun h => hp h.2.2.2.2.2.2.1)
   have hb : (dp == ep) = false := beq_eq_false_iff_ne.2 hp
   have hb2 : (dp != ep) = true := by rw [bne, hb]; rfl
   clear hp HR HX HY
   go_enter Tryz.func23, Tryz.ntmps23
   go_wp2
   go_ret
   exact ⟨by rw [HN.out]; rfl, HBB.out _ _⟩
 subst hp
 by_cases hxl : dx.length = xx.length
 rotate_left
 · have HN : Hid (r = false) := by show _ = _; rw [HR.out]; exact decide_eq_false (fun h => hxl (congrArg List.length h.2.2.2.2.2.2.2))
   have hb : ((dx.length : Int) == (xx.length : Int)) = false := beq_eq_false_iff_ne.2 (by omega)
   have hb2 : (dx.length == xx.length) = false := beq_eq_false_iff_ne.2 hxl
   have hb3 : ((dx.length : Int) != (xx.length : Int)) = true := by rw [bne, hb]; rfl
   clear hxl HR HX HY
   go_enter Tryz.func23, Tryz.ntmps23
   go_wp2
   go_ret
   exact ⟨by rw [HN.out]; rfl, HBB.out _ _⟩
 have HRX : Hid (r = decide (dx = xx)) := by show _ = _; rw [HR.out]; simp
 rw [← hxl] at HY ⊢
 have HXL := Lib.hid hxl
 clear HR hxl
 go_enter Tryz.func23, Tryz.ntmps23
 go_wp2
 go_loopw [65] (fun i wr => ∃ k : Nat, k ≤ dx.length ∧ i = .int .i64 k ∧ Hid (dx.take k = xx.take k) ∧ Below w.heap.size w wr ∧ Box wr w.heap.size [.string dg, .string da, .string dv, .string dt, .string dc, .int .i64 ds, .int .i64 dp, .slice ao dx.length cap] ∧ Box wr (w.heap.size + 1) [.string dg, .string da, .string dv, .string dt, .string dc, .int .i64 ds, .int .i64 dp, .slice ao2 dx.length cap2]) (fun i _ => dx.length - (intOf i).toNat)
 case atStart => exact ⟨0, Nat.zero_le _, rfl, rfl, HBB.out _ _, (Box.new w _ _ _ rfl).alloc _, Box.new _ _ _ _ (by simp)⟩
 case round =>
  obtain ⟨k, hk, rfl, HT, hb, hx1, hx2⟩ := hrel
  by_cases hlt : k < dx.length
  · have c7 := hx1.cell 7 _ rfl
    have d7 := hx2.cell 7 _ rfl
    have hlt2 : k < xx.length := by have := HXL.out; omega
    obtain ⟨b, o', rfl, -, h0, h1⟩ := (HX.out.below hb).atId hlt
    have hyy := HY.out.below hb
    rw [HXL.out] at hyy
    obtain ⟨b2, o2', rfl, -, h2, h3⟩ := hyy.atId hlt2
    have HTK : Hid (dx[k] = xx[k] → dx.take (k + 1) = xx.take (k + 1)) := fun h => by rw [List.take_succ_eq_append_getElem hlt, List.take_succ_eq_append_getElem hlt2, HT.out, h]
    have HNE : Hid (dx[k] ≠ xx[k] → r = false) := fun h => by rw [HRX.out]; exact decide_eq_false fun e => h (by simp only [e])
    have HB1 := Lib.hid hb
    have HK1 := Lib.hid hx1
    have HK2 := Lib.hid hx2
    clear HT hyy hb hx1 hx2
    generalize dx[k] = y at *
    generalize xx[k] = z at *
    obtain ⟨y1, y2⟩ := y
    obtain ⟨z1, z2⟩ := z
    simp only at h0 h1 h2 h3
    by_cases e1 : y1 = z1
    · subst e1
      by_cases e2 : y2 = z2
      · subst e2
        have HT2 := Lib.hid (HTK.out rfl)
        clear HTK HNE
        go_wp2
        go_quiet (fail)
        go_wp2
        go_roundw
        case rel => exact ⟨k + 1, by omega, by go_num, HT2.out, below_drewN HB1.out _, HK1.out.drewN _, HK2.out.drewN _⟩
        case measure => simp [intOf]; omega
      · have HN := Lib.hid (HNE.out (fun h => e2 (by injection h)))
        have hd : decide (y2 = z2) = false := decide_eq_false e2
        clear HTK HNE e2
        go_wp2
        go_quiet (fail)
        go_wp2
        go_ret
        exact ⟨by rw [HN.out]; rfl, below_drewN HB1.out _⟩
    · have HN := Lib.hid (HNE.out (fun h => e1 (by injection h)))
      have hd : decide (y1 = z1) = false := decide_eq_false e1
      clear HTK HNE e1
      go_wp2
      go_quiet (fail)
      go_wp2
      go_ret
      exact ⟨by rw [HN.out]; rfl, below_drewN HB1.out _⟩
  · obtain rfl : k = dx.length := by omega
    have HN : Hid (r = true) := by
     show _ = _
     have h1 := HT.out
     rw [List.take_length, HXL.out, List.take_length] at h1
     rw [HRX.out]; exact decide_eq_true h1
    have HB1 := Lib.hid hb
    clear HT hb hx1 hx2 hlt
    go_wp2
    go_ret
    exact ⟨by rw [HN.out]; rfl, HB1.out⟩

end Go.Proofs.YtbbbfjcikhpmbaaGreat

/- Walks: rows of properties, ids, dependencies compared, by the document and by slices.Equal, EqualFunc; pom.SameDep; the conditions stand in the theorems. -/
namespace Go.Proofs.YtbbbfjcikhpmbaaGreat
open Go Go.RowKit

attribute [local go_sem ↓] eqg_prp neq_prp eqg_id neq_id eqg_gav eql_gav
set_option maxHeartbeats 2000000 in
theorem sameProps_any (l m : List Prp) (v u : Value) (w : World) (hs : SliceOf 2 prpC w v l) (hm : SliceOf 2 prpC w u m) :
    Calls Tryz.prog 48 #[v, u] w fun e w' => e = .returned (.bool (decide (l = m))) ∧ Below w.heap.size w w' := by
 have hll : l.length ≤ 9223372036854775807 := by obtain ⟨a, c, e, h2, h3, -⟩ := hs; exact Nat.le_trans h2 (Nat.le_trans h3 (by decide))
 have hlm : m.length ≤ 9223372036854775807 := by obtain ⟨a, c, e, h2, h3, -⟩ := hm; exact Nat.le_trans h2 (Nat.le_trans h3 (by decide))
 obtain ⟨ao, cap, rfl⟩ := hs.shape
 obtain ⟨ao2, cap2, rfl⟩ := hm.shape
 obtain ⟨r, hr⟩ : ∃ r, r = decide (l = m) := ⟨_, rfl⟩
 have HR : Hid (r = decide (l = m)) := hr
 have HX := Lib.hid hs
 have HY := Lib.hid hm
 rw [← hr]
 clear hr hs hm
 by_cases hxl : l.length = m.length
 rotate_left
 · have HN : Hid (r = false) := by show _ = _; rw [HR.out]; exact decide_eq_false (fun h => hxl (congrArg List.length h))
   have hb : ((l.length : Int) == (m.length : Int)) = false := beq_eq_false_iff_ne.2 (by omega)
   have hb2 : (l.length == m.length) = false := beq_eq_false_iff_ne.2 hxl
   have hb3 : ((l.length : Int) != (m.length : Int)) = true := by rw [bne, hb]; rfl
   clear hxl HR HX HY
   go_enter Tryz.func48, Tryz.ntmps48
   go_wp2
   go_ret
   exact ⟨by rw [HN.out]; rfl, Below.refl _ _⟩
 rw [← hxl] at HY ⊢
 have HXL := Lib.hid hxl
 clear hxl hlm
 go_enter Tryz.func48, Tryz.ntmps48
 go_wp2
 go_loopw [13] (fun i wr => ∃ k : Nat, k ≤ l.length ∧ i = .int .i64 k ∧ Hid (l.take k = m.take k) ∧ Below w.heap.size w wr) (fun i _ => l.length - (intOf i).toNat)
 case atStart => exact ⟨0, Nat.zero_le _, rfl, rfl, Below.refl _ _⟩
 case round =>
  obtain ⟨k, hk, rfl, HT, hb⟩ := hrel
  by_cases hlt : k < l.length
  · have hlt2 : k < m.length := by have := HXL.out; omega
    obtain ⟨b, o', rfl, -, h0, h1⟩ := (HX.out.below hb).atPrp hlt
    have hyy := HY.out.below hb
    rw [HXL.out] at hyy
    obtain ⟨b2, o2', rfl, -, h2, h3⟩ := hyy.atPrp hlt2
    have HTK : Hid (l[k] = m[k] → l.take (k + 1) = m.take (k + 1)) := fun h => by rw [List.take_succ_eq_append_getElem hlt, List.take_succ_eq_append_getElem hlt2, HT.out, h]
    have HNE : Hid (l[k] ≠ m[k] → r = false) := fun h => by rw [HR.out]; exact decide_eq_false fun e => h (by simp only [e])
    have HB1 := Lib.hid hb
    clear HT hyy hb
    generalize l[k] = y at *
    generalize m[k] = z at *
    obtain ⟨y1, y2⟩ := y
    obtain ⟨z1, z2⟩ := z
    simp only at h0 h1 h2 h3
    by_cases e1 : y1 = z1
    · subst e1
      by_cases e2 : y2 = z2
      · subst e2
        have HT2 := Lib.hid (HTK.out rfl)
        clear HTK HNE
        go_wp2
        go_quiet (fail)
        go_wp2
        go_roundw
        case rel => exact ⟨k + 1, by omega, by go_num, HT2.out, below_drewN HB1.out _⟩
        case measure => simp [intOf]; omega
      · have HN := Lib.hid (HNE.out (fun h => e2 (by injection h)))
        have hd : decide (y2 = z2) = false := decide_eq_false e2
        clear HTK HNE e2
        go_wp2
        go_quiet (fail)
        go_wp2
        go_ret
        exact ⟨by rw [HN.out]; rfl, below_drewN HB1.out _⟩
    · have HN := Lib.hid (HNE.out (fun h => e1 (by injection h)))
      have hd : decide (y1 = z1) = false := decide_eq_false e1
      clear HTK HNE e1
      go_wp2
      go_quiet (fail)
      go_wp2
      go_ret
      exact ⟨by rw [HN.out]; rfl, below_drewN HB1.out _⟩
  · obtain rfl : k = l.length := by omega
    have HN : Hid (r = true) := by
     show _ = _
     have h1 := HT.out
     rw [List.take_length, HXL.out, List.take_length] at h1
     rw [HR.out]; exact decide_eq_true h1
    have HB1 := Lib.hid hb
    clear HT hb hlt
    go_wp2
    go_ret
    exact ⟨by rw [HN.out]; rfl, HB1.out⟩
set_option maxRecDepth 100000 in
set_option maxHeartbeats 4000000 in
theorem sameDepsX_any (ds es : List Dep) (v u : Value) (w : World) (hv : DepsOf w v ds) (hu : DepsOf w u es) (hxl : ∀ d ∈ ds, d.excl.length ≤ 140737488355328) (hyl : ∀ d ∈ es, d.excl.length ≤ 140737488355328) :
    Calls Tryz.prog 49 #[v, u] w fun e w' => e = .returned (.bool (decide (ds = es))) ∧ Below w.heap.size w w' := by
 obtain ⟨r, hr⟩ : ∃ r, r = decide (ds = es) := ⟨_, rfl⟩
 have HR0 : Hid (r = decide (ds = es)) := hr
 rw [← hr]
 clear hr
 obtain ⟨l, hel, hs, hso⟩ := hv
 obtain ⟨m, hem, hm, hmo⟩ := hu
 have HXX : Hid (∀ q ∈ l, q.1.excl.length ≤ 140737488355328) := fun q hq => hxl _ (by rw [← hel]; exact List.mem_map.2 ⟨q, hq, rfl⟩)
 have HYX : Hid (∀ q ∈ m, q.1.excl.length ≤ 140737488355328) := fun q hq => hyl _ (by rw [← hem]; exact List.mem_map.2 ⟨q, hq, rfl⟩)
 have HR : Hid (r = decide (l.map (·.1) = m.map (·.1))) := by show _ = _; rw [HR0.out, hel, hem]
 have hll : l.length ≤ 9223372036854775807 := by obtain ⟨a, c, e, h2, h3, -⟩ := hs; exact Nat.le_trans h2 (Nat.le_trans h3 (by decide))
 have hlm : m.length ≤ 9223372036854775807 := by obtain ⟨a, c, e, h2, h3, -⟩ := hm; exact Nat.le_trans h2 (Nat.le_trans h3 (by decide))
 obtain ⟨ao, cap, rfl⟩ := hs.shape
 obtain ⟨ao2, cap2, rfl⟩ := hm.shape
 have HX := Lib.hid hs
 have HY := Lib.hid hm
 have HXO := Lib.hid hso
 have HYO := Lib.hid hmo
 clear hel hem hs hm hso hmo hxl hyl HR0
 by_cases hxl : l.length = m.length
 rotate_left
 · have HN : Hid (r = false) := by show _ = _; rw [HR.out]; exact decide_eq_false (fun h => hxl (by simpa using congrArg List.length h))
   have hb : ((l.length : Int) == (m.length : Int)) = false := beq_eq_false_iff_ne.2 (by omega)
   have hb2 : (l.length == m.length) = false := beq_eq_false_iff_ne.2 hxl
   have hb3 : ((l.length : Int) != (m.length : Int)) = true := by rw [bne, hb]; rfl
   clear hxl HR HX HY HXO HYO HXX HYX
   go_enter Tryz.func49, Tryz.ntmps49
   go_wp2
   go_ret
   exact ⟨by rw [HN.out]; rfl, Below.refl _ _⟩
 rw [← hxl] at HY ⊢
 have HXL := Lib.hid hxl
 clear hxl hlm
 go_enter Tryz.func49, Tryz.ntmps49
 go_wp2
 go_loopw [13] (fun i wr => ∃ k : Nat, k ≤ l.length ∧ i = .int .i64 k ∧ Hid ((l.map (·.1)).take k = (m.map (·.1)).take k) ∧ Below w.heap.size w wr) (fun i _ => l.length - (intOf i).toNat)
 case atStart => exact ⟨0, Nat.zero_le _, rfl, rfl, Below.refl _ _⟩
 case round =>
  obtain ⟨k, hk, rfl, HT, hb⟩ := hrel
  by_cases hlt : k < l.length
  · have hlt2 : k < m.length := by have := HXL.out; omega
    obtain ⟨b, o', rfl, hg1, c0, c1, c2, c3, c4, c5, c6, c7⟩ := (HX.out.below hb).atDep hlt
    have hyy := HY.out.below hb
    rw [HXL.out] at hyy
    obtain ⟨b2, o2', rfl, hg2, d0, d1, d2, d3, d4, d5, d6, d7⟩ := hyy.atDep hlt2
    have HTK : Hid (l[k].1 = m[k].1 → (l.map (·.1)).take (k + 1) = (m.map (·.1)).take (k + 1)) := fun h => by rw [List.take_succ_eq_append_getElem (by simpa using hlt), List.take_succ_eq_append_getElem (by simpa using hlt2), HT.out, List.getElem_map, List.getElem_map, h]
    have HNE : Hid (l[k].1 ≠ m[k].1 → r = false) := fun h => by
     rw [HR.out]
     refine decide_eq_false fun e => h ?_
     have h1 := congrArg (·[k]?) e
     simpa [hlt, hlt2] using h1
    have hok := (HXO.out l[k] (List.getElem_mem hlt)).below hb
    have hok2 := (HYO.out m[k] (List.getElem_mem hlt2)).below hb
    have HLX := Lib.hid (HXX.out l[k] (List.getElem_mem hlt))
    have HLY := Lib.hid (HYX.out m[k] (List.getElem_mem hlt2))
    have HB1 := Lib.hid hb
    have hsr := hb.size
    clear HT hyy hb
    generalize l[k] = q at *
    generalize m[k] = q2 at *
    obtain ⟨qd, qx⟩ := q
    obtain ⟨qd2, qx2⟩ := q2
    obtain ⟨ao4, cap4, rfl⟩ := hok.shape
    obtain ⟨ao5, cap5, rfl⟩ := hok2.shape
    have HOK := Lib.hid hok
    have HOK2 := Lib.hid hok2
    simp only at c0 c1 c2 c3 c4 c5 c6 c7 d0 d1 d2 d3 d4 d5 d6 d7
    have HSD : Hid (∀ W, Below wr.heap.size wr W → Calls Tryz.prog 23 #[.agg #[.string qd.group, .string qd.artifact, .string qd.version, .string qd.type, .string qd.classifier, .int .i64 qd.scope, .int .i64 qd.opt, .slice ao4 qd.excl.length cap4], .agg #[.string qd2.group, .string qd2.artifact, .string qd2.version, .string qd2.type, .string qd2.classifier, .int .i64 qd2.scope, .int .i64 qd2.opt, .slice ao5 qd2.excl.length cap5]] W fun e w' => e = .returned (.bool (decide (qd = qd2))) ∧ Below W.heap.size W w') := fun W h => sameDepX_any qd qd2 _ _ W (HOK.out.below h) (HOK2.out.below h) HLX.out HLY.out
    clear hok hok2
    obtain ⟨q, hq⟩ : ∃ q, q = decide (qd = qd2) := ⟨_, rfl⟩
    rw [← hq] at HSD
    have HQ := Lib.hid hq
    clear hq
    go_wp2
    go_still_tail 8, (by kernel_rfl)
    change wpList _ _ _ _ _ wr.drew
    go_wp2_with fail
    refine (HSD.out _ (below_drewN (Below.refl wr.heap.size wr) 1)).mono ?_
    rintro e w7 ⟨rfl, hb7⟩
    have HB7 := Lib.hid (HB1.out.trans (((below_drewN (Below.refl wr.heap.size wr) 1).trans hb7).mono hsr))
    clear hb7 HSD
    cases q with
    | true =>
     have HT2 := Lib.hid (HTK.out (of_decide_eq_true HQ.out.symm))
     clear HTK HNE HQ
     go_wp2
     go_roundw
     case rel => exact ⟨k + 1, by omega, by go_num, HT2.out, HB7.out⟩
     case measure => simp [intOf]; omega
    | false =>
     have HN := Lib.hid (HNE.out (of_decide_eq_false HQ.out.symm))
     clear HTK HNE HQ
     go_wp2
     go_ret
     exact ⟨by rw [HN.out]; rfl, HB7.out⟩
  · obtain rfl : k = l.length := by omega
    have HN : Hid (r = true) := by
     show _ = _
     have h1 := HT.out
     rw [List.take_of_length_le (by simp), List.take_of_length_le (by have := HXL.out; simp; omega)] at h1
     rw [HR.out]; exact decide_eq_true h1
    have HB1 := Lib.hid hb
    clear HT hb hlt
    go_wp2
    go_ret
    exact ⟨by rw [HN.out]; rfl, HB1.out⟩

end Go.Proofs.YtbbbfjcikhpmbaaGreat

/- Walks: Same of projects, the document's and pom's; the conditions stand in the theorems. -/

namespace Go.Proofs.YtbbbfjcikhpmbaaGreat
open Go Go.RowKit

attribute [local go_sem ↓] eqg_prp neq_prp eqg_id neq_id eqg_gav eql_gav
set_option maxRecDepth 100000 in
set_option maxHeartbeats 4000000 in
theorem sameX_any (p q : Pom) (pv mv dv pv2 mv2 dv2 : Value) (w : World) (hp : PomOf w (.agg (pomC p pv mv dv).toArray) p pv mv dv) (hq : PomOf w (.agg (pomC q pv2 mv2 dv2).toArray) q pv2 mv2 dv2)
    (x2 : ∀ d ∈ p.managed, d.excl.length ≤ 140737488355328) (x3 : ∀ d ∈ p.deps, d.excl.length ≤ 140737488355328) (y2 : ∀ d ∈ q.managed, d.excl.length ≤ 140737488355328) (y3 : ∀ d ∈ q.deps, d.excl.length ≤ 140737488355328) :
    Calls Tryz.prog 15 #[.agg (pomC p pv mv dv).toArray, .agg (pomC q pv2 mv2 dv2).toArray] w fun e w' => e = .returned (.bool (decide (p = q))) ∧ Below w.heap.size w w' := by
 obtain ⟨r, hr⟩ : ∃ r, r = decide (p = q) := ⟨_, rfl⟩
 have HR : Hid (r = decide (p = q)) := hr
 rw [← hr]
 clear hr
 obtain ⟨-, p1, p2, p3⟩ := hp
 obtain ⟨-, q1, q2, q3⟩ := hq
 obtain ⟨dh, ⟨dx, dy, dz⟩, dg, da, dv', dk, dp, dm, dd⟩ := p
 obtain ⟨eh, ⟨ex, ey, ez⟩, eg, ea, ev, ek, ep, em, ed⟩ := q
 simp only [Pom.mk.injEq, Gav.mk.injEq] at HR
 simp only [pomC]
 simp only at p1 p2 p3 q1 q2 q3 x2 x3 y2 y3
 obtain ⟨ao1, cap1, rfl⟩ := p1.shape
 obtain ⟨ao2, cap2, rfl⟩ := p2.shape
 obtain ⟨ao3, cap3, rfl⟩ := p3.shape
 obtain ⟨ao4, cap4, rfl⟩ := q1.shape
 obtain ⟨ao5, cap5, rfl⟩ := q2.shape
 obtain ⟨ao6, cap6, rfl⟩ := q3.shape
 have H1 : Hid (∀ W, Below w.heap.size w W → Calls Tryz.prog 48 #[.slice ao1 dp.length cap1, .slice ao4 ep.length cap4] W fun e w' => e = .returned (.bool (decide (dp = ep))) ∧ Below W.heap.size W w') := fun W h => sameProps_any dp ep _ _ W (p1.below h) (q1.below h)
 have H2 : Hid (∀ W, Below w.heap.size w W → Calls Tryz.prog 49 #[.slice ao2 dm.length cap2, .slice ao5 em.length cap5] W fun e w' => e = .returned (.bool (decide (dm = em))) ∧ Below W.heap.size W w') := fun W h => sameDepsX_any dm em _ _ W (p2.below h) (q2.below h) x2 y2
 have H3 : Hid (∀ W, Below w.heap.size w W → Calls Tryz.prog 49 #[.slice ao3 dd.length cap3, .slice ao6 ed.length cap6] W fun e w' => e = .returned (.bool (decide (dd = ed))) ∧ Below W.heap.size W w') := fun W h => sameDepsX_any dd ed _ _ W (p3.below h) (q3.below h) x3 y3
 have HBB : Hid (∀ o1 o2, Below w.heap.size w ((w.alloc o1).alloc o2)) := fun o1 o2 => ((Below.refl _ _).alloc (Nat.le_refl _) _).alloc (by simp) _
 clear p1 p2 p3 q1 q2 q3 x2 x3 y2 y3
 by_cases hh : dh = eh
 rotate_left
 · have HN : Hid (r = false) := by show _ = _; rw [HR.out]; exact decide_eq_false (fun h => hh h.1)
   have hb : (dh == eh) = false := beq_eq_false_iff_ne.2 hh
   clear hh HR H1 H2 H3
   go_enter Tryz.func15, Tryz.ntmps15
   go_wp2
   go_ret
   exact ⟨by rw [HN.out]; rfl, HBB.out _ _⟩
 subst hh
 by_cases hx : dx = ex
 rotate_left
 · have HN : Hid (r = false) := by show _ = _; rw [HR.out]; exact decide_eq_false (fun h => hx h.2.1.1)
   have hb : decide (dx = ex) = false := decide_eq_false hx
   clear hx HR H1 H2 H3
   go_enter Tryz.func15, Tryz.ntmps15
   go_wp2
   go_ret
   exact ⟨by rw [HN.out]; rfl, HBB.out _ _⟩
 subst hx
 by_cases hy : dy = ey
 rotate_left
 · have HN : Hid (r = false) := by show _ = _; rw [HR.out]; exact decide_eq_false (fun h => hy h.2.1.2.1)
   have hb : decide (dy = ey) = false := decide_eq_false hy
   clear hy HR H1 H2 H3
   go_enter Tryz.func15, Tryz.ntmps15
   go_wp2
   go_ret
   exact ⟨by rw [HN.out]; rfl, HBB.out _ _⟩
 subst hy
 by_cases hz : dz = ez
 rotate_left
 · have HN : Hid (r = false) := by show _ = _; rw [HR.out]; exact decide_eq_false (fun h => hz h.2.1.2.2)
   have hb : decide (dz = ez) = false := decide_eq_false hz
   clear hz HR H1 H2 H3
   go_enter Tryz.func15, Tryz.ntmps15
   go_wp2
   go_ret
   exact ⟨by rw [HN.out]; rfl, HBB.out _ _⟩
 subst hz
 by_cases hg : dg = eg
 rotate_left
 · have HN : Hid (r = false) := by show _ = _; rw [HR.out]; exact decide_eq_false (fun h => hg h.2.2.1)
   have hb : (dg.toList == eg.toList) = false := by rw [str_beq]; exact decide_eq_false hg
   clear hg HR H1 H2 H3
   go_enter Tryz.func15, Tryz.ntmps15
   go_wp2
   go_ret
   exact ⟨by rw [HN.out]; rfl, HBB.out _ _⟩
 subst hg
 by_cases ha : da = ea
 rotate_left
 · have HN : Hid (r = false) := by show _ = _; rw [HR.out]; exact decide_eq_false (fun h => ha h.2.2.2.1)
   have hb : (da.toList == ea.toList) = false := by rw [str_beq]; exact decide_eq_false ha
   clear ha HR H1 H2 H3
   go_enter Tryz.func15, Tryz.ntmps15
   go_wp2
   go_ret
   exact ⟨by rw [HN.out]; rfl, HBB.out _ _⟩
 subst ha
 by_cases hv : dv' = ev
 rotate_left
 · have HN : Hid (r = false) := by show _ = _; rw [HR.out]; exact decide_eq_false (fun h => hv h.2.2.2.2.1)
   have hb : (dv'.toList == ev.toList) = false := by rw [str_beq]; exact decide_eq_false hv
   clear hv HR H1 H2 H3
   go_enter Tryz.func15, Tryz.ntmps15
   go_wp2
   go_ret
   exact ⟨by rw [HN.out]; rfl, HBB.out _ _⟩
 subst hv
 by_cases hk : dk = ek
 rotate_left
 · have HN : Hid (r = false) := by show _ = _; rw [HR.out]; exact decide_eq_false (fun h => hk h.2.2.2.2.2.1)
   have hb : (dk.toList == ek.toList) = false := by rw [str_beq]; exact decide_eq_false hk
   clear hk HR H1 H2 H3
   go_enter Tryz.func15, Tryz.ntmps15
   go_wp2
   go_ret
   exact ⟨by rw [HN.out]; rfl, HBB.out _ _⟩
 subst hk
 have HRX : Hid (r = (decide (dp = ep) && (decide (dm = em) && decide (dd = ed)))) := by show _ = _; rw [HR.out]; simp
 clear HR
 obtain ⟨b1, h1⟩ : ∃ b, b = decide (dp = ep) := ⟨_, rfl⟩
 obtain ⟨b2, h2⟩ : ∃ b, b = decide (dm = em) := ⟨_, rfl⟩
 obtain ⟨b3, h3⟩ : ∃ b, b = decide (dd = ed) := ⟨_, rfl⟩
 rw [← h1] at H1
 rw [← h2] at H2
 rw [← h3] at H3
 rw [← h1, ← h2, ← h3] at HRX
 clear h1 h2 h3
 have hd0 : (dh == dh) = true := by simp
 go_enter Tryz.func15, Tryz.ntmps15
 go_upto_region 1 with fail
 refine wp_world ?_
 intro W hW
 have x1 : Box W w.heap.size [.bool dh, .string dx, .string dy, .string dz, .string dg, .string da, .string dv', .string dk, .slice ao1 dp.length cap1, .slice ao2 dm.length cap2, .slice ao3 dd.length cap3] := by rw [hW]; exact (Box.new w [.bool dh, .string dx, .string dy, .string dz, .string dg, .string da, .string dv', .string dk, .slice ao1 dp.length cap1, .slice ao2 dm.length cap2, .slice ao3 dd.length cap3] _ _ rfl).alloc _
 have x2 : Box W (w.heap.size + 1) [.bool dh, .string dx, .string dy, .string dz, .string dg, .string da, .string dv', .string dk, .slice ao4 ep.length cap4, .slice ao5 em.length cap5, .slice ao6 ed.length cap6] := by rw [hW]; exact Box.new _ [.bool dh, .string dx, .string dy, .string dz, .string dg, .string da, .string dv', .string dk, .slice ao4 ep.length cap4, .slice ao5 em.length cap5, .slice ao6 ed.length cap6] _ _ (by simp)
 have hb : Below w.heap.size w W := by rw [hW]; exact HBB.out _ _
 clear hW HBB
 have HX1 := Lib.hid x1
 have HX2 := Lib.hid x2
 have HB := Lib.hid hb
 clear x1 x2 hb
 have c0 := HX1.out.cell 0 _ rfl
 have d0 := HX2.out.cell 0 _ rfl
 have c1 := HX1.out.cell 1 _ rfl
 have d1 := HX2.out.cell 1 _ rfl
 have c2 := HX1.out.cell 2 _ rfl
 have d2 := HX2.out.cell 2 _ rfl
 have c3 := HX1.out.cell 3 _ rfl
 have d3 := HX2.out.cell 3 _ rfl
 have c4 := HX1.out.cell 4 _ rfl
 have d4 := HX2.out.cell 4 _ rfl
 have c5 := HX1.out.cell 5 _ rfl
 have d5 := HX2.out.cell 5 _ rfl
 have c6 := HX1.out.cell 6 _ rfl
 have d6 := HX2.out.cell 6 _ rfl
 have c7 := HX1.out.cell 7 _ rfl
 have d7 := HX2.out.cell 7 _ rfl
 have c8 := HX1.out.cell 8 _ rfl
 have d8 := HX2.out.cell 8 _ rfl
 have c9 := HX1.out.cell 9 _ rfl
 have d9 := HX2.out.cell 9 _ rfl
 have c10 := HX1.out.cell 10 _ rfl
 have d10 := HX2.out.cell 10 _ rfl
 have cl := HX1.out.lt
 have dl := HX2.out.lt
 go_wp2_with fail
 refine (H1.out _ HB.out).mono ?_
 rintro e w1 ⟨rfl, hb1⟩
 clear c0 d0 c1 d1 c2 d2 c3 d3 c4 d4 c5 d5 c6 d6 c7 d7 c8 d8 c9 d9 c10 d10 cl dl
 have HX1' := Lib.hid (HX1.out.below hb1 HX1.out.lt)
 have HX2' := Lib.hid (HX2.out.below hb1 HX2.out.lt)
 have HB' := Lib.hid (HB.out.trans (hb1.mono HB.out.size))
 clear hb1 HX1 HX2 HB H1
 have HX1 := HX1'
 have HX2 := HX2'
 have HB := HB'
 clear HX1' HX2' HB'
 have c0 := HX1.out.cell 0 _ rfl
 have d0 := HX2.out.cell 0 _ rfl
 have c1 := HX1.out.cell 1 _ rfl
 have d1 := HX2.out.cell 1 _ rfl
 have c2 := HX1.out.cell 2 _ rfl
 have d2 := HX2.out.cell 2 _ rfl
 have c3 := HX1.out.cell 3 _ rfl
 have d3 := HX2.out.cell 3 _ rfl
 have c4 := HX1.out.cell 4 _ rfl
 have d4 := HX2.out.cell 4 _ rfl
 have c5 := HX1.out.cell 5 _ rfl
 have d5 := HX2.out.cell 5 _ rfl
 have c6 := HX1.out.cell 6 _ rfl
 have d6 := HX2.out.cell 6 _ rfl
 have c7 := HX1.out.cell 7 _ rfl
 have d7 := HX2.out.cell 7 _ rfl
 have c8 := HX1.out.cell 8 _ rfl
 have d8 := HX2.out.cell 8 _ rfl
 have c9 := HX1.out.cell 9 _ rfl
 have d9 := HX2.out.cell 9 _ rfl
 have c10 := HX1.out.cell 10 _ rfl
 have d10 := HX2.out.cell 10 _ rfl
 have cl := HX1.out.lt
 have dl := HX2.out.lt
 cases b1 with
 | false =>
  go_wp2
  go_ret
  exact ⟨by rw [HRX.out]; rfl, HB.out⟩
 | true =>
  go_wp2_with fail
  refine (H2.out _ HB.out).mono ?_
  rintro e w2 ⟨rfl, hb1⟩
  clear c0 d0 c1 d1 c2 d2 c3 d3 c4 d4 c5 d5 c6 d6 c7 d7 c8 d8 c9 d9 c10 d10 cl dl
  have HX1' := Lib.hid (HX1.out.below hb1 HX1.out.lt)
  have HX2' := Lib.hid (HX2.out.below hb1 HX2.out.lt)
  have HB' := Lib.hid (HB.out.trans (hb1.mono HB.out.size))
  clear hb1 HX1 HX2 HB H2
  have HX1 := HX1'
  have HX2 := HX2'
  have HB := HB'
  clear HX1' HX2' HB'
  have c0 := HX1.out.cell 0 _ rfl
  have d0 := HX2.out.cell 0 _ rfl
  have c1 := HX1.out.cell 1 _ rfl
  have d1 := HX2.out.cell 1 _ rfl
  have c2 := HX1.out.cell 2 _ rfl
  have d2 := HX2.out.cell 2 _ rfl
  have c3 := HX1.out.cell 3 _ rfl
  have d3 := HX2.out.cell 3 _ rfl
  have c4 := HX1.out.cell 4 _ rfl
  have d4 := HX2.out.cell 4 _ rfl
  have c5 := HX1.out.cell 5 _ rfl
  have d5 := HX2.out.cell 5 _ rfl
  have c6 := HX1.out.cell 6 _ rfl
  have d6 := HX2.out.cell 6 _ rfl
  have c7 := HX1.out.cell 7 _ rfl
  have d7 := HX2.out.cell 7 _ rfl
  have c8 := HX1.out.cell 8 _ rfl
  have d8 := HX2.out.cell 8 _ rfl
  have c9 := HX1.out.cell 9 _ rfl
  have d9 := HX2.out.cell 9 _ rfl
  have c10 := HX1.out.cell 10 _ rfl
  have d10 := HX2.out.cell 10 _ rfl
  have cl := HX1.out.lt
  have dl := HX2.out.lt
  cases b2 with
  | false =>
   go_wp2
   go_ret
   exact ⟨by rw [HRX.out]; simp, HB.out⟩
  | true =>
   go_wp2_with fail
   refine (H3.out _ HB.out).mono ?_
   rintro e w3 ⟨rfl, hb1⟩
   clear c0 d0 c1 d1 c2 d2 c3 d3 c4 d4 c5 d5 c6 d6 c7 d7 c8 d8 c9 d9 c10 d10 cl dl
   have HX1' := Lib.hid (HX1.out.below hb1 HX1.out.lt)
   have HX2' := Lib.hid (HX2.out.below hb1 HX2.out.lt)
   have HB' := Lib.hid (HB.out.trans (hb1.mono HB.out.size))
   clear hb1 HX1 HX2 HB H3
   have HX1 := HX1'
   have HX2 := HX2'
   have HB := HB'
   clear HX1' HX2' HB'
   have c0 := HX1.out.cell 0 _ rfl
   have d0 := HX2.out.cell 0 _ rfl
   have c1 := HX1.out.cell 1 _ rfl
   have d1 := HX2.out.cell 1 _ rfl
   have c2 := HX1.out.cell 2 _ rfl
   have d2 := HX2.out.cell 2 _ rfl
   have c3 := HX1.out.cell 3 _ rfl
   have d3 := HX2.out.cell 3 _ rfl
   have c4 := HX1.out.cell 4 _ rfl
   have d4 := HX2.out.cell 4 _ rfl
   have c5 := HX1.out.cell 5 _ rfl
   have d5 := HX2.out.cell 5 _ rfl
   have c6 := HX1.out.cell 6 _ rfl
   have d6 := HX2.out.cell 6 _ rfl
   have c7 := HX1.out.cell 7 _ rfl
   have d7 := HX2.out.cell 7 _ rfl
   have c8 := HX1.out.cell 8 _ rfl
   have d8 := HX2.out.cell 8 _ rfl
   have c9 := HX1.out.cell 9 _ rfl
   have d9 := HX2.out.cell 9 _ rfl
   have c10 := HX1.out.cell 10 _ rfl
   have d10 := HX2.out.cell 10 _ rfl
   have cl := HX1.out.lt
   have dl := HX2.out.lt
   cases b3
   all_goals
    go_wp2
    go_ret
    exact ⟨by rw [HRX.out]; rfl, HB.out⟩

end Go.Proofs.YtbbbfjcikhpmbaaGreat

/- Walks of isName, isText and the document's IsName, plain; their conditions stand in the theorems. -/

namespace Go.Proofs.YtbbbfjcikhpmbaaGreat
open Go Go.RowKit

/-- Is a text a name? -/
def okName (l : Bs) : Bool := !l.isEmpty && decide (nameLen l = l.length)
/-- Are all bytes a text's? -/
def okText (l : Bs) : Bool := l.all cText
theorem okText_take {l : Bs} {k : Nat} (h : k < l.length) : okText (l.take (k + 1)) = (okText (l.take k) && cText l[k]) := by
 unfold okText
 rw [List.take_succ_eq_append_getElem h, List.all_append]; simp
theorem okText_false {l : Bs} {k : Nat} (h : k < l.length) (hc : cText l[k] = false) : okText l = false := by
 unfold okText
 rw [Bool.eq_false_iff]
 intro h2
 have := List.all_eq_true.1 h2 l[k] (List.getElem_mem h)
 rw [hc] at this; cases this
theorem get_data (s : S) (k : Nat) (h : k < s.size) : s.data.toList[k]'(by rw [size_data]; exact h) = s[k] := rfl
set_option maxHeartbeats 1000000 in
theorem refIsNm_any (s : S) (w : World) (hs : s.size ≤ 9223372036854775807) :
    Calls Tryz.prog 62 #[.string s] w fun e w' => e = .returned (.bool (okName s.data.toList)) ∧ w = w' := by
 by_cases h0 : s.size = 0
 · have hI : ¬ (0 : Int) < (s.size : Int) := by omega
   have hd : s.data.toList = [] := List.eq_nil_of_length_eq_zero (by rw [size_data, h0])
   have HO : Hid (okName s.data.toList = false) := by show _ = _; rw [hd]; rfl
   clear hd h0
   go_enter Tryz.func62, Tryz.ntmps62
   go_wp2_with fail
   go_ret
   exact ⟨by rw [HO.out]; rfl, rfl⟩
 · have hI : (0 : Int) < (s.size : Int) := by omega
   have HO : Hid (okName s.data.toList = decide (nameLen s.data.toList = s.size)) := by
    show _ = _
    have hd : s.data.toList.isEmpty = false := by
     cases h : s.data.toList with
     | nil => have := size_data s; rw [h] at this; exact absurd this.symm h0
     | cons a b => rfl
    unfold okName
    rw [hd, size_data]; rfl
   have HN := Lib.hid (fun w => refName_any s w hs)
   clear h0
   generalize nameLen s.data.toList = n at *
   by_cases hn : n = s.size
   · have hb : ((n : Int) == (s.size : Int)) = true := by rw [hn]; simp
     rw [decide_eq_true hn] at HO
     have HNN := Lib.hid hn
     clear hn
     go_enter Tryz.func62, Tryz.ntmps62
     go_wp2_with (go_at_call 99; refine (HN.out _).mono ?_; rintro e w' ⟨rfl, rfl⟩)
     go_ret
     exact ⟨by rw [HO.out]; rfl, rfl⟩
   · have hb : ((n : Int) == (s.size : Int)) = false := beq_eq_false_iff_ne.2 (by omega)
     rw [decide_eq_false hn] at HO
     have HNN := Lib.hid hn
     clear hn
     go_enter Tryz.func62, Tryz.ntmps62
     go_wp2_with (go_at_call 99; refine (HN.out _).mono ?_; rintro e w' ⟨rfl, rfl⟩)
     go_ret
     exact ⟨by rw [HO.out]; rfl, rfl⟩

end Go.Proofs.YtbbbfjcikhpmbaaGreat

/- Walks: may a text be one that was read, by pom and by the document; the conditions stand in the theorems. -/

namespace Go.Proofs.YtbbbfjcikhpmbaaGreat
open Go Go.RowKit

/-- May a text be one that was read? -/
def okW (s : S) (b : Bool) : Bool := okText s.data.toList && (decide (s.size ≤ 1024) && (decide (trimB s.data.toList = s.data.toList) && (b || !s.toList.isEmpty)))
theorem data_eq {x s : S} : (x.data.toList = s.data.toList) = (x = s) := by
 refine propext ⟨fun h => ?_, fun h => by rw [h]⟩
 cases x; cases s
 simp only [ByteArray.mk.injEq]
 exact Array.toList_inj.1 h
set_option maxRecDepth 100000 in
set_option maxHeartbeats 4000000 in
theorem isTextQ_any (s : S) (b : Bool) (w : World) (hs : s.size ≤ 1000000) :
    Calls Tryz.prog 67 #[.string s, .bool b] w fun e w' => e = .returned (.bool (okW s b)) ∧ Below w.heap.size w w' := by
 obtain ⟨r, hr⟩ : ∃ r, r = okW s b := ⟨_, rfl⟩
 have HR : Hid (r = (okText s.data.toList && (decide (s.size ≤ 1024) && (decide (trimB s.data.toList = s.data.toList) && (b || !s.toList.isEmpty))))) := hr
 rw [← hr]
 have HTR : Hid (∀ W, Calls Tryz.prog 101 #[.string s] W fun e w' => ∃ x : S, e = .returned (.string x) ∧ (x.toList == s.toList) = decide (trimB s.data.toList = s.data.toList) ∧ W = w') := fun W => (trim_any s W (by omega)).mono fun e w' ⟨x, h1, h2, h3⟩ => ⟨x, h1, by rw [str_beq, ← h2]; exact decide_eq_decide.2 (iff_of_eq data_eq.symm), h3⟩
 obtain ⟨q, hq⟩ : ∃ q, q = decide (trimB s.data.toList = s.data.toList) := ⟨_, rfl⟩
 rw [← hq] at HTR HR
 have hE0 := empty_data s
 obtain ⟨em, hem⟩ : ∃ em, em = s.toList.isEmpty := ⟨_, rfl⟩
 have HEM := Lib.hid hem
 rw [← hem] at HR
 have HEZ : Hid (em = decide (s.size = 0)) := by show _ = _; rw [hem, hE0]
 clear hr hq hem hE0
 have hcv := fun (w : World) => conv_bytes w s
 go_enter Tryz.func67, Tryz.ntmps67
 go_wp2_with fail
 clear hcv
 refine wp_world ?_
 intro W hW
 have hcells := fun j h => bytesW_cell w s j h
 have hbel : Below w.heap.size w (bytesW w s) := bytesW_below w s _ (Nat.le_refl _)
 have hsz := bytesW_size w s
 rw [← hW] at hcells hbel hsz
 have HCE := Lib.hid hcells
 have HBE := Lib.hid hbel
 have HSZ := Lib.hid hsz
 clear hW hcells hbel hsz
 go_loopw [6, 10] (fun _ i wr => ∃ k : Nat, k ≤ s.size ∧ i = .int .i64 k ∧ wr = W ∧ Hid (okText (s.data.toList.take k) = true)) (fun _ i _ => s.size - (intOf i).toNat)
 case atStart => exact ⟨0, Nat.zero_le _, rfl, rfl, by show _ = _; rfl⟩
 case round =>
  obtain ⟨k, hk, rfl, hwr, HK⟩ := hrel
  obtain rfl : W = wr := hwr.symm
  by_cases hlt : k < s.size
  · have hi1 : (k : Int) < (s.size : Int) := by omega
    have hlt' : k < s.data.toList.length := by rw [size_data]; exact hlt
    have HT := Lib.hid (okText_take hlt')
    have HFF := Lib.hid (fun h => okText_false hlt' h)
    rw [get_data s k hlt] at HT HFF
    have HCT := Lib.hid (fun w => isText_any s[k] w)
    have c1 := HCE.out k hlt
    have hg1 : w.heap.size < W.heap.size := by have := HSZ.out; omega
    cases hc : cText s[k]
    · rw [hc] at HCT HFF
      have HN : Hid (r = false) := by show _ = _; rw [HR.out, HFF.out rfl]; rfl
      clear hc
      go_wp2_with fail
      refine (HCT.out _).mono ?_
      rintro e w8 ⟨rfl, hw8⟩
      obtain rfl : W = w8 := hw8
      go_wp2
      go_ret
      exact ⟨by rw [HN.out]; rfl, HBE.out⟩
    · rw [hc] at HCT HT
      clear hc
      go_wp2_with fail
      refine (HCT.out _).mono ?_
      rintro e w8 ⟨rfl, hw8⟩
      obtain rfl : W = w8 := hw8
      go_wp2
      go_roundw
      case rel => exact ⟨k + 1, hlt, by go_num, by first | rfl | trivial, by show _ = _; rw [HT.out, HK.out]; rfl⟩
      case measure => simp [intOf]; omega
  · obtain rfl : k = s.size := by omega
    have HO : Hid (okText s.data.toList = true) := by have := HK.out; rwa [List.take_of_length_le (by rw [size_data]; exact Nat.le_refl _)] at this
    clear HK hlt
    by_cases h1 : s.size ≤ 1024
    rotate_left
    · have hI : ¬ (s.size : Int) ≤ 1024 := by omega
      have HN : Hid (r = false) := by show _ = _; rw [HR.out, HO.out, decide_eq_false h1]; rfl
      clear h1
      go_wp2
      go_ret
      exact ⟨by rw [HN.out]; rfl, HBE.out⟩
    have hI : (s.size : Int) ≤ 1024 := by omega
    have HR2 : Hid (r = (q && (b || !em))) := by show _ = _; rw [HR.out, HO.out, decide_eq_true h1]; rfl
    clear HR HO
    go_wp2_with fail
    refine (HTR.out _).mono ?_
    rintro e w7 ⟨x, rfl, hx, hw7⟩
    obtain rfl := hw7
    have hE : s.toList.isEmpty = em := HEM.out.symm
    have hE2 : (!s.toList.isEmpty) = !em := by rw [hE]
    have hz : decide ((0 : Int) < (s.size : Int)) = !em := by rw [HEZ.out]; by_cases hz : s.size = 0 <;> simp [hz]; omega
    have hz2 : decide (0 < s.size) = !em := by rw [HEZ.out]; by_cases hz : s.size = 0 <;> simp [hz]; omega
    clear HTR
    cases q with
    | false =>
     clear hE hE2 hz hz2
     go_wp2
     go_ret
     exact ⟨by rw [HR2.out]; rfl, HBE.out⟩
    | true =>
     cases b with
     | true =>
      clear hE hE2 hz hz2
      go_wp2
      go_ret
      exact ⟨by rw [HR2.out]; rfl, HBE.out⟩
     | false =>
      cases em
      all_goals
       go_wp2
       go_ret
       exact ⟨by rw [HR2.out]; rfl, HBE.out⟩
set_option maxRecDepth 100000 in
set_option maxHeartbeats 4000000 in
theorem plainD_any (s : S) (b : Bool) (w : World) (hs : s.size ≤ 1000000) :
    Calls Tryz.prog 61 #[.string s, .bool b] w fun e w' => e = .returned (.bool (okW s b)) ∧ Below w.heap.size w w' := by
 obtain ⟨r, hr⟩ : ∃ r, r = okW s b := ⟨_, rfl⟩
 have HR : Hid (r = (okText s.data.toList && (decide (s.size ≤ 1024) && (decide (trimB s.data.toList = s.data.toList) && (b || !s.toList.isEmpty))))) := hr
 rw [← hr]
 have HTR : Hid (∀ W, Calls Tryz.prog 94 #[.string s] W fun e w' => ∃ x : S, e = .returned (.string x) ∧ (x.toList == s.toList) = decide (trimB s.data.toList = s.data.toList) ∧ W = w') := fun W => (refTrim_any s W (by omega)).mono fun e w' ⟨x, h1, h2, h3⟩ => ⟨x, h1, by rw [str_beq, ← h2]; exact decide_eq_decide.2 (iff_of_eq data_eq.symm), h3⟩
 obtain ⟨q, hq⟩ : ∃ q, q = decide (trimB s.data.toList = s.data.toList) := ⟨_, rfl⟩
 rw [← hq] at HTR HR
 have hE0 := empty_data s
 obtain ⟨em, hem⟩ : ∃ em, em = s.toList.isEmpty := ⟨_, rfl⟩
 have HEM := Lib.hid hem
 rw [← hem] at HR
 have HEZ : Hid (em = decide (s.size = 0)) := by show _ = _; rw [hem, hE0]
 clear hr hq hem hE0
 go_enter Tryz.func61, Tryz.ntmps61
 go_wp2_with fail
 have HBE : Hid (Below w.heap.size w w) := Below.refl _ _
 go_loop [5] (fun i => ∃ k : Nat, k ≤ s.size ∧ i = .int .i64 k ∧ Hid (okText (s.data.toList.take k) = true)) (fun i => s.size - (intOf i).toNat)
 case atStart => exact ⟨0, Nat.zero_le _, rfl, by show _ = _; rfl⟩
 case round =>
  obtain ⟨k, hk, rfl, HK⟩ := hrel
  by_cases hlt : k < s.size
  · have hi1 : (k : Int) < (s.size : Int) := by omega
    have hlt' : k < s.data.toList.length := by rw [size_data]; exact hlt
    have HT := Lib.hid (okText_take hlt')
    have HFF := Lib.hid (fun h => okText_false hlt' h)
    rw [get_data s k hlt] at HT HFF
    have HCT := Lib.hid (fun w => is16_any s[k] w)
    cases hc : cText s[k]
    · rw [hc] at HCT HFF
      have HN : Hid (r = false) := by show _ = _; rw [HR.out, HFF.out rfl]; rfl
      clear hc
      go_wp2_with fail
      refine (HCT.out _).mono ?_
      rintro e w8 ⟨rfl, hw8⟩
      obtain rfl : w = w8 := hw8
      go_wp2
      go_ret
      exact ⟨by rw [HN.out]; rfl, HBE.out⟩
    · rw [hc] at HCT HT
      clear hc
      go_wp2_with fail
      refine (HCT.out _).mono ?_
      rintro e w8 ⟨rfl, hw8⟩
      obtain rfl : w = w8 := hw8
      go_wp2
      go_round
      case rel => exact ⟨k + 1, hlt, by go_num, by show _ = _; rw [HT.out, HK.out]; rfl⟩
      case measure => simp [intOf]; omega
  · obtain rfl : k = s.size := by omega
    have HO : Hid (okText s.data.toList = true) := by have := HK.out; rwa [List.take_of_length_le (by rw [size_data]; exact Nat.le_refl _)] at this
    clear HK hlt
    by_cases h1 : s.size ≤ 1024
    rotate_left
    · have hI : ¬ (s.size : Int) ≤ 1024 := by omega
      have HN : Hid (r = false) := by show _ = _; rw [HR.out, HO.out, decide_eq_false h1]; rfl
      clear h1
      go_wp2
      go_ret
      exact ⟨by rw [HN.out]; rfl, HBE.out⟩
    have hI : (s.size : Int) ≤ 1024 := by omega
    have HR2 : Hid (r = (q && (b || !em))) := by show _ = _; rw [HR.out, HO.out, decide_eq_true h1]; rfl
    clear HR HO
    go_wp2_with fail
    refine (HTR.out _).mono ?_
    rintro e w7 ⟨x, rfl, hx, hw7⟩
    obtain rfl := hw7
    have hE : s.toList.isEmpty = em := HEM.out.symm
    have hE2 : (!s.toList.isEmpty) = !em := by rw [hE]
    have hz : decide ((0 : Int) < (s.size : Int)) = !em := by rw [HEZ.out]; by_cases hz : s.size = 0 <;> simp [hz]; omega
    have hz2 : decide (0 < s.size) = !em := by rw [HEZ.out]; by_cases hz : s.size = 0 <;> simp [hz]; omega
    clear HTR
    cases q with
    | false =>
     clear hE hE2 hz hz2
     go_wp2
     go_ret
     exact ⟨by rw [HR2.out]; rfl, HBE.out⟩
    | true =>
     cases b with
     | true =>
      clear hE hE2 hz hz2
      go_wp2
      go_ret
      exact ⟨by rw [HR2.out]; rfl, HBE.out⟩
     | false =>
      cases em
      all_goals
       go_wp2
       go_ret
       exact ⟨by rw [HR2.out]; rfl, HBE.out⟩

end Go.Proofs.YtbbbfjcikhpmbaaGreat
