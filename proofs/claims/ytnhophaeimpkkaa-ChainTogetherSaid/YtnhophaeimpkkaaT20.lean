/- The walk of the law ChainTogether; its conditions stand in the theorems. -/
import Derived.Test.YtnhophaeimpkkaaT19
import Derived.Test.YtnhophaeimpkkaaOwn2
import Derived.Deep.RegionHeld3
import Derived.Deep.DrawnRows
import Derived.WalkKit
import Derived.WalkSpells
import Derived.WalkLawsBesides
namespace Go.Proofs.Ytnhophaeimpkkaa
open Go Go.RowKit

attribute [local go_sem ↓] Go.wp_at_zero Go.wp_at_succ

abbrev Trip := Pom × Value × Value × Value
def tripC (t : Trip) : List Value := pomC t.1 t.2.1 t.2.2.1 t.2.2.2
theorem tripC_len (t : Trip) : (tripC t).length = 11 := rfl
def TripOk (w : World) (t : Trip) : Prop := PomOf w (.agg (pomC t.1 t.2.1 t.2.2.1 t.2.2.2).toArray) t.1 t.2.1 t.2.2.1 t.2.2.2
/-- What the law asks of each of its projects. -/
def Asked (t : Trip) : Prop := Light t.1 ∧ (names t.1.props).Nodup

theorem SliceOf.atTrip {w : World} {b len cap : Nat} {l : List Trip} (h : SliceOf 11 tripC w (.slice (some ⟨b, 0, none⟩) len cap) l) {k : Nat} (hk : k < l.length) :
    w.cell? ⟨b, k * 11, none⟩ = some (.bool l[k].1.hasParent) ∧ w.cell? ⟨b, k * 11 + 1, none⟩ = some (.string l[k].1.parent.group) ∧ w.cell? ⟨b, k * 11 + 2, none⟩ = some (.string l[k].1.parent.artifact) ∧
      w.cell? ⟨b, k * 11 + 3, none⟩ = some (.string l[k].1.parent.version) ∧ w.cell? ⟨b, k * 11 + 4, none⟩ = some (.string l[k].1.group) ∧ w.cell? ⟨b, k * 11 + 5, none⟩ = some (.string l[k].1.artifact) ∧
      w.cell? ⟨b, k * 11 + 6, none⟩ = some (.string l[k].1.version) ∧ w.cell? ⟨b, k * 11 + 7, none⟩ = some (.string l[k].1.packaging) ∧ w.cell? ⟨b, k * 11 + 8, none⟩ = some l[k].2.1 ∧
      w.cell? ⟨b, k * 11 + 9, none⟩ = some l[k].2.2.1 ∧ w.cell? ⟨b, k * 11 + 10, none⟩ = some l[k].2.2.2 := by
  obtain ⟨b', o, h1, h2, h3⟩ := h.at hk
  cases h1
  simp only [Nat.zero_add] at h3
  exact ⟨by simpa using h3 0 _ rfl, h3 1 _ rfl, h3 2 _ rfl, h3 3 _ rfl, h3 4 _ rfl, h3 5 _ rfl, h3 6 _ rfl, h3 7 _ rfl, h3 8 _ rfl, h3 9 _ rfl, h3 10 _ rfl⟩

theorem firsts_next {l : List Prp} {j : Nat} (h : Firsts l j) (hj : j < l.length) (he : at_ 0 l l[j].name = (j : Int)) : Firsts l (j + 1) := by
  intro i x hi hx
  rcases Nat.lt_succ_iff_lt_or_eq.1 hi with h1 | rfl
  · exact h i x h1 hx
  · have : l[i] = x := by simpa [hj] using hx
    subst this; exact he

set_option maxRecDepth 100000 in
set_option maxHeartbeats 1000000 in
theorem together_any (a b c : Pom) (pv mv dv pv2 mv2 dv2 pv3 mv3 dv3 : Value) (w : World) (ha : PomOf w (.agg (pomC a pv mv dv).toArray) a pv mv dv) (hb : PomOf w (.agg (pomC b pv2 mv2 dv2).toArray) b pv2 mv2 dv2) (hc : PomOf w (.agg (pomC c pv3 mv3 dv3).toArray) c pv3 mv3 dv3) :
    Calls Try.prog 4 #[.agg (pomC a pv mv dv).toArray, .agg (pomC b pv2 mv2 dv2).toArray, .agg (pomC c pv3 mv3 dv3).toArray] w fun e w' => e = .returned (.bool true) ∧ Below w.heap.size w w' := by
  obtain ⟨ao1, cap1, ao2, cap2, ao3, cap3, rfl, rfl, rfl⟩ := pom_shape ha
  obtain ⟨bo1, bap1, bo2, bap2, bo3, bap3, rfl, rfl, rfl⟩ := pom_shape hb
  obtain ⟨co1, cbp1, co2, cbp2, co3, cbp3, rfl, rfl, rfl⟩ := pom_shape hc
  have Ha := Lib.hid ha
  have Hb := Lib.hid hb
  have Hc := Lib.hid hc
  clear ha hb hc
  simp only [pomC]
  go_enter Try.func4, Try.ntmps4
  go_wp2
  refine wp_world ?_
  intro W hW
  obtain ⟨L, hL⟩ : ∃ L : List Trip, L = [(a, .slice ao1 a.props.length cap1, .slice ao2 a.managed.length cap2, .slice ao3 a.deps.length cap3), (b, .slice bo1 b.props.length bap1, .slice bo2 b.managed.length bap2, .slice bo3 b.deps.length bap3), (c, .slice co1 c.props.length cbp1, .slice co2 c.managed.length cbp2, .slice co3 c.deps.length cbp3)] := ⟨_, rfl⟩
  have x1 : Box W w.heap.size [.bool a.hasParent, .string a.parent.group, .string a.parent.artifact, .string a.parent.version, .string a.group, .string a.artifact, .string a.version, .string a.packaging, .slice ao1 a.props.length cap1, .slice ao2 a.managed.length cap2, .slice ao3 a.deps.length cap3] := by rw [hW]; exact (((Box.new _ _ _ _ rfl).alloc _).alloc _).alloc _
  have x2 : Box W (w.heap.size + 1) [.bool b.hasParent, .string b.parent.group, .string b.parent.artifact, .string b.parent.version, .string b.group, .string b.artifact, .string b.version, .string b.packaging, .slice bo1 b.props.length bap1, .slice bo2 b.managed.length bap2, .slice bo3 b.deps.length bap3] := by rw [hW]; exact ((Box.new _ _ _ _ (by simp)).alloc _).alloc _
  have x3 : Box W (w.heap.size + 1 + 1) [.bool c.hasParent, .string c.parent.group, .string c.parent.artifact, .string c.parent.version, .string c.group, .string c.artifact, .string c.version, .string c.packaging, .slice co1 c.props.length cbp1, .slice co2 c.managed.length cbp2, .slice co3 c.deps.length cbp3] := by rw [hW]; exact (Box.new _ _ _ _ (by simp)).alloc _
  have hB : Below w.heap.size w W := by rw [hW]; exact ((((Below.refl _ _).alloc (Nat.le_refl _) _).alloc (by simp) _).alloc (by simp; omega) _).alloc (by simp; omega) _
  have sl : SliceOf 11 tripC W (.slice (some ⟨w.heap.size + 1 + 1 + 1, 0, none⟩) 3 3) L := by rw [hW, hL]; exact sliceLit tripC_len _ [(a, .slice ao1 a.props.length cap1, .slice ao2 a.managed.length cap2, .slice ao3 a.deps.length cap3), (b, .slice bo1 b.props.length bap1, .slice bo2 b.managed.length bap2, .slice bo3 b.deps.length bap3), (c, .slice co1 c.props.length cbp1, .slice co2 c.managed.length cbp2, .slice co3 c.deps.length cbp3)] _ _ 3 (by simp) rfl (by simp [maxLen])
  have hE : Hid (∀ t ∈ L, TripOk W t) := by
    intro t ht
    rw [hL] at ht
    simp at ht
    rcases ht with rfl | rfl | rfl
    · exact Ha.out.below hB
    · exact Hb.out.below hB
    · exact Hc.out.below hB
  have hLl : L.length = 3 := by rw [hL]; rfl
  have hl1 := x1.lt
  have hl2 := x2.lt
  have hl3 := x3.lt
  have HL := Lib.hid hL
  clear hW hL
  go_loopw [16] (fun i wr => ∃ k : Nat, k ≤ 3 ∧ i = .int .i64 k ∧ Below W.heap.size W wr ∧ Hid (∀ t ∈ L.take k, Asked t)) (fun i _ => 3 - (intOf i).toNat)
  case atStart => exact ⟨0, Nat.zero_le _, rfl, Below.refl _ _, fun t ht => by simp at ht⟩
  case round =>
    obtain ⟨k, hk, rfl, hb, HA⟩ := hrel
    by_cases hlt : k < 3
    · have hkl : k < L.length := by omega
      have hTk := Lib.hid (List.take_succ_eq_append_getElem hkl)
      have hq := (hE.out L[k] (by simp)).below hb
      obtain ⟨c0, c1, c2, c3, c4, c5, c6, c7, c8, c9, c10⟩ := (sl.below hb).atTrip hkl
      generalize L[k] = t at *
      obtain ⟨P, qv1, qv2, qv3⟩ := t
      obtain ⟨eo1, eap1, eo2, eap2, eo3, eap3, h1, h2, h3⟩ := pom_shape hq
      simp only at h1 h2 h3
      subst h1; subst h2; subst h3
      simp only at c0 c1 c2 c3 c4 c5 c6 c7 c8 c9 c10
      clear sl hkl
      go_wp2_with fail
      refine Calls.world ?_
      intro W2 hW2
      have y : Box W2 wr.heap.size [.bool P.hasParent, .string P.parent.group, .string P.parent.artifact, .string P.parent.version, .string P.group, .string P.artifact, .string P.version, .string P.packaging, .slice eo1 P.props.length eap1, .slice eo2 P.managed.length eap2, .slice eo3 P.deps.length eap3] := by rw [hW2]; exact Box.new _ _ _ _ rfl
      have hb2 : Below W.heap.size W W2 := by rw [hW2]; exact hb.alloc hb.size _
      have hq2 := hq.below (w' := W2) (by rw [hW2]; exact (Below.refl _ _).alloc (Nat.le_refl _) _)
      clear hW2 c0 c1 c2 c3 c4 c5 c6 c7 c8 c9 c10 hq
      refine (light_any P (.slice eo1 P.props.length eap1) (.slice eo2 P.managed.length eap2) (.slice eo3 P.deps.length eap3) W2 hq2).mono ?_
      intro e w3 hR
      obtain ⟨b1, rfl, hb1t, hb3'⟩ := hR
      have z := y.below hb3' y.lt
      have hb3 := hb2.trans (hb3'.mono hb2.size)
      have hq3 := hq2.below hb3'
      have hyl := z.lt
      have hsz := hb.size
      clear y hb2 hq2 hb3'
      cases b1 with
      | false =>
        clear hb1t
        go_wp2_with (go_at_call 8; refine (lives_any _).mono ?_; rintro e w2 ⟨rfl, hb2⟩)
        go_ret
        exact ⟨rfl, hB.trans ((hb3.trans (hb2.mono hb3.size)).mono hB.size)⟩
      | true =>
      have L1 := Lib.hid (hb1t rfl)
      have sp := hq3.props
      have hpl : P.props.length ≤ 140737488355328 := by have := L1.out.props; omega
      have d8 := z.cell 8 _ rfl
      clear hb1t hq3
      go_wp2
      clear d8
      go_loopw [27] (fun i wr2 => ∃ j : Nat, j ≤ P.props.length ∧ i = .int .i64 j ∧ Below w3.heap.size w3 wr2 ∧ Hid (Firsts P.props j)) (fun i _ => P.props.length - (intOf i).toNat)
      case atStart => exact ⟨0, Nat.zero_le _, rfl, Below.refl _ _, fun i x hi => by omega⟩
      case round =>
        obtain ⟨j, hj, rfl, hb4, HF⟩ := hrel
        by_cases hjl : j < P.props.length
        · have HN : at_ 0 P.props P.props[j].name = (j : Int) → Hid (Firsts P.props (j + 1)) := fun h => firsts_next HF.out hjl h
          obtain ⟨bb, oo, rfl, hbl, g0, g1⟩ := (sp.below hb4).atPrp hjl
          have z4 := z.below hb4 z.lt
          have d8 := z4.cell 8 _ rfl
          have hz4 := z4.lt
          generalize P.props[j].name = n at *
          generalize P.props[j].value = nv at *
          go_wp2_with fail
          refine Calls.world ?_
          intro W5 hW5
          have hb5 : Below w3.heap.size w3 W5 := by rw [hW5]; exact hb4.alloc hb4.size _
          clear hW5 z4 d8 hz4 g0 g1
          refine (refAt_any P.props n _ _ (sp.below hb5) hpl).mono ?_
          rintro e w6 ⟨rfl, hb6'⟩
          have hb6 := hb5.trans (hb6'.mono hb5.size)
          clear hb5 hb6'
          by_cases he : at_ 0 P.props n = (j : Int)
          · have HN2 := HN he
            rw [he]
            clear he HN
            go_wp2
            go_roundw
            case rel => exact ⟨j + 1, hjl, by go_num, hb6, HN2⟩
            case measure => simp [intOf]; omega
          · have hne : (at_ 0 P.props n == (j : Int)) = false := by simpa using he
            clear he HN
            go_wp2_with (go_at_call 8; refine (lives_any _).mono ?_; rintro e w7 ⟨rfl, hb7⟩)
            go_ret
            exact ⟨rfl, hB.trans ((hb3.trans ((hb6.trans (hb7.mono hb6.size)).mono hb3.size)).mono hB.size)⟩
        · have HF2 : Hid (Asked (P, Value.slice eo1 P.props.length eap1, Value.slice eo2 P.managed.length eap2, Value.slice eo3 P.deps.length eap3)) := by
            have hh := HF.out
            rw [show j = P.props.length by omega] at hh
            exact ⟨L1.out, nodup_of_firsts _ hh⟩
          go_wp2
          go_roundw
          case rel =>
            refine ⟨k + 1, hlt, by go_num, hb3.trans (hb4.mono hb3.size), ?_⟩
            intro t ht
            rw [hTk.out] at ht
            rcases List.mem_append.1 ht with h | h
            · exact HA.out t h
            · simp at h; subst h; exact HF2.out
          case measure => simp [intOf]; omega
    · have hall : ∀ t ∈ L, Asked t := by
        have hh := HA.out
        rw [List.take_of_length_le (by omega)] at hh
        exact hh
      rw [HL.out] at hall
      have la := (hall _ (List.mem_cons_self)).1
      have lb := (hall _ (List.mem_cons_of_mem _ List.mem_cons_self))
      have lc := (hall _ (List.mem_cons_of_mem _ (List.mem_cons_of_mem _ List.mem_cons_self))).1
      have fa := fit_light la
      have fb := fit_light lb.1
      have fc := fit_light lc
      obtain ⟨M1, h1⟩ : ∃ M, merge b c = M := ⟨_, rfl⟩
      obtain ⟨M2, h2⟩ : ∃ M, merge a M1 = M := ⟨_, rfl⟩
      obtain ⟨M3, h3⟩ : ∃ M, merge a b = M := ⟨_, rfl⟩
      have h4 : Hid (merge M3 c = M2) := by rw [← h2, ← h3, ← h1]; exact (merge_assoc a b c lb.2).symm
      have f1 : Fit 60 M1 := h1 ▸ fit_merge fb fc
      have f2 : Fit 90 M2 := h2 ▸ fit_merge fa f1
      have f3 : Fit 60 M3 := h3 ▸ fit_merge fa fb
      have S1 := Lib.hid (small_fit fb fc (by decide))
      have S2 := Lib.hid (small_fit fa f1 (by decide))
      have S3 := Lib.hid (small_fit fa fb (by decide))
      have S4 := Lib.hid (small_fit f3 fc (by decide))
      have F := Lib.hid (fit_yes f2 (by decide))
      have H1 := Lib.hid h1
      have H2 := Lib.hid h2
      have H3 := Lib.hid h3
      clear hall la lb lc fa fb fc f1 f2 f3 h1 h2 h3 sl HA hLl
      have hB4 := hB.trans (hb.mono hB.size)
      have y1 := x1.below hb x1.lt
      have y2 := x2.below hb x2.lt
      have y3 := x3.below hb x3.lt
      have hwl := hb.size
      have k1 := y1.lt
      have k2 := y2.lt
      have k3 := y3.lt
      clear hl1 hl2 hl3 hwl
      obtain ⟨c0, c1, c2, c3, c4, c5, c6, c7, c8, c9, c10⟩ := y1.pom
      obtain ⟨d0, d1, d2, d3, d4, d5, d6, d7, d8, d9, d10⟩ := y2.pom
      obtain ⟨e0, e1, e2, e3, e4, e5, e6, e7, e8, e9, e10⟩ := y3.pom
      clear x1 x2 x3 y1 y2 y3
      go_wp2
      go_region_held3 (fun w' => ∀ b o, b < wr.heap.size → w'.cell? ⟨b, o, none⟩ = wr.cell? ⟨b, o, none⟩) (first | (intro b o h; rfl) | exact fun b o h => hb5.cell h | exact fun b o h => hb6.cell h | exact fun b o h => hb7.cell h | exact fun b o h => hb8.cell h | exact fun b o h => hb9.cell h | exact fun b o h => hb10.cell h) (first | (have _x := hM7; go_at_call 9; refine (merge_M M3 c h4.out (.slice ko1 M3.props.length kap1) (.slice ko2 M3.managed.length kap2) (.slice ko3 M3.deps.length kap3) (.slice co1 c.props.length cbp1) (.slice co2 c.managed.length cbp2) (.slice co3 c.deps.length cbp3) _ hM7.pom (Hc.out.below hB7) S4.out).mono ?_; intro e w8 hR; obtain ⟨pv8, mv8, dv8, rfl, hM8⟩ := hR; obtain ⟨lo1, lap1, lo2, lap2, lo3, lap3, rfl, rfl, rfl⟩ := pom_shape hM8.pom; have hB8 := hB7.trans (hM8.below.mono hB7.size); have hb8 := hb7.trans (hM8.below.mono hb7.size); have hP8 := hP7.below hM8.below) | (have _x := hM6; go_at_call 9; refine (merge_M a b H3.out (.slice ao1 a.props.length cap1) (.slice ao2 a.managed.length cap2) (.slice ao3 a.deps.length cap3) (.slice bo1 b.props.length bap1) (.slice bo2 b.managed.length bap2) (.slice bo3 b.deps.length bap3) _ (Ha.out.below hB6) (Hb.out.below hB6) S3.out).mono ?_; intro e w7 hR; obtain ⟨pv7, mv7, dv7, rfl, hM7⟩ := hR; obtain ⟨ko1, kap1, ko2, kap2, ko3, kap3, rfl, rfl, rfl⟩ := pom_shape hM7.pom; have hB7 := hB6.trans (hM7.below.mono hB6.size); have hb7 := hb6.trans (hM7.below.mono hb6.size); have hP7 := hM6.pom.below hM7.below) | (have _x := hM5; go_at_call 9; refine (merge_M a M1 H2.out (.slice ao1 a.props.length cap1) (.slice ao2 a.managed.length cap2) (.slice ao3 a.deps.length cap3) (.slice io1 M1.props.length iap1) (.slice io2 M1.managed.length iap2) (.slice io3 M1.deps.length iap3) _ (Ha.out.below hB5) hM5.pom S2.out).mono ?_; intro e w6 hR; obtain ⟨pv6, mv6, dv6, rfl, hM6⟩ := hR; obtain ⟨jo1, jap1, jo2, jap2, jo3, jap3, rfl, rfl, rfl⟩ := pom_shape hM6.pom; have hB6 := hB5.trans (hM6.below.mono hB5.size); have hb6 := hb5.trans (hM6.below.mono hb5.size)) | (go_at_call 9; refine (merge_M b c H1.out (.slice bo1 b.props.length bap1) (.slice bo2 b.managed.length bap2) (.slice bo3 b.deps.length bap3) (.slice co1 c.props.length cbp1) (.slice co2 c.managed.length cbp2) (.slice co3 c.deps.length cbp3) _ (Hb.out.below hB4.drew) (Hc.out.below hB4.drew) S1.out).mono ?_; intro e w5 hR; obtain ⟨pv5, mv5, dv5, rfl, hM5⟩ := hR; have hb5 := below_of_drew hM5.below; obtain ⟨io1, iap1, io2, iap2, io3, iap3, rfl, rfl, rfl⟩ := pom_shape hM5.pom; have hB5 := hB4.trans (hb5.mono hB4.size)) | (go_at_call 10; refine (same_yes M2 _ _ _ _ _ _ _ hP8 hM8.pom F.out.1 F.out.2.1 F.out.2.2.1 F.out.2.2.2.1 F.out.2.2.2.2).mono ?_; rintro e w9 ⟨rfl, hb9'⟩; have hb9 := hb8.trans (hb9'.mono hb8.size); have hB9 := hB8.trans (hb9'.mono hB8.size)) | (go_at_call 8; refine (lives_any _).mono ?_; rintro e w10 ⟨rfl, hb10'⟩; have hb10 := hb9.trans (hb10'.mono hb9.size); have hB10 := hB9.trans (hb10'.mono hB9.size)))
      go_wp2
      go_ret
      exact ⟨rfl, hB10⟩

end Go.Proofs.Ytnhophaeimpkkaa
