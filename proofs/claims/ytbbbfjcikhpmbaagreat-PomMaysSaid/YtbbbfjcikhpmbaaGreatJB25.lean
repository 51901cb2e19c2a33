/- The walk of the law PomMays; the conditions stand in the theorem. -/
import Derived.Test.YtbbbfjcikhpmbaaGreatJB19
import Derived.Test.YtbbbfjcikhpmbaaGreatJB20
import Derived.Test.YtbbbfjcikhpmbaaGreatJB21
import Derived.Test.YtbbbfjcikhpmbaaGreatJB24
import Derived.Deep.RegionHeld3
import Derived.ProofKit
import Derived.Deep.Slices
import Derived.Test.YtbbbfjcikhpmbaaGreatRows
import Derived.Test.YtbbbfjcikhpmbaaGreatJB02
import Derived.Test.YtbbbfjcikhpmbaaGreatShelf
import Derived.WalkKit
import Derived.OpenShut
import Derived.HandedShaped
namespace Go.Proofs.YtbbbfjcikhpmbaaGreat
open Go Go.RowKit

theorem LightD.small {d : Dep} (h : LightD d) : DepSm d := ⟨fun s hs => Nat.le_trans (h.own s hs) (by decide), fun y hy => ⟨Nat.le_trans (h.ex y hy).1 (by decide), Nat.le_trans (h.ex y hy).2 (by decide)⟩⟩
theorem LightP.small {p : Pom} (h : LightP p) : PomSm p :=
  ⟨fun s hs => Nat.le_trans (h.own s (by simp only [List.mem_cons, List.not_mem_nil, or_false] at hs ⊢; rcases hs with rfl | rfl | rfl | rfl <;> simp)) (by decide), fun y hy => ⟨Nat.le_trans (h.prp y hy).1 (by decide), Nat.le_trans (h.prp y hy).2 (by decide)⟩, fun d hd => (h.managedL d hd).small, fun d hd => (h.depsL d hd).small,
    Nat.le_trans (h.own p.parent.group (by simp)) (by decide), Nat.le_trans (h.own p.parent.artifact (by simp)) (by decide), Nat.le_trans (h.own p.parent.version (by simp)) (by decide)⟩
theorem LightP.manX {p : Pom} (h : LightP p) : ∀ d ∈ p.managed, d.excl.length ≤ 140737488355328 := fun d hd => Nat.le_trans (h.managedL d hd).excl (by decide)
theorem LightP.depX {p : Pom} (h : LightP p) : ∀ d ∈ p.deps, d.excl.length ≤ 140737488355328 := fun d hd => Nat.le_trans (h.depsL d hd).excl (by decide)
set_option maxRecDepth 100000 in
set_option maxHeartbeats 16000000 in
theorem pomMaysLaw_any (p q : Pom) (pv mv dv pv2 mv2 dv2 : Value) (mx : Int) (w : World) (hp : PomOf w (.agg (pomC p pv mv dv).toArray) p pv mv dv) (hq : PomOf w (.agg (pomC q pv2 mv2 dv2).toArray) q pv2 mv2 dv2) (hm : w.cell? ⟨0, 0, none⟩ = some (.int .i64 mx)) :
    Calls Tryz.prog 7 #[.agg (pomC p pv mv dv).toArray, .agg (pomC q pv2 mv2 dv2).toArray] w fun e w' => e = .returned (.bool true) ∧ Below w.heap.size w w' := by
  have hw0 : 0 < w.heap.size := World.block_lt_of_cell? w _ hm
  have HLV : Hid (∀ W, Below w.heap.size w W → Calls Tryz.prog 12 #[] W fun e w' => e = .returned (.bool true) ∧ Below W.heap.size W w') := fun W h => pomLives_any mx W ((h.cell (by exact hw0)).trans hm)
  have HL1 : Hid (∀ W, Below w.heap.size w W → Calls Tryz.prog 16 #[.agg (pomC p pv mv dv).toArray] W (RetB (LightP p) W)) := fun W h => lightP_any p pv mv dv W (hp.below h)
  have HL2 : Hid (∀ W, Below w.heap.size w W → Calls Tryz.prog 16 #[.agg (pomC q pv2 mv2 dv2).toArray] W (RetB (LightP q) W)) := fun W h => lightP_any q pv2 mv2 dv2 W (hq.below h)
  have HM1 : Hid (LightP p → ∀ W, Below w.heap.size w W → Calls Tryz.prog 24 #[.agg (pomC p pv mv dv).toArray] W fun e w' => e = .returned (.bool (mayP p)) ∧ Below W.heap.size W w') := fun hL W h => pomMay_any p pv mv dv W (hp.below h) hL.small
  have HM2 : Hid (LightP p → ∀ W, Below w.heap.size w W → Calls Tryz.prog 20 #[.agg (pomC p pv mv dv).toArray] W fun e w' => e = .returned (.bool (mayP p)) ∧ Below W.heap.size W w') := fun hL W h => mayPD_any p pv mv dv W (hp.below h) hL.small
  have HS1 : Hid (LightP p → LightP q → ∀ W, Below w.heap.size w W → Calls Tryz.prog 25 #[.agg (pomC p pv mv dv).toArray, .agg (pomC q pv2 mv2 dv2).toArray] W fun e w' => e = .returned (.bool (decide (p = q))) ∧ Below W.heap.size W w') := fun hL hK W h => pomSame_any p q pv mv dv pv2 mv2 dv2 W (hp.below h) (hq.below h) hL.manX hL.depX hK.manX hK.depX
  have HS2 : Hid (LightP p → LightP q → ∀ W, Below w.heap.size w W → Calls Tryz.prog 15 #[.agg (pomC p pv mv dv).toArray, .agg (pomC q pv2 mv2 dv2).toArray] W fun e w' => e = .returned (.bool (decide (p = q))) ∧ Below W.heap.size W w') := fun hL hK W h => sameX_any p q pv mv dv pv2 mv2 dv2 W (hp.below h) (hq.below h) hL.manX hL.depX hK.manX hK.depX
  have HS3 : Hid (LightP p → ∀ W, Below w.heap.size w W → Calls Tryz.prog 25 #[.agg (pomC p pv mv dv).toArray, .agg (pomC p pv mv dv).toArray] W fun e w' => e = .returned (.bool true) ∧ Below W.heap.size W w') := fun hL W h => by
    have h1 := pomSame_any p p pv mv dv pv mv dv W (hp.below h) (hp.below h) hL.manX hL.depX hL.manX hL.depX
    rwa [decide_eq_true rfl] at h1
  obtain ⟨-, p1, p2, p3⟩ := hp
  obtain ⟨-, q1, q2, q3⟩ := hq
  obtain ⟨l1, he1, hl1, ho1⟩ := p3
  obtain ⟨l2, he2, hl2, ho2⟩ := q3
  have HLX1 : Hid (LightP p → ∀ z ∈ l1, z.1.excl.length ≤ 140737488355328) := fun hL z hz => hL.depX _ (by rw [← he1]; exact List.mem_map.2 ⟨z, hz, rfl⟩)
  have HLX2 : Hid (LightP q → ∀ z ∈ l2, z.1.excl.length ≤ 140737488355328) := fun hL z hz => hL.depX _ (by rw [← he2]; exact List.mem_map.2 ⟨z, hz, rfl⟩)
  obtain ⟨s1, s4, rfl⟩ := p1.shape
  obtain ⟨s2, s5, rfl⟩ := p2.shape
  obtain ⟨s3, s6, rfl⟩ := hl1.shape
  obtain ⟨t1, t4, rfl⟩ := q1.shape
  obtain ⟨t2, t5, rfl⟩ := q2.shape
  obtain ⟨t3, t6, rfl⟩ := hl2.shape
  have hz1 : l1.length = p.deps.length := by rw [← he1, List.length_map]
  have hz2 : l2.length = q.deps.length := by rw [← he2, List.length_map]
  have HD1 := Lib.hid hl1
  have HO1 := Lib.hid ho1
  have HD2 := Lib.hid hl2
  have HO2 := Lib.hid ho2
  have HZ1 := Lib.hid hz1
  have HZ2 := Lib.hid hz2
  rw [hz1] at HL1 HM1 HM2 HS1 HS2 HS3 ⊢
  rw [hz2] at HL2 HS1 HS2 ⊢
  generalize hmay : mayP p = may at *
  generalize hsam : decide (p = q) = sam at *
  have hl30 : LightP p → p.deps.length ≤ 30 := fun h => h.deps
  have hl31 : LightP q → q.deps.length ≤ 30 := fun h => h.deps
  have HL30 := Lib.hid hl30
  have HL31 := Lib.hid hl31
  clear hm hw0 p1 p2 q1 q2 hl1 ho1 hl2 ho2 he1 he2 hz1 hz2 hmay hsam hl30 hl31
  obtain ⟨LP, hLP⟩ : ∃ X : Prop, X = LightP p := ⟨_, rfl⟩
  obtain ⟨LQ, hLQ⟩ : ∃ X : Prop, X = LightP q := ⟨_, rfl⟩
  rw [← hLP] at HL1 HM1 HM2 HS1 HS2 HS3 HLX1 HL30
  rw [← hLQ] at HL2 HS1 HS2 HLX2 HL31
  clear hLP hLQ
  obtain ⟨dh, ⟨dx, dy, dz⟩, dg, da, dv', dk, dp, dm, dd⟩ := p
  obtain ⟨eh, ⟨ex, ey, ez⟩, eg, ea, ev, ek, ep, em, ed⟩ := q
  simp only [pomC] at HL1 HL2 HM1 HM2 HS1 HS2 HS3 HL30 HL31 HZ1 HZ2 ⊢
  have HBB : Hid (∀ o1 o2, Below w.heap.size w ((w.alloc o1).alloc o2)) := fun o1 o2 => ((Below.refl _ _).alloc (Nat.le_refl _) _).alloc (by simp) _
  go_enter Tryz.func7, Tryz.ntmps7
  go_upto_region 1 with fail
  refine wp_world ?_
  intro W hW
  have x1 : Box W w.heap.size [.bool dh, .string dx, .string dy, .string dz, .string dg, .string da, .string dv', .string dk, .slice s1 dp.length s4, .slice s2 dm.length s5, .slice s3 dd.length s6] := by rw [hW]; exact (Box.new w [.bool dh, .string dx, .string dy, .string dz, .string dg, .string da, .string dv', .string dk, .slice s1 dp.length s4, .slice s2 dm.length s5, .slice s3 dd.length s6] _ _ rfl).alloc _
  have x2 : Box W (w.heap.size + 1) [.bool eh, .string ex, .string ey, .string ez, .string eg, .string ea, .string ev, .string ek, .slice t1 ep.length t4, .slice t2 em.length t5, .slice t3 ed.length t6] := by rw [hW]; exact Box.new _ [.bool eh, .string ex, .string ey, .string ez, .string eg, .string ea, .string ev, .string ek, .slice t1 ep.length t4, .slice t2 em.length t5, .slice t3 ed.length t6] _ _ (by simp)
  have hb : Below w.heap.size w W := by rw [hW]; exact HBB.out _ _
  clear hW HBB
  have HX1 := Lib.hid x1
  have HX2 := Lib.hid x2
  have HB := Lib.hid hb
  clear x1 x2 hb
  have c0 := HX1.out.cell 0 _ rfl
  have d0 := HX2.out.cell 0 _ rfl
  have c1 := HX1.out.cell 1 _ rfl
  have d1 := HX2.out.cell 1 _ rfl
  have c2 := HX1.out.cell 2 _ rfl
  have d2 := HX2.out.cell 2 _ rfl
  have c3 := HX1.out.cell 3 _ rfl
  have d3 := HX2.out.cell 3 _ rfl
  have c4 := HX1.out.cell 4 _ rfl
  have d4 := HX2.out.cell 4 _ rfl
  have c5 := HX1.out.cell 5 _ rfl
  have d5 := HX2.out.cell 5 _ rfl
  have c6 := HX1.out.cell 6 _ rfl
  have d6 := HX2.out.cell 6 _ rfl
  have c7 := HX1.out.cell 7 _ rfl
  have d7 := HX2.out.cell 7 _ rfl
  have c8 := HX1.out.cell 8 _ rfl
  have d8 := HX2.out.cell 8 _ rfl
  have c9 := HX1.out.cell 9 _ rfl
  have d9 := HX2.out.cell 9 _ rfl
  have c10 := HX1.out.cell 10 _ rfl
  have d10 := HX2.out.cell 10 _ rfl
  have cl := HX1.out.lt
  have dl := HX2.out.lt
  go_wp2_with fail
  refine (HL1.out _ HB.out).mono ?_
  intro e w7 hO
  obtain ⟨b, rfl, hbt, hb7⟩ := hO
  have HBT := Lib.hid hbt
  clear hbt
  have HX1' := Lib.hid (HX1.out.below hb7 HX1.out.lt)
  have HX2' := Lib.hid (HX2.out.below hb7 HX2.out.lt)
  have HB' := Lib.hid (HB.out.trans (hb7.mono HB.out.size))
  clear c0 d0 c1 d1 c2 d2 c3 d3 c4 d4 c5 d5 c6 d6 c7 d7 c8 d8 c9 d9 c10 d10 cl dl
  clear hb7 HX1 HX2 HB
  have HX1 := HX1'
  have HX2 := HX2'
  have HB := HB'
  clear HX1' HX2' HB'
  cases b with
  | false =>
    have c0 := HX1.out.cell 0 _ rfl
    have d0 := HX2.out.cell 0 _ rfl
    have c1 := HX1.out.cell 1 _ rfl
    have d1 := HX2.out.cell 1 _ rfl
    have c2 := HX1.out.cell 2 _ rfl
    have d2 := HX2.out.cell 2 _ rfl
    have c3 := HX1.out.cell 3 _ rfl
    have d3 := HX2.out.cell 3 _ rfl
    have c4 := HX1.out.cell 4 _ rfl
    have d4 := HX2.out.cell 4 _ rfl
    have c5 := HX1.out.cell 5 _ rfl
    have d5 := HX2.out.cell 5 _ rfl
    have c6 := HX1.out.cell 6 _ rfl
    have d6 := HX2.out.cell 6 _ rfl
    have c7 := HX1.out.cell 7 _ rfl
    have d7 := HX2.out.cell 7 _ rfl
    have c8 := HX1.out.cell 8 _ rfl
    have d8 := HX2.out.cell 8 _ rfl
    have c9 := HX1.out.cell 9 _ rfl
    have d9 := HX2.out.cell 9 _ rfl
    have c10 := HX1.out.cell 10 _ rfl
    have d10 := HX2.out.cell 10 _ rfl
    have cl := HX1.out.lt
    have dl := HX2.out.lt
    go_wp2_with fail
    refine (HLV.out _ HB.out).mono ?_
    rintro e w8 ⟨rfl, hb8⟩
    have HB8 := Lib.hid (HB.out.trans (hb8.mono HB.out.size))
    clear hb8 HLV
    go_wp2
    go_ret
    exact ⟨rfl, HB8.out⟩
  | true =>
    have HLP := Lib.hid (HBT.out rfl)
    clear HBT HL1
    have c0 := HX1.out.cell 0 _ rfl
    have d0 := HX2.out.cell 0 _ rfl
    have c1 := HX1.out.cell 1 _ rfl
    have d1 := HX2.out.cell 1 _ rfl
    have c2 := HX1.out.cell 2 _ rfl
    have d2 := HX2.out.cell 2 _ rfl
    have c3 := HX1.out.cell 3 _ rfl
    have d3 := HX2.out.cell 3 _ rfl
    have c4 := HX1.out.cell 4 _ rfl
    have d4 := HX2.out.cell 4 _ rfl
    have c5 := HX1.out.cell 5 _ rfl
    have d5 := HX2.out.cell 5 _ rfl
    have c6 := HX1.out.cell 6 _ rfl
    have d6 := HX2.out.cell 6 _ rfl
    have c7 := HX1.out.cell 7 _ rfl
    have d7 := HX2.out.cell 7 _ rfl
    have c8 := HX1.out.cell 8 _ rfl
    have d8 := HX2.out.cell 8 _ rfl
    have c9 := HX1.out.cell 9 _ rfl
    have d9 := HX2.out.cell 9 _ rfl
    have c10 := HX1.out.cell 10 _ rfl
    have d10 := HX2.out.cell 10 _ rfl
    have cl := HX1.out.lt
    have dl := HX2.out.lt
    go_wp2_with fail
    refine (HL2.out _ HB.out).mono ?_
    intro e w7 hO
    obtain ⟨b, rfl, hbt, hb7⟩ := hO
    have HBT := Lib.hid hbt
    clear hbt
    have HX1' := Lib.hid (HX1.out.below hb7 HX1.out.lt)
    have HX2' := Lib.hid (HX2.out.below hb7 HX2.out.lt)
    have HB' := Lib.hid (HB.out.trans (hb7.mono HB.out.size))
    clear c0 d0 c1 d1 c2 d2 c3 d3 c4 d4 c5 d5 c6 d6 c7 d7 c8 d8 c9 d9 c10 d10 cl dl
    clear hb7 HX1 HX2 HB
    have HX1 := HX1'
    have HX2 := HX2'
    have HB := HB'
    clear HX1' HX2' HB'
    cases b with
    | false =>
      have c0 := HX1.out.cell 0 _ rfl
      have d0 := HX2.out.cell 0 _ rfl
      have c1 := HX1.out.cell 1 _ rfl
      have d1 := HX2.out.cell 1 _ rfl
      have c2 := HX1.out.cell 2 _ rfl
      have d2 := HX2.out.cell 2 _ rfl
      have c3 := HX1.out.cell 3 _ rfl
      have d3 := HX2.out.cell 3 _ rfl
      have c4 := HX1.out.cell 4 _ rfl
      have d4 := HX2.out.cell 4 _ rfl
      have c5 := HX1.out.cell 5 _ rfl
      have d5 := HX2.out.cell 5 _ rfl
      have c6 := HX1.out.cell 6 _ rfl
      have d6 := HX2.out.cell 6 _ rfl
      have c7 := HX1.out.cell 7 _ rfl
      have d7 := HX2.out.cell 7 _ rfl
      have c8 := HX1.out.cell 8 _ rfl
      have d8 := HX2.out.cell 8 _ rfl
      have c9 := HX1.out.cell 9 _ rfl
      have d9 := HX2.out.cell 9 _ rfl
      have c10 := HX1.out.cell 10 _ rfl
      have d10 := HX2.out.cell 10 _ rfl
      have cl := HX1.out.lt
      have dl := HX2.out.lt
      go_wp2_with fail
      refine (HLV.out _ HB.out).mono ?_
      rintro e w8 ⟨rfl, hb8⟩
      have HB8 := Lib.hid (HB.out.trans (hb8.mono HB.out.size))
      clear hb8 HLV
      go_wp2
      go_ret
      exact ⟨rfl, HB8.out⟩
    | true =>
      have HLQ := Lib.hid (HBT.out rfl)
      have hd30 := HL30.out HLP.out
      have hd31 := HL31.out HLQ.out
      have HE1 := Lib.hid (HLX1.out HLP.out)
      have HE2 := Lib.hid (HLX2.out HLQ.out)
      have HM1' := Lib.hid (HM1.out HLP.out)
      have HM2' := Lib.hid (HM2.out HLP.out)
      have HS1' := Lib.hid (HS1.out HLP.out HLQ.out)
      have HS2' := Lib.hid (HS2.out HLP.out HLQ.out)
      have HS3' := Lib.hid (HS3.out HLP.out)
      try simp only at hd30 hd31
      clear HBT HL2 HM1 HM2 HS1 HS2 HS3 HLX1 HLX2 HL30 HL31 HLP HLQ
      have c0 := HX1.out.cell 0 _ rfl
      have d0 := HX2.out.cell 0 _ rfl
      have c1 := HX1.out.cell 1 _ rfl
      have d1 := HX2.out.cell 1 _ rfl
      have c2 := HX1.out.cell 2 _ rfl
      have d2 := HX2.out.cell 2 _ rfl
      have c3 := HX1.out.cell 3 _ rfl
      have d3 := HX2.out.cell 3 _ rfl
      have c4 := HX1.out.cell 4 _ rfl
      have d4 := HX2.out.cell 4 _ rfl
      have c5 := HX1.out.cell 5 _ rfl
      have d5 := HX2.out.cell 5 _ rfl
      have c6 := HX1.out.cell 6 _ rfl
      have d6 := HX2.out.cell 6 _ rfl
      have c7 := HX1.out.cell 7 _ rfl
      have d7 := HX2.out.cell 7 _ rfl
      have c8 := HX1.out.cell 8 _ rfl
      have d8 := HX2.out.cell 8 _ rfl
      have c9 := HX1.out.cell 9 _ rfl
      have d9 := HX2.out.cell 9 _ rfl
      have c10 := HX1.out.cell 10 _ rfl
      have d10 := HX2.out.cell 10 _ rfl
      have cl := HX1.out.lt
      have dl := HX2.out.lt
      go_wp2
      clear c0 d0 c1 d1 c2 d2 c3 d3 c4 d4 c5 d5 c6 d6 c7 d7 c8 d8 c9 d9 c10 d10 cl dl
      go_loopw [21] (fun i wr => ∃ k : Nat, k ≤ dd.length ∧ i = .int .i64 k ∧ Hid (Below w.heap.size w wr ∧ Box wr w.heap.size [.bool dh, .string dx, .string dy, .string dz, .string dg, .string da, .string dv', .string dk, .slice s1 dp.length s4, .slice s2 dm.length s5, .slice s3 dd.length s6] ∧ Box wr (w.heap.size + 1) [.bool eh, .string ex, .string ey, .string ez, .string eg, .string ea, .string ev, .string ek, .slice t1 ep.length t4, .slice t2 em.length t5, .slice t3 ed.length t6])) (fun i _ => dd.length - (intOf i).toNat)
      case atStart => exact ⟨0, Nat.zero_le _, rfl, HB.out, HX1.out, HX2.out⟩
      case round =>
        clear HB HX1 HX2
        obtain ⟨k, hk, rfl, HRR⟩ := hrel
        have HB := Lib.hid HRR.out.1
        have HX1 := Lib.hid HRR.out.2.1
        have HX2 := Lib.hid HRR.out.2.2
        clear HRR
        by_cases hlt : k < dd.length
        · have hlt2 : k < l1.length := by have := HZ1.out; omega
          have HE := Lib.hid (HE1.out l1[k] (List.getElem_mem hlt2))
          have hok := (HO1.out l1[k] (List.getElem_mem hlt2)).below HB.out
          have hll := HD1.out.below HB.out
          obtain ⟨g, o, hgo, hg, a0, a1, a2, a3, a4, a5, a6, a7⟩ := hll.atDep hlt2
          subst hgo
          have hsr := HB.out.size
          clear hll
          generalize l1[k] = z at *
          obtain ⟨za, zx⟩ := z
          obtain ⟨xo, xc, rfl⟩ := hok.shape
          simp only at a0 a1 a2 a3 a4 a5 a6 a7
          have HOK : Hid (SliceOf 2 idC wr (.slice xo za.excl.length xc) za.excl) := hok
          have HLT : Hid (k < dd.length) := hlt
          clear hok
          have d10 := HX2.out.cell 10 _ rfl
          have dl := HX2.out.lt
          go_upto_region 6 with fail
          refine wp_world ?_
          intro W4 hW4
          have x4 : Box W4 wr.heap.size [.string za.group, .string za.artifact, .string za.version, .string za.type, .string za.classifier, .int .i64 za.scope, .int .i64 za.opt, .slice xo za.excl.length xc] := by rw [hW4]; exact Box.new wr [.string za.group, .string za.artifact, .string za.version, .string za.type, .string za.classifier, .int .i64 za.scope, .int .i64 za.opt, .slice xo za.excl.length xc] _ _ rfl
          have hb4 : Below wr.heap.size wr W4 := by rw [hW4]; exact (Below.refl _ _).alloc (Nat.le_refl _) _
          clear hW4 a0 a1 a2 a3 a4 a5 a6 a7 d10 dl
          have HY := Lib.hid x4
          have HB4 := Lib.hid (HB.out.trans (hb4.mono hsr))
          have HX14 := Lib.hid (HX1.out.below hb4 HX1.out.lt)
          have HX24 := Lib.hid (HX2.out.below hb4 HX2.out.lt)
          have HOK4 := Lib.hid (HOK.out.below hb4)
          have hwr : wr.heap.size < W4.heap.size := x4.lt
          clear x4 hb4 HB HX1 HX2 HOK
          have d10 := HX24.out.cell 10 _ rfl
          have dl := HX24.out.lt
          go_wp2
          clear d10 dl
          obtain ⟨wo, rfl⟩ : ∃ wo : World, wo = wr := ⟨_, rfl⟩
          go_loopw [28] (fun i wr => ∃ j : Nat, j ≤ ed.length ∧ i = .int .i64 j ∧ Hid (Below W4.heap.size W4 wr)) (fun i _ => ed.length - (intOf i).toNat)
          case atStart => exact ⟨0, Nat.zero_le _, rfl, Below.refl _ _⟩
          case round =>
            obtain ⟨j, hj, rfl, HJJ⟩ := hrel
            by_cases hjl : j < ed.length
            · have hjl2 : j < l2.length := by have := HZ2.out; omega
              have HEE := Lib.hid (HE2.out l2[j] (List.getElem_mem hjl2))
              have HBJ := Lib.hid (HB4.out.trans (HJJ.out.mono HB4.out.size))
              have hok := (HO2.out l2[j] (List.getElem_mem hjl2)).below HBJ.out
              have hll := HD2.out.below HBJ.out
              obtain ⟨g2, o2, hgo, hg2, a0, a1, a2, a3, a4, a5, a6, a7⟩ := hll.atDep hjl2
              subst hgo
              have hsj := HBJ.out.size
              have hsj4 := HJJ.out.size
              clear hll
              generalize l2[j] = z at *
              obtain ⟨zb, zy⟩ := z
              obtain ⟨yo, yc, rfl⟩ := hok.shape
              simp only at a0 a1 a2 a3 a4 a5 a6 a7
              have HOB : Hid (SliceOf 2 idC wr (.slice yo zb.excl.length yc) zb.excl) := hok
              clear hok
              go_upto_region 9 with fail
              refine wp_world ?_
              intro W6 hW6
              have x6 : Box W6 wr.heap.size [.string zb.group, .string zb.artifact, .string zb.version, .string zb.type, .string zb.classifier, .int .i64 zb.scope, .int .i64 zb.opt, .slice yo zb.excl.length yc] := by rw [hW6]; exact Box.new wr [.string zb.group, .string zb.artifact, .string zb.version, .string zb.type, .string zb.classifier, .int .i64 zb.scope, .int .i64 zb.opt, .slice yo zb.excl.length yc] _ _ rfl
              have hb6 : Below wr.heap.size wr W6 := by rw [hW6]; exact (Below.refl _ _).alloc (Nat.le_refl _) _
              clear hW6 a0 a1 a2 a3 a4 a5 a6 a7
              have HYY := Lib.hid x6
              have HB46 := Lib.hid (HJJ.out.trans (hb6.mono hsj4))
              have HYA := Lib.hid ((HY.out.below HJJ.out HY.out.lt).below hb6 (by omega))
              have HOB6 := Lib.hid (HOB.out.below hb6)
              have HOA6 := Lib.hid ((HOK4.out.below HJJ.out).below hb6)
              clear x6 hb6 HOB
              obtain ⟨sd, hsd⟩ : ∃ b, b = decide (za = zb) := ⟨_, rfl⟩
              have HC1 : Hid (∀ X, Below W6.heap.size W6 X → Calls Tryz.prog 22 #[.agg #[.string za.group, .string za.artifact, .string za.version, .string za.type, .string za.classifier, .int .i64 za.scope, .int .i64 za.opt, .slice xo za.excl.length xc], .agg #[.string zb.group, .string zb.artifact, .string zb.version, .string zb.type, .string zb.classifier, .int .i64 zb.scope, .int .i64 zb.opt, .slice yo zb.excl.length yc]] X fun e w' => e = .returned (.bool sd) ∧ Below X.heap.size X w') := fun X h => by rw [hsd]; exact pomSameDep_any za zb _ _ X (HOA6.out.below h) (HOB6.out.below h) HE.out HEE.out
              have HC2 : Hid (∀ X, Below W6.heap.size W6 X → Calls Tryz.prog 23 #[.agg #[.string za.group, .string za.artifact, .string za.version, .string za.type, .string za.classifier, .int .i64 za.scope, .int .i64 za.opt, .slice xo za.excl.length xc], .agg #[.string zb.group, .string zb.artifact, .string zb.version, .string zb.type, .string zb.classifier, .int .i64 zb.scope, .int .i64 zb.opt, .slice yo zb.excl.length yc]] X fun e w' => e = .returned (.bool sd) ∧ Below X.heap.size X w') := fun X h => by rw [hsd]; exact sameDepX_any za zb _ _ X (HOA6.out.below h) (HOB6.out.below h) HE.out HEE.out
              have HC3 : Hid (∀ X, Below W6.heap.size W6 X → Calls Tryz.prog 22 #[.agg #[.string za.group, .string za.artifact, .string za.version, .string za.type, .string za.classifier, .int .i64 za.scope, .int .i64 za.opt, .slice xo za.excl.length xc], .agg #[.string za.group, .string za.artifact, .string za.version, .string za.type, .string za.classifier, .int .i64 za.scope, .int .i64 za.opt, .slice xo za.excl.length xc]] X fun e w' => e = .returned (.bool true) ∧ Below X.heap.size X w') := fun X h => by
                have h1 := pomSameDep_any za za (.slice xo za.excl.length xc) (.slice xo za.excl.length xc) X (HOA6.out.below h) (HOA6.out.below h) HE.out HE.out
                rwa [decide_eq_true rfl] at h1
              clear hsd HOA6 HOB6
              have hss : (sd == sd) = true := by simp
              have hss2 : (sd != sd) = false := by simp
              have a0 := HYA.out.cell 0 _ rfl
              have b0 := HYY.out.cell 0 _ rfl
              have a1 := HYA.out.cell 1 _ rfl
              have b1 := HYY.out.cell 1 _ rfl
              have a2 := HYA.out.cell 2 _ rfl
              have b2 := HYY.out.cell 2 _ rfl
              have a3 := HYA.out.cell 3 _ rfl
              have b3 := HYY.out.cell 3 _ rfl
              have a4 := HYA.out.cell 4 _ rfl
              have b4 := HYY.out.cell 4 _ rfl
              have a5 := HYA.out.cell 5 _ rfl
              have b5 := HYY.out.cell 5 _ rfl
              have a6 := HYA.out.cell 6 _ rfl
              have b6 := HYY.out.cell 6 _ rfl
              have a7 := HYA.out.cell 7 _ rfl
              have b7 := HYY.out.cell 7 _ rfl
              have al := HYA.out.lt
              have bl := HYY.out.lt
              have HBD : Hid (Below W6.heap.size W6 W6.drew) := below_drewN (Below.refl W6.heap.size W6) 1
              go_region_held3 (fun w' => ∀ b o, b < W6.heap.size → w'.cell? ⟨b, o, none⟩ = W6.cell? ⟨b, o, none⟩) (first | (intro b o h; rfl) | exact fun b o h => hB1.cell h | exact fun b o h => hB2.cell h | exact fun b o h => hB3.cell h) (first | (have _x := hB2; go_at_call 22; refine (HC3.out _ hB2).mono ?_; rintro e u3 ⟨rfl, hb3'⟩; have hB3 := hB2.trans (hb3'.mono hB2.size)) | (have _x := hB1; go_at_call 23; refine (HC2.out _ hB1).mono ?_; rintro e u2 ⟨rfl, hb2'⟩; have hB2 := hB1.trans (hb2'.mono hB1.size)) | (go_at_call 22; refine (HC1.out _ HBD.out).mono ?_; rintro e u1 ⟨rfl, hb1'⟩; have hB1 := HBD.out.trans (hb1'.mono HBD.out.size)))
              have HJ2 := Lib.hid (HB46.out.trans (hB3.mono HB46.out.size))
              go_wp2
              go_roundw
              case rel => exact ⟨j + 1, hjl, by go_num, HJ2.out⟩
              case measure => simp [intOf]; omega
            · have HB := Lib.hid (HB4.out.trans (HJJ.out.mono HB4.out.size))
              have HX1 := Lib.hid (HX14.out.below HJJ.out HX14.out.lt)
              have HX2 := Lib.hid (HX24.out.below HJJ.out HX24.out.lt)
              go_wp2
              go_roundw
              case rel => exact ⟨k + 1, HLT.out, by go_num, HB.out, HX1.out, HX2.out⟩
              case measure => simp [intOf]; have := HLT.out; omega
        · clear HO1 HO2 HD1 HD2 HE1 HE2
          have HM1 : Hid (∀ X, Below wr.heap.size wr X → Calls Tryz.prog 24 #[.agg #[.bool dh, .string dx, .string dy, .string dz, .string dg, .string da, .string dv', .string dk, .slice s1 dp.length s4, .slice s2 dm.length s5, .slice s3 dd.length s6]] X fun e w' => e = .returned (.bool may) ∧ Below X.heap.size X w') := fun X h => HM1'.out X (HB.out.trans (h.mono HB.out.size))
          have HM2 : Hid (∀ X, Below wr.heap.size wr X → Calls Tryz.prog 20 #[.agg #[.bool dh, .string dx, .string dy, .string dz, .string dg, .string da, .string dv', .string dk, .slice s1 dp.length s4, .slice s2 dm.length s5, .slice s3 dd.length s6]] X fun e w' => e = .returned (.bool may) ∧ Below X.heap.size X w') := fun X h => HM2'.out X (HB.out.trans (h.mono HB.out.size))
          have HS1 : Hid (∀ X, Below wr.heap.size wr X → Calls Tryz.prog 25 #[.agg #[.bool dh, .string dx, .string dy, .string dz, .string dg, .string da, .string dv', .string dk, .slice s1 dp.length s4, .slice s2 dm.length s5, .slice s3 dd.length s6], .agg #[.bool eh, .string ex, .string ey, .string ez, .string eg, .string ea, .string ev, .string ek, .slice t1 ep.length t4, .slice t2 em.length t5, .slice t3 ed.length t6]] X fun e w' => e = .returned (.bool sam) ∧ Below X.heap.size X w') := fun X h => HS1'.out X (HB.out.trans (h.mono HB.out.size))
          have HS2 : Hid (∀ X, Below wr.heap.size wr X → Calls Tryz.prog 15 #[.agg #[.bool dh, .string dx, .string dy, .string dz, .string dg, .string da, .string dv', .string dk, .slice s1 dp.length s4, .slice s2 dm.length s5, .slice s3 dd.length s6], .agg #[.bool eh, .string ex, .string ey, .string ez, .string eg, .string ea, .string ev, .string ek, .slice t1 ep.length t4, .slice t2 em.length t5, .slice t3 ed.length t6]] X fun e w' => e = .returned (.bool sam) ∧ Below X.heap.size X w') := fun X h => HS2'.out X (HB.out.trans (h.mono HB.out.size))
          have HS3 : Hid (∀ X, Below wr.heap.size wr X → Calls Tryz.prog 25 #[.agg #[.bool dh, .string dx, .string dy, .string dz, .string dg, .string da, .string dv', .string dk, .slice s1 dp.length s4, .slice s2 dm.length s5, .slice s3 dd.length s6], .agg #[.bool dh, .string dx, .string dy, .string dz, .string dg, .string da, .string dv', .string dk, .slice s1 dp.length s4, .slice s2 dm.length s5, .slice s3 dd.length s6]] X fun e w' => e = .returned (.bool true) ∧ Below X.heap.size X w') := fun X h => HS3'.out X (HB.out.trans (h.mono HB.out.size))
          have HLI : Hid (∀ X, Below wr.heap.size wr X → Calls Tryz.prog 12 #[] X fun e w' => e = .returned (.bool true) ∧ Below X.heap.size X w') := fun X h => HLV.out X (HB.out.trans (h.mono HB.out.size))
          clear HM1' HM2' HS1' HS2' HS3' HLV
          have hmm : (may == may) = true := by simp
          have hss : (sam == sam) = true := by simp
          go_upto_region 13 with fail
          have c0 := HX1.out.cell 0 _ rfl
          have d0 := HX2.out.cell 0 _ rfl
          have c1 := HX1.out.cell 1 _ rfl
          have d1 := HX2.out.cell 1 _ rfl
          have c2 := HX1.out.cell 2 _ rfl
          have d2 := HX2.out.cell 2 _ rfl
          have c3 := HX1.out.cell 3 _ rfl
          have d3 := HX2.out.cell 3 _ rfl
          have c4 := HX1.out.cell 4 _ rfl
          have d4 := HX2.out.cell 4 _ rfl
          have c5 := HX1.out.cell 5 _ rfl
          have d5 := HX2.out.cell 5 _ rfl
          have c6 := HX1.out.cell 6 _ rfl
          have d6 := HX2.out.cell 6 _ rfl
          have c7 := HX1.out.cell 7 _ rfl
          have d7 := HX2.out.cell 7 _ rfl
          have c8 := HX1.out.cell 8 _ rfl
          have d8 := HX2.out.cell 8 _ rfl
          have c9 := HX1.out.cell 9 _ rfl
          have d9 := HX2.out.cell 9 _ rfl
          have c10 := HX1.out.cell 10 _ rfl
          have d10 := HX2.out.cell 10 _ rfl
          have cl := HX1.out.lt
          have dl := HX2.out.lt
          have HBD : Hid (Below wr.heap.size wr wr.drew) := below_drewN (Below.refl wr.heap.size wr) 1
          go_region_held3 (fun w' => ∀ b o, b < wr.heap.size → w'.cell? ⟨b, o, none⟩ = wr.cell? ⟨b, o, none⟩) (first | (intro b o h; rfl) | exact fun b o h => hB1.cell h | exact fun b o h => hB2.cell h | exact fun b o h => hB3.cell h | exact fun b o h => hB4.cell h | exact fun b o h => hB5.cell h | exact fun b o h => hB6.cell h) (first | (have _x := hB5; go_at_call 12; refine (HLI.out _ hB5).mono ?_; rintro e u6 ⟨rfl, hb6'⟩; have hB6 := hB5.trans (hb6'.mono hB5.size)) | (have _x := hB4; go_at_call 25; refine (HS3.out _ hB4).mono ?_; rintro e u5 ⟨rfl, hb5'⟩; have hB5 := hB4.trans (hb5'.mono hB4.size)) | (have _x := hB3; go_at_call 15; refine (HS2.out _ hB3).mono ?_; rintro e u4 ⟨rfl, hb4'⟩; have hB4 := hB3.trans (hb4'.mono hB3.size)) | (have _x := hB2; go_at_call 25; refine (HS1.out _ hB2).mono ?_; rintro e u3 ⟨rfl, hb3'⟩; have hB3 := hB2.trans (hb3'.mono hB2.size)) | (have _x := hB1; go_at_call 20; refine (HM2.out _ hB1).mono ?_; rintro e u2 ⟨rfl, hb2'⟩; have hB2 := hB1.trans (hb2'.mono hB1.size)) | (go_at_call 24; refine (HM1.out _ HBD.out).mono ?_; rintro e u1 ⟨rfl, hb1'⟩; have hB1 := HBD.out.trans (hb1'.mono HBD.out.size)))
          go_wp2
          go_ret
          exact ⟨rfl, HB.out.trans (hB6.mono HB.out.size)⟩

end Go.Proofs.YtbbbfjcikhpmbaaGreat

/- From the readings of the arguments to what the walks ask: a project that can be read is one in memory. -/
namespace Go.Proofs.YtbbbfjcikhpmbaaGreat
open Go Go.RowKit

variable {H : Type} {enc : TypeId × Value → H} {W : World} {sp : Nat → Bool} {held : Bool}
/-- Whatever reads as type t are the cells of some a that is all right. -/
def Opens {α : Type} (enc : TypeId × Value → H) (W : World) (sp : Nat → Bool) (held : Bool) (t : TypeId) (C : α → List Value) (Ok : α → Prop) : Prop :=
  ∀ fuel cs x, DataW.trod enc Tryz.prog W 0 sp held fuel t cs = some x → ∃ a, cs = C a ∧ Ok a
theorem opens_string : Opens enc W sp held 9 strC (fun s => s.size ≤ maxLen) := fun _ _ _ h => by
  obtain ⟨s, h1, -, h2⟩ := DataW.trod_string Tryz.underlying9 h
  exact ⟨s, h1, h2⟩
theorem opens_int : Opens enc W sp held 3 (fun n => [.int .i64 n]) (fun n => (Lit.int .i64 n).wf = true) := fun _ _ _ h => by
  obtain ⟨s, h1, -, h2⟩ := DataW.trod_int Tryz.underlying3 h
  exact ⟨s, h1, h2⟩
theorem opens_bool : Opens enc W sp held 4 (fun n => [.bool n]) (fun _ => True) := fun _ _ _ h => by
  obtain ⟨s, h1, -⟩ := DataW.trod_bool Tryz.underlying4 h
  exact ⟨s, h1, trivial⟩
theorem cells_of {w : World} {a : Addr} {n : Nat} {cs : List Value} (h : w.cells? 0 a n = some cs) (hn : 0 < n) : cs.length = n ∧ a.spot = none ∧ a.block < w.heap.size ∧ ∀ j u, cs[j]? = some u → w.cell? ⟨a.block, a.off + j, none⟩ = some u := by
  unfold World.cells? at h
  rw [if_pos (Nat.zero_le _)] at h
  have hl : cs.length = n := by simpa using mapM_some_length h
  have hg : ∀ j, j < n → w.cell? (a.add j) = cs[j]? := fun j hj => mapM_some_get h j j (by simp [hj])
  have h00 : w.cell? a = some cs[0] := by
    have := hg 0 hn
    rw [show a.add 0 = a from rfl] at this
    rw [this]; simp
  have hsp : a.spot = none := by
    cases hs : a.spot with
    | none => rfl
    | some x =>
      exfalso
      simp only [World.cell?, hs, Option.isSome_some, if_true] at h00
      split at h00 <;> cases h00
  obtain ⟨b, o, s⟩ := a
  cases hsp
  refine ⟨hl, rfl, World.block_lt_of_cell? w _ h00, fun j u hu => ?_⟩
  have hj : j < n := by rw [← hl]; exact (List.getElem?_eq_some_iff.1 hu).1
  have := hg j hj
  rw [Addr.add_lit, hu] at this
  exact this
theorem list_snoc {α : Type} {l : List α} {y : α} {i : Nat} {z : α} (h : (l ++ [y])[i]? = some z) : (i < l.length ∧ l[i]? = some z) ∨ (i = l.length ∧ z = y) := by
  by_cases hi : i < l.length
  · left; rw [List.getElem?_append_left hi] at h; exact ⟨hi, h⟩
  · right
    rw [List.getElem?_append_right (by omega)] at h
    by_cases h1 : i - l.length = 0
    · rw [h1] at h; simp at h; exact ⟨by omega, h.symm⟩
    · rw [List.getElem?_eq_none (by simp; omega)] at h; cases h
theorem list_of {α : Type} {len : Nat} {P : Nat → α → Prop} (h : ∀ i, i < len → ∃ y, P i y) : ∃ l : List α, l.length = len ∧ ∀ i y, l[i]? = some y → P i y := by
  induction len with
  | zero => exact ⟨[], rfl, fun i y h => by simp at h⟩
  | succ len ih =>
    obtain ⟨l, hl, hP⟩ := ih (fun i hi => h i (by omega))
    obtain ⟨y, hy⟩ := h len (by omega)
    refine ⟨l ++ [y], by simp [hl], fun i z hz => ?_⟩
    rcases list_snoc hz with ⟨-, h1⟩ | ⟨rfl, rfl⟩
    · exact hP i z h1
    · rw [hl]; exact hy
theorem opens_slice {α : Type} {t e n : Nat} {C : α → List Value} {Ok : α → Prop} (ht : Tryz.prog.underlying t = some (.slice e)) (hn : Tryz.prog.cellsOf e = n) (h0 : 0 < n) (he : Opens enc W sp held e C Ok) :
    Opens enc W sp held t (fun v : Value => [v]) (fun v => ∃ l, SliceOf n C W v l ∧ ∀ a ∈ l, Ok a) := fun fuel cs x h => by
  rcases Deep.open_slice ht h with ⟨rfl, -⟩ | ⟨a, len, cap, m, n', D, Pl, rfl, -, hlc, hcm, hm, -, hel⟩
  · exact ⟨_, rfl, [], SliceOf.nil, by simp⟩
  · rw [hn] at hel
    have hlm : len ≤ m := by rw [hm]; split <;> omega
    obtain ⟨l, hl, hP⟩ := list_of (len := len) (P := fun i y => W.cells? 0 (a.add (i * n)) n = some (C y) ∧ Ok y) (fun i hi => by
      obtain ⟨cs', h1, h2⟩ := hel i (by omega)
      obtain ⟨y, rfl, hy⟩ := he _ _ _ h2
      exact ⟨y, h1, hy⟩)
    refine ⟨_, rfl, l, ⟨some a, cap, by rw [hl], by omega, hcm, by simp, fun i y hy => ?_⟩, fun y hy => ?_⟩
    · have hil : i < len := by rw [← hl]; exact (List.getElem?_eq_some_iff.1 hy).1
      obtain ⟨y0, hy0⟩ : ∃ y0, l[0]? = some y0 := ⟨l[0]'(by omega), by simp⟩
      obtain ⟨-, hs, hb, -⟩ := cells_of (hP 0 y0 hy0).1 h0
      rw [Nat.zero_mul, show a.add 0 = a from rfl] at hs hb
      obtain ⟨b, o, s⟩ := a
      cases hs
      obtain ⟨-, -, -, hc⟩ := cells_of (hP i y hy).1 h0
      rw [Addr.add_lit] at hc
      exact ⟨b, o, rfl, hb, hc⟩
    · obtain ⟨i, hi, rfl⟩ := List.mem_iff_getElem.1 hy
      exact (hP i _ (by simp [hi])).2
theorem cellsOf_str : Tryz.prog.cellsOf 9 = 1 := by kernel_rfl
theorem cellsOf_int : Tryz.prog.cellsOf 3 = 1 := by kernel_rfl
theorem cellsOf_bool : Tryz.prog.cellsOf 4 = 1 := by kernel_rfl
theorem cellsOf_id : Tryz.prog.cellsOf 52 = 2 := by kernel_rfl
theorem cellsOf_prp : Tryz.prog.cellsOf 55 = 2 := by kernel_rfl
theorem cellsOf_gav : Tryz.prog.cellsOf 29 = 3 := by kernel_rfl
theorem cellsOf_dep : Tryz.prog.cellsOf 48 = 8 := by kernel_rfl
theorem cellsOf_pom : Tryz.prog.cellsOf 33 = 11 := by kernel_rfl
theorem cellsOf_ids : Tryz.prog.cellsOf 46 = 1 := by kernel_rfl
theorem cellsOf_prps : Tryz.prog.cellsOf 30 = 1 := by kernel_rfl
theorem cellsOf_deps : Tryz.prog.cellsOf 31 = 1 := by kernel_rfl
theorem len2 {l : List Value} (h : l.length = 2) : ∃ c0 c1, l = [c0, c1] := by
  match l, h with
  | [c0, c1], _ => exact ⟨c0, c1, rfl⟩
theorem len3 {l : List Value} (h : l.length = 3) : ∃ c0 c1 c2, l = [c0, c1, c2] := by
  match l, h with
  | [c0, c1, c2], _ => exact ⟨c0, c1, c2, rfl⟩
theorem len8 {l : List Value} (h : l.length = 8) : ∃ c0 c1 c2 c3 c4 c5 c6 c7, l = [c0, c1, c2, c3, c4, c5, c6, c7] := by
  match l, h with
  | [c0, c1, c2, c3, c4, c5, c6, c7], _ => exact ⟨c0, c1, c2, c3, c4, c5, c6, c7, rfl⟩
theorem len11 {l : List Value} (h : l.length = 11) : ∃ c0 c1 c2 c3 c4 c5 c6 c7 c8 c9 c10, l = [c0, c1, c2, c3, c4, c5, c6, c7, c8, c9, c10] := by
  match l, h with
  | [c0, c1, c2, c3, c4, c5, c6, c7, c8, c9, c10], _ => exact ⟨c0, c1, c2, c3, c4, c5, c6, c7, c8, c9, c10, rfl⟩
theorem opens_id : Opens enc W sp held 52 idC (fun _ => True) := fun fuel cs x h => by
  obtain ⟨xs, n, -, -, hl, hxs, hf⟩ := DataW.trod_struct Tryz.underlying52 h
  rw [cellsOf_id] at hl
  obtain ⟨c0, c1, rfl⟩ := len2 hl
  have f0 : DataW.trod enc Tryz.prog W 0 sp held n 9 (([c0, c1].drop 0).take (Tryz.prog.cellsOf 9)) = xs[0]? := hf 0 _ rfl
  rw [cellsOf_str, List.getElem?_eq_getElem (by rw [hxs]; decide)] at f0
  have f1 : DataW.trod enc Tryz.prog W 0 sp held n 9 (([c0, c1].drop 1).take (Tryz.prog.cellsOf 9)) = xs[1]? := hf 1 _ rfl
  rw [cellsOf_str, List.getElem?_eq_getElem (by rw [hxs]; decide)] at f1
  obtain ⟨a0, h0, k0⟩ := opens_string _ _ _ f0
  obtain ⟨a1, h1, k1⟩ := opens_string _ _ _ f1
  clear hf f0 f1
  cases h0
  cases h1
  exact ⟨⟨a0, a1⟩, rfl, trivial⟩
theorem opens_prp : Opens enc W sp held 55 prpC (fun _ => True) := fun fuel cs x h => by
  obtain ⟨xs, n, -, -, hl, hxs, hf⟩ := DataW.trod_struct Tryz.underlying55 h
  rw [cellsOf_prp] at hl
  obtain ⟨c0, c1, rfl⟩ := len2 hl
  have f0 : DataW.trod enc Tryz.prog W 0 sp held n 9 (([c0, c1].drop 0).take (Tryz.prog.cellsOf 9)) = xs[0]? := hf 0 _ rfl
  rw [cellsOf_str, List.getElem?_eq_getElem (by rw [hxs]; decide)] at f0
  have f1 : DataW.trod enc Tryz.prog W 0 sp held n 9 (([c0, c1].drop 1).take (Tryz.prog.cellsOf 9)) = xs[1]? := hf 1 _ rfl
  rw [cellsOf_str, List.getElem?_eq_getElem (by rw [hxs]; decide)] at f1
  obtain ⟨a0, h0, k0⟩ := opens_string _ _ _ f0
  obtain ⟨a1, h1, k1⟩ := opens_string _ _ _ f1
  clear hf f0 f1
  cases h0
  cases h1
  exact ⟨⟨a0, a1⟩, rfl, trivial⟩
theorem opens_gav : Opens enc W sp held 29 gavC (fun _ => True) := fun fuel cs x h => by
  obtain ⟨xs, n, -, -, hl, hxs, hf⟩ := DataW.trod_struct Tryz.underlying29 h
  rw [cellsOf_gav] at hl
  obtain ⟨c0, c1, c2, rfl⟩ := len3 hl
  have f0 : DataW.trod enc Tryz.prog W 0 sp held n 9 (([c0, c1, c2].drop 0).take (Tryz.prog.cellsOf 9)) = xs[0]? := hf 0 _ rfl
  rw [cellsOf_str, List.getElem?_eq_getElem (by rw [hxs]; decide)] at f0
  have f1 : DataW.trod enc Tryz.prog W 0 sp held n 9 (([c0, c1, c2].drop 1).take (Tryz.prog.cellsOf 9)) = xs[1]? := hf 1 _ rfl
  rw [cellsOf_str, List.getElem?_eq_getElem (by rw [hxs]; decide)] at f1
  have f2 : DataW.trod enc Tryz.prog W 0 sp held n 9 (([c0, c1, c2].drop 2).take (Tryz.prog.cellsOf 9)) = xs[2]? := hf 2 _ rfl
  rw [cellsOf_str, List.getElem?_eq_getElem (by rw [hxs]; decide)] at f2
  obtain ⟨a0, h0, k0⟩ := opens_string _ _ _ f0
  obtain ⟨a1, h1, k1⟩ := opens_string _ _ _ f1
  obtain ⟨a2, h2, k2⟩ := opens_string _ _ _ f2
  clear hf f0 f1 f2
  cases h0
  cases h1
  cases h2
  exact ⟨⟨a0, a1, a2⟩, rfl, trivial⟩
theorem opens_ids : Opens enc W sp held 46 (fun v : Value => [v]) (fun v => ∃ l, SliceOf 2 idC W v l ∧ ∀ a ∈ l, True) := opens_slice Tryz.underlying46 cellsOf_id (by decide) opens_id
theorem opens_prps : Opens enc W sp held 30 (fun v : Value => [v]) (fun v => ∃ l, SliceOf 2 prpC W v l ∧ ∀ a ∈ l, True) := opens_slice Tryz.underlying30 cellsOf_prp (by decide) opens_prp
theorem opens_dep : Opens enc W sp held 48 depC (DepOk W) := fun fuel cs x h => by
  obtain ⟨xs, n, -, -, hl, hxs, hf⟩ := DataW.trod_struct Tryz.underlying48 h
  rw [cellsOf_dep] at hl
  obtain ⟨c0, c1, c2, c3, c4, c5, c6, c7, rfl⟩ := len8 hl
  have f0 : DataW.trod enc Tryz.prog W 0 sp held n 9 (([c0, c1, c2, c3, c4, c5, c6, c7].drop 0).take (Tryz.prog.cellsOf 9)) = xs[0]? := hf 0 _ rfl
  rw [cellsOf_str, List.getElem?_eq_getElem (by rw [hxs]; decide)] at f0
  have f1 : DataW.trod enc Tryz.prog W 0 sp held n 9 (([c0, c1, c2, c3, c4, c5, c6, c7].drop 1).take (Tryz.prog.cellsOf 9)) = xs[1]? := hf 1 _ rfl
  rw [cellsOf_str, List.getElem?_eq_getElem (by rw [hxs]; decide)] at f1
  have f2 : DataW.trod enc Tryz.prog W 0 sp held n 9 (([c0, c1, c2, c3, c4, c5, c6, c7].drop 2).take (Tryz.prog.cellsOf 9)) = xs[2]? := hf 2 _ rfl
  rw [cellsOf_str, List.getElem?_eq_getElem (by rw [hxs]; decide)] at f2
  have f3 : DataW.trod enc Tryz.prog W 0 sp held n 9 (([c0, c1, c2, c3, c4, c5, c6, c7].drop 3).take (Tryz.prog.cellsOf 9)) = xs[3]? := hf 3 _ rfl
  rw [cellsOf_str, List.getElem?_eq_getElem (by rw [hxs]; decide)] at f3
  have f4 : DataW.trod enc Tryz.prog W 0 sp held n 9 (([c0, c1, c2, c3, c4, c5, c6, c7].drop 4).take (Tryz.prog.cellsOf 9)) = xs[4]? := hf 4 _ rfl
  rw [cellsOf_str, List.getElem?_eq_getElem (by rw [hxs]; decide)] at f4
  have f5 : DataW.trod enc Tryz.prog W 0 sp held n 3 (([c0, c1, c2, c3, c4, c5, c6, c7].drop 5).take (Tryz.prog.cellsOf 3)) = xs[5]? := hf 5 _ rfl
  rw [cellsOf_int, List.getElem?_eq_getElem (by rw [hxs]; decide)] at f5
  have f6 : DataW.trod enc Tryz.prog W 0 sp held n 3 (([c0, c1, c2, c3, c4, c5, c6, c7].drop 6).take (Tryz.prog.cellsOf 3)) = xs[6]? := hf 6 _ rfl
  rw [cellsOf_int, List.getElem?_eq_getElem (by rw [hxs]; decide)] at f6
  have f7 : DataW.trod enc Tryz.prog W 0 sp held n 46 (([c0, c1, c2, c3, c4, c5, c6, c7].drop 7).take (Tryz.prog.cellsOf 46)) = xs[7]? := hf 7 _ rfl
  rw [cellsOf_ids, List.getElem?_eq_getElem (by rw [hxs]; decide)] at f7
  obtain ⟨a0, h0, k0⟩ := opens_string _ _ _ f0
  obtain ⟨a1, h1, k1⟩ := opens_string _ _ _ f1
  obtain ⟨a2, h2, k2⟩ := opens_string _ _ _ f2
  obtain ⟨a3, h3, k3⟩ := opens_string _ _ _ f3
  obtain ⟨a4, h4, k4⟩ := opens_string _ _ _ f4
  obtain ⟨a5, h5, k5⟩ := opens_int _ _ _ f5
  obtain ⟨a6, h6, k6⟩ := opens_int _ _ _ f6
  obtain ⟨a7, h7, k7⟩ := opens_ids _ _ _ f7
  clear hf f0 f1 f2 f3 f4 f5 f6 f7
  cases h0
  cases h1
  cases h2
  cases h3
  cases h4
  cases h5
  cases h6
  cases h7
  exact ⟨(⟨a0, a1, a2, a3, a4, a5, a6, k7.choose⟩, _), rfl, k7.choose_spec.1⟩
theorem opens_deps : Opens enc W sp held 31 (fun v : Value => [v]) (fun v => ∃ l, SliceOf 8 depC W v l ∧ ∀ a ∈ l, DepOk W a) := opens_slice Tryz.underlying31 cellsOf_dep (by decide) opens_dep
theorem opens_pom : Opens enc W sp held 33 (fun q : Pom × Value × Value × Value => pomC q.1 q.2.1 q.2.2.1 q.2.2.2) (fun q => PomOf W (.agg (pomC q.1 q.2.1 q.2.2.1 q.2.2.2).toArray) q.1 q.2.1 q.2.2.1 q.2.2.2) := fun fuel cs x h => by
  obtain ⟨xs, n, -, -, hl, hxs, hf⟩ := DataW.trod_struct Tryz.underlying33 h
  rw [cellsOf_pom] at hl
  obtain ⟨c0, c1, c2, c3, c4, c5, c6, c7, c8, c9, c10, rfl⟩ := len11 hl
  have f0 : DataW.trod enc Tryz.prog W 0 sp held n 4 (([c0, c1, c2, c3, c4, c5, c6, c7, c8, c9, c10].drop 0).take (Tryz.prog.cellsOf 4)) = xs[0]? := hf 0 _ rfl
  rw [cellsOf_bool, List.getElem?_eq_getElem (by rw [hxs]; decide)] at f0
  have f1 : DataW.trod enc Tryz.prog W 0 sp held n 29 (([c0, c1, c2, c3, c4, c5, c6, c7, c8, c9, c10].drop 1).take (Tryz.prog.cellsOf 29)) = xs[1]? := hf 1 _ rfl
  rw [cellsOf_gav, List.getElem?_eq_getElem (by rw [hxs]; decide)] at f1
  have f2 : DataW.trod enc Tryz.prog W 0 sp held n 9 (([c0, c1, c2, c3, c4, c5, c6, c7, c8, c9, c10].drop 4).take (Tryz.prog.cellsOf 9)) = xs[2]? := hf 2 _ rfl
  rw [cellsOf_str, List.getElem?_eq_getElem (by rw [hxs]; decide)] at f2
  have f3 : DataW.trod enc Tryz.prog W 0 sp held n 9 (([c0, c1, c2, c3, c4, c5, c6, c7, c8, c9, c10].drop 5).take (Tryz.prog.cellsOf 9)) = xs[3]? := hf 3 _ rfl
  rw [cellsOf_str, List.getElem?_eq_getElem (by rw [hxs]; decide)] at f3
  have f4 : DataW.trod enc Tryz.prog W 0 sp held n 9 (([c0, c1, c2, c3, c4, c5, c6, c7, c8, c9, c10].drop 6).take (Tryz.prog.cellsOf 9)) = xs[4]? := hf 4 _ rfl
  rw [cellsOf_str, List.getElem?_eq_getElem (by rw [hxs]; decide)] at f4
  have f5 : DataW.trod enc Tryz.prog W 0 sp held n 9 (([c0, c1, c2, c3, c4, c5, c6, c7, c8, c9, c10].drop 7).take (Tryz.prog.cellsOf 9)) = xs[5]? := hf 5 _ rfl
  rw [cellsOf_str, List.getElem?_eq_getElem (by rw [hxs]; decide)] at f5
  have f6 : DataW.trod enc Tryz.prog W 0 sp held n 30 (([c0, c1, c2, c3, c4, c5, c6, c7, c8, c9, c10].drop 8).take (Tryz.prog.cellsOf 30)) = xs[6]? := hf 6 _ rfl
  rw [cellsOf_prps, List.getElem?_eq_getElem (by rw [hxs]; decide)] at f6
  have f7 : DataW.trod enc Tryz.prog W 0 sp held n 31 (([c0, c1, c2, c3, c4, c5, c6, c7, c8, c9, c10].drop 9).take (Tryz.prog.cellsOf 31)) = xs[7]? := hf 7 _ rfl
  rw [cellsOf_deps, List.getElem?_eq_getElem (by rw [hxs]; decide)] at f7
  have f8 : DataW.trod enc Tryz.prog W 0 sp held n 31 (([c0, c1, c2, c3, c4, c5, c6, c7, c8, c9, c10].drop 10).take (Tryz.prog.cellsOf 31)) = xs[8]? := hf 8 _ rfl
  rw [cellsOf_deps, List.getElem?_eq_getElem (by rw [hxs]; decide)] at f8
  obtain ⟨a0, h0, k0⟩ := opens_bool _ _ _ f0
  obtain ⟨a1, h1, k1⟩ := opens_gav _ _ _ f1
  obtain ⟨a2, h2, k2⟩ := opens_string _ _ _ f2
  obtain ⟨a3, h3, k3⟩ := opens_string _ _ _ f3
  obtain ⟨a4, h4, k4⟩ := opens_string _ _ _ f4
  obtain ⟨a5, h5, k5⟩ := opens_string _ _ _ f5
  obtain ⟨a6, h6, k6⟩ := opens_prps _ _ _ f6
  obtain ⟨a7, h7, k7⟩ := opens_deps _ _ _ f7
  obtain ⟨a8, h8, k8⟩ := opens_deps _ _ _ f8
  clear hf f0 f1 f2 f3 f4 f5 f6 f7 f8
  cases h0
  cases h1
  cases h2
  cases h3
  cases h4
  cases h5
  cases h6
  cases h7
  cases h8
  exact ⟨(⟨a0, a1, a2, a3, a4, a5, k6.choose, k7.choose.map (·.1), k8.choose.map (·.1)⟩, _, _, _), rfl, rfl, k6.choose_spec.1, ⟨k7.choose, rfl, k7.choose_spec⟩, ⟨k8.choose, rfl, k8.choose_spec⟩⟩

end Go.Proofs.YtbbbfjcikhpmbaaGreat

/- From a walk to a row: a law that returns true and turns nothing that was there. -/
namespace Go.Proofs.YtbbbfjcikhpmbaaGreat
open Go Go.ChangeShapes Go.WideShapes Go.ChangeAt Go.RowKit

theorem own : ownKnob Tryz.prog.godebug = none := by kernel_rfl
theorem laidOut : laidOutB Tryz.prog = true := by kernel_rfl
theorem trodAll_below {H : Type} {enc : TypeId × Value → H} {W W' : World} (hb : Below W.heap.size W W') : ∀ {ts : List TypeId} {vs : List Value} {ds : List (DataW H)} {ps : List MemPlace},
    (∀ t ∈ ts, Tryz.prog.readableRec t = true ∧ t < Tryz.prog.types.size) → DataW.TrodAll enc Tryz.prog W 0 (fun _ => true) true ts vs ds ps → (∀ x ∈ ps, x.block < W.heap.size) →
    DataW.TrodAll enc Tryz.prog W' 0 (fun b => decide (b < W.heap.size)) true ts vs ds ps
  | [], [], [], _, _, h, _ => h
  | t :: ts, v :: vs, d :: ds, ps, hr, h, hlt => by
    obtain ⟨p, q, h1, h2, rfl⟩ := h
    exact ⟨p, q, Below.trod laidOut (hr t (by simp)).1 (hr t (by simp)).2 h1 hb (fun x hx => hlt x (by simp [hx])),
      trodAll_below hb (fun u hu => hr u (by simp [hu])) h2 (fun x hx => hlt x (by simp [hx])), rfl⟩
  | [], [], _ :: _, _, _, h, _ => h.elim
  | [], _ :: _, _, _, _, h, _ => h.elim
  | _ :: _, [], _, _, _, h, _ => h.elim
  | _ :: _, _ :: _, [], _, _, h, _ => h.elim

end Go.Proofs.YtbbbfjcikhpmbaaGreat

/- Whatever the input, the law PomMays returns true, and its arguments read behind the call as before; no conditions. -/
namespace Go.Proofs.YtbbbfjcikhpmbaaGreat
open Go Go.ChangeShapes Go.WideShapes Go.ChangeAt Go.RowKit Go.ChangeMaps

theorem rt_pom : Tryz.prog.readableRec 33 = true := by kernel_rfl
theorem lt_pom : 33 < Tryz.prog.types.size := of_decide_eq_true (by kernel_rfl)
set_option maxRecDepth 100000 in
theorem open_pom {H : Type} {enc : TypeId × Value → H} {W : World} {base : Nat} {v : Value} {d : DataW H} {p : List MemPlace} (hval : Value.okWide Tryz.prog W .any base 33 v)
    (h : DataW.Trod enc Tryz.prog W 0 (fun _ => true) true 33 v d p) : ∃ c pv mv dv, v = .agg (pomC c pv mv dv).toArray ∧ PomOf W (.agg (pomC c pv mv dv).toArray) c pv mv dv := by
  obtain ⟨fuel, hf⟩ := h
  obtain ⟨⟨c, pv, mv, dv⟩, hcs, hok⟩ := opens_pom _ _ _ hf
  refine ⟨c, pv, mv, dv, ?_, hok⟩
  simp only [Value.okWide, Tryz.underlying33] at hval
  obtain ⟨cs, rfl, -⟩ := hval
  simp only [Value.cells] at hcs
  rw [← hcs]
set_option maxRecDepth 100000 in
theorem pomMays_lifted (os : Os) (started : os.Started) (H : Type) (enc : TypeId × Value → H) :
    ReturnsInHanded {} Tryz.checked os 7 .any (Rows.pomMaysSpec.pre6 enc Tryz.prog Tryz.f7 Rows.pomMaysRow.domain false) (Rows.pomMaysSpec.post enc Tryz.prog Tryz.f7 false true false false) := by
  refine returnsInHanded_of_change_shaped (C := Tryz.checked) own started (by kernel_rfl) Tryz.func7
    (ChangeSpec.witness6 (enc := enc) (C := Tryz.checked) false ⟨#[], #[.agg #[.bool false, .string .empty, .string .empty, .string .empty, .string .empty, .string .empty, .string .empty, .string .empty, .slice none 0 0, .slice none 0 0, .slice none 0 0], .agg #[.bool false, .string .empty, .string .empty, .string .empty, .string .empty, .string .empty, .string .empty, .string .empty, .slice none 0 0, .slice none 0 0, .slice none 0 0]], []⟩ 8 (by kernel_rfl) (by kernel_rfl) (by kernel_rfl) (by kernel_rfl)) ?_
  intro W base args ds gs before hval0 hW hcnd _ hsh _
  have hval : ∀ (j : Nat) t v, Tryz.f7.params[j]? = some t → args[j]? = some v → Value.okWide Tryz.prog W .any base t v := hval0
  have hW' := hW
  obtain ⟨p, q, hA0, hV, rfl, hfz, hnd⟩ := hW
  have hA : DataW.TrodAll enc Tryz.prog W 0 (fun _ => true) true Tryz.f7.params.toList args.toList ds p := hA0
  have hA' := hA
  rw [Tryz.params7] at hA hval
  obtain ⟨v0, v1, d0, d1, p0, p1, rfl, rfl, rfl, h0, h1⟩ := trodAll_two hA
  obtain ⟨rfl, rfl⟩ := trodVars_none hV
  obtain ⟨c0, pv0, mv0, dv0, rfl, hc0⟩ := open_pom (hval 0 33 v0 rfl rfl) h0
  obtain ⟨c1, pv1, mv1, dv1, rfl, hc1⟩ := open_pom (hval 1 33 v1 rfl rfl) h1
  clear hA0 hval0
  obtain ⟨m, hm⟩ : ∃ m, W.cell? ⟨0, 0, none⟩ = some (.int .i64 m) := Tryz.laysM219.s1_3 W hsh
  have hlt : ∀ x ∈ p0 ++ p1, x.block < W.heap.size := fun x hx => by simpa using hW'.lt x (by simpa using hx)
  refine (pomMaysLaw_any c0 c1 pv0 mv0 dv0 pv1 mv1 dv1 m W hc0 hc1 hm).mono fun en W' ⟨he, hb⟩ => ?_
  subst he
  refine ⟨_, rfl, _, _, _, [], p0 ++ p1, [], hW', trodAll_mk1 (shut_bool Tryz.underlying4 _), trodAll_below hb ?_ hA' hlt, rfl, hb.frame _, fun h => by cases h⟩
  rw [Tryz.params7]
  intro t ht
  simp at ht
  subst ht
  exact ⟨rt_pom, lt_pom⟩
theorem pomMays_holds : Rows.PomMaysSaid :=
  OpenClaim.holds_of_wide 7 Tryz.f7 rfl rfl rfl rfl rfl rfl rfl ⟨rfl, rfl, rfl, rfl, rfl⟩ rfl rfl rfl rfl rfl (by kernel_rfl) Tryz.func7 (by kernel_rfl)
    (of_decide_eq_true (by kernel_rfl)) (by unfold Func.isWrapper; rw [if_neg (of_decide_eq_false (by kernel_rfl))]; exact ⟨rfl, rfl⟩)
    (fun os started H enc _ => pomMays_lifted os started H enc)

#print axioms pomMays_holds

end Go.Proofs.YtbbbfjcikhpmbaaGreat
