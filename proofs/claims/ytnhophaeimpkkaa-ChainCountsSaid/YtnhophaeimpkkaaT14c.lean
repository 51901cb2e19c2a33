/- The walk of chain.Merge, two more cases; its conditions stand in the theorems. -/
import Derived.Test.YtnhophaeimpkkaaT14
import Derived.Test.YtnhophaeimpkkaaOwn2
import Derived.Deep.RegionHeld3
import Derived.Deep.DrawnRows
import Derived.WalkKit
import Derived.WalkSpells
import Derived.WalkLawsBesides
namespace Go.Proofs.Ytnhophaeimpkkaa
open Go Go.RowKit

attribute [local go_sem ↓] Go.wp_at_zero Go.wp_at_succ

set_option maxRecDepth 100000 in
set_option maxHeartbeats 1000000 in
theorem merge_ft2 (c p : Pom) (pv mv dv pv2 mv2 dv2 : Value) (w : World) (hc : PomOf w (.agg (pomC c pv mv dv).toArray) c pv mv dv) (hp : PomOf w (.agg (pomC p pv2 mv2 dv2).toArray) p pv2 mv2 dv2) (hS : Small c p) (hpt : c.hasParent = true) (hg0 : isE c.group = false) (hv0 : isE c.version = true) :
    Calls Try.prog 9 #[.agg (pomC c pv mv dv).toArray, .agg (pomC p pv2 mv2 dv2).toArray] w (RetMerged (merge c p) w) := by
  obtain ⟨-, c1, ⟨cm, ecm, c2, c2o⟩, ⟨cd, ecd, c3, c3o⟩⟩ := hc
  obtain ⟨-, p1, ⟨qm, eqm, p2, p2o⟩, ⟨qd, eqd, p3, p3o⟩⟩ := hp
  obtain ⟨s1, s2, s3, s4, s5⟩ := hS
  rw [← ecm, ← eqm] at s2 s4
  rw [← ecd, ← eqd] at s3 s5
  rw [← underL_fst] at s4 s5
  simp only [List.length_map] at s2 s3
  have S1 := Lib.hid s1
  have S2 := Lib.hid s2
  have S3 := Lib.hid s3
  have S4 := Lib.hid s4
  have S5 := Lib.hid s5
  have EM : Hid ((underL cm qm).map (·.1) = underD c.managed p.managed) := by rw [← ecm, ← eqm]; exact underL_fst cm qm
  have ED : Hid ((underL cd qd).map (·.1) = underD c.deps p.deps) := by rw [← ecd, ← eqd]; exact underL_fst cd qd
  clear s1 s2 s3 s4 s5 ecm ecd eqm eqd
  obtain ⟨hpb, ⟨pg, pa, pve⟩, g, a, v, pk, pr, pm, pd⟩ := c
  obtain ⟨hpb2, ⟨pg2, pa2, pve2⟩, g2, a2, v2, pk2, pr2, pm2, pd2⟩ := p
  subst hpt
  simp only [pomC, merge]
  simp only at c1 c2 c3 p1 p2 p3 S1 EM ED
  obtain ⟨ao1, cap1, rfl⟩ := c1.shape
  obtain ⟨ao2, cap2, rfl⟩ := c2.shape
  obtain ⟨ao3, cap3, rfl⟩ := c3.shape
  obtain ⟨ao4, cap4, rfl⟩ := p1.shape
  obtain ⟨ao5, cap5, rfl⟩ := p2.shape
  obtain ⟨ao6, cap6, rfl⟩ := p3.shape
  simp only [isE] at hg0 hv0
  simp only [Bool.true_and, isE, hg0, hv0, if_true, if_false, Bool.false_eq_true]
  go_enter Try.func9, Try.ntmps9
  go_wp2_with fail
  refine Calls.world ?_
  intro W hW
  have x1 : Box W w.heap.size [.bool true, .string pg, .string pa, .string pve, .string g, .string a, .string v, .string pk, .slice ao1 pr.length cap1, .slice ao2 cm.length cap2, .slice ao3 cd.length cap3] := by rw [hW]; exact (((Box.new _ _ _ _ rfl).alloc _).alloc _).alloc _
  have x2 : Box W (w.heap.size + 1) [.bool hpb2, .string pg2, .string pa2, .string pve2, .string g2, .string a2, .string v2, .string pk2, .slice ao4 pr2.length cap4, .slice ao5 qm.length cap5, .slice ao6 qd.length cap6] := by rw [hW]; exact ((Box.new _ _ _ _ (by simp)).alloc _).alloc _
  have x3 : Box W (w.heap.size + 1 + 1) [.bool false, .string ⟨#[]⟩, .string ⟨#[]⟩, .string ⟨#[]⟩, .string ⟨#[]⟩, .string ⟨#[]⟩, .string ⟨#[]⟩, .string ⟨#[]⟩, .slice none 0 0, .slice none 0 0, .slice none 0 0] := by rw [hW]; exact (Box.new _ _ _ _ (by simp)).alloc _
  have x4 : Box W (w.heap.size + 1 + 1 + 1) [.bool true, .string pg, .string pa, .string pve, .string g, .string a, .string pve, .string pk, .slice ao1 pr.length cap1, .slice ao2 cm.length cap2, .slice ao3 cd.length cap3] := by rw [hW]; exact Box.new _ _ _ _ (by simp)
  have hB : Below w.heap.size w W := by rw [hW]; exact ((((Below.refl _ _).alloc (Nat.le_refl _) _).alloc (by simp) _).alloc (by simp; omega) _).alloc (by simp; omega) _
  clear hW
  refine (over_any pr2 pr _ _ _ (p1.below hB) (c1.below hB) S1).mono ?_
  intro e w1 hR
  obtain ⟨pv1, rfl, hown1, hb1⟩ := hR
  have y1 := x1.below hb1 x1.lt
  have y2 := x2.below hb1 x2.lt
  have y3 := x3.below hb1 x3.lt
  have y4 := x4.below hb1 x4.lt
  have hB1 := hB.trans (hb1.mono hB.size)
  obtain ⟨ao7, cap7, rfl⟩ := hown1.shape
  have hWl := x4.lt
  clear x1 x2 x3 x4 hb1
  have f3 := y4.free
  have l4 := y4.lt
  have q8 := y4.cell 8 _ rfl
  have q8f := f3 8
  go_wp2
  refine wp_world ?_
  intro W2 hW2
  have hg2 : w1.grownBy W2 (some (w.heap.size + 1 + 1 + 1)) := by rw [hW2]; exact setCell_grown _ _ _ _
  have z1 := y1.grown hg2 (by simp; omega)
  have z2 := y2.grown hg2 (by simp)
  have z3 := y3.grown hg2 (by simp)
  have z4 : Box W2 (w.heap.size + 1 + 1 + 1) [.bool true, .string pg, .string pa, .string pve, .string g, .string a, .string pve, .string pk, .slice ao7 (over pr2 pr).length cap7, .slice ao2 cm.length cap2, .slice ao3 cd.length cap3] := by rw [hW2]; exact y4.set 8 _ rfl
  have hB2 : Below w.heap.size w W2 := hB1.grown hg2 hB1.size (fun k hk => by cases hk; omega)
  have hown2 := hown1.kept hg2 (by
    cases hv : (Value.slice ao7 (over pr2 pr).length cap7).ownBlock with
    | none => exact .inl rfl
    | some k => right; have := (hown1.lt k hv).1; simp; omega)
  have hWl2 : w1.heap.size ≤ W2.heap.size := hg2.size
  clear hW2 y1 y2 y3 y4 hg2 hB1 q8 q8f f3 hown1
  have m9 := z1.cell 9 _ rfl
  have m10 := z1.cell 10 _ rfl
  have n9 := z2.cell 9 _ rfl
  have n10 := z2.cell 10 _ rfl
  go_region_held3 (fun w' => w'.cell? ⟨w.heap.size, 9, none⟩ = some (.slice ao2 cm.length cap2) ∧ w'.cell? ⟨w.heap.size, 10, none⟩ = some (.slice ao3 cd.length cap3) ∧ w'.cell? ⟨w.heap.size + 1, 9, none⟩ = some (.slice ao5 qm.length cap5) ∧ w'.cell? ⟨w.heap.size + 1, 10, none⟩ = some (.slice ao6 qd.length cap6)) (first | (go_keep; done) | exact ⟨(World.cell?_setCell_far _ _ _ _ (by show _ ≠ _; simp only; omega)).trans k1, (World.cell?_setCell_far _ _ _ _ (by show _ ≠ _; simp only; omega)).trans k2, (World.cell?_setCell_far _ _ _ _ (by show _ ≠ _; simp only; omega)).trans k3, (World.cell?_setCell_far _ _ _ _ (by show _ ≠ _; simp only; omega)).trans k4⟩ | exact ⟨((World.cell?_setCell_far _ _ _ _ (by show _ ≠ _; simp only; omega)).trans (World.cell?_setCell_far _ _ _ _ (by show _ ≠ _; simp only; omega))).trans k1, ((World.cell?_setCell_far _ _ _ _ (by show _ ≠ _; simp only; omega)).trans (World.cell?_setCell_far _ _ _ _ (by show _ ≠ _; simp only; omega))).trans k2, ((World.cell?_setCell_far _ _ _ _ (by show _ ≠ _; simp only; omega)).trans (World.cell?_setCell_far _ _ _ _ (by show _ ≠ _; simp only; omega))).trans k3, ((World.cell?_setCell_far _ _ _ _ (by show _ ≠ _; simp only; omega)).trans (World.cell?_setCell_far _ _ _ _ (by show _ ≠ _; simp only; omega))).trans k4⟩) (first | (go_at_call_of 18 (Value.slice ao2 cm.length cap2); refine (chainUnder_any cm qm _ _ _ (c2.below hB2.drew) (fun p hp => (c2o p hp).below hB2.drew) (p2.below hB2.drew) (fun p hp => (p2o p hp).below hB2.drew) S2 (fun p hp => S4.out _ (List.mem_map.2 ⟨p, hp, rfl⟩))).mono ?_; intro e w3 hR; obtain ⟨mv1, curM, rfl, hownM, hfstM, hokM, hbM'⟩ := hR; have hbM := below_of_drew hbM'; have u1 := z1.below hbM z1.lt; have u2 := z2.below hbM z2.lt; have u3 := z3.below hbM z3.lt; have u4 := z4.below hbM z4.lt; have hB3 := hB2.trans (hbM.mono hB2.size); have r1 := u1.cell 9 _ rfl; have r2 := u1.cell 10 _ rfl; have r3 := u2.cell 9 _ rfl; have r4 := u2.cell 10 _ rfl; obtain ⟨aoM, capM, rfl⟩ := hownM.shape) | (go_at_call_of 18 (Value.slice ao3 cd.length cap3); refine (chainUnder_any cd qd _ _ _ (c3.below hB3) (fun p hp => (c3o p hp).below hB3) (p3.below hB3) (fun p hp => (p3o p hp).below hB3) S3 (fun p hp => S5.out _ (List.mem_map.2 ⟨p, hp, rfl⟩))).mono ?_; intro e w4 hR; obtain ⟨dv1, curD, rfl, hownD, hfstD, hokD, hbD⟩ := hR; have t1 := u1.below hbD u1.lt; have t2 := u2.below hbD u2.lt; have t3 := u3.below hbD u3.lt; have t4 := u4.below hbD u4.lt; have hB4 := hB3.trans (hbD.mono hB3.size); have k1 := t1.cell 9 _ rfl; have k2 := t1.cell 10 _ rfl; have k3 := t2.cell 9 _ rfl; have k4 := t2.cell 10 _ rfl; have k5 := t4.cell 9 _ rfl; have k6 := t4.cell 10 _ rfl; have k7 := t4.free 9; have k8 := t4.free 10; obtain ⟨aoD, capD, rfl⟩ := hownD.shape))
  generalize hW5 : (w4.setCell ⟨w.heap.size + 1 + 1 + 1, 9, none⟩ (.slice aoM curM.length capM)).setCell ⟨w.heap.size + 1 + 1 + 1, 10, none⟩ (.slice aoD curD.length capD) = W5
  have hg5 : w4.grownBy W5 (some (w.heap.size + 1 + 1 + 1)) := by rw [← hW5]; exact (setCell_grown _ _ _ _).trans (setCell_grown _ _ _ _)
  have a4 : Box W5 (w.heap.size + 1 + 1 + 1) [.bool true, .string pg, .string pa, .string pve, .string g, .string a, .string pve, .string pk, .slice ao7 (over pr2 pr).length cap7, .slice aoM curM.length capM, .slice aoD curD.length capD] := by rw [← hW5]; exact (t4.set 9 _ rfl).set 10 _ rfl
  have a3 := t3.grown hg5 (by simp)
  have hB5 : Below w.heap.size w W5 := hB4.grown hg5 hB4.size (fun k hk => by cases hk; omega)
  have hWl4 : W2.heap.size ≤ w4.heap.size := Nat.le_trans (by exact hbM.size) hbD.size
  have FP := (((hown2.below hbM).below hbD).keptR hg5 hWl).base_mono hB.size
  have FP2 : Hid (Owns (w.heap.size + 1 + 1 + 1 + 1) 36 2 prpC W5 (.slice ao7 (over pr2 pr).length cap7) (over pr2 pr)) := (((hown2.below hbM).below hbD).keptR hg5 hWl).base_mono hWl
  have hW3 : W2.heap.size ≤ w3.heap.size := hbM.size
  have hW23 : w.heap.size + 1 + 1 + 1 + 1 ≤ W2.heap.size := by omega
  have FM : Hid (Owns W2.heap.size 34 8 depC W5 (.slice aoM curM.length capM) curM) := (hownM.below hbD).keptR hg5 (by show _ < W2.heap.size; omega)
  have FMo : Hid (∀ p ∈ curM, Owns W2.heap.size 66 2 idC W5 p.2 p.1.excl) := fun p hp => ((hokM p hp).below hbD).keptR hg5 (by show _ < W2.heap.size; omega)
  have FD : Hid (Owns W2.heap.size 34 8 depC W5 (.slice aoD curD.length capD) curD) := (hownD.keptR hg5 (by omega)).base_mono hW3
  have FDo : Hid (∀ p ∈ curD, Owns W2.heap.size 66 2 idC W5 p.2 p.1.excl) := fun p hp => ((hokD p hp).keptR hg5 (by omega)).base_mono hW3
  have hap : Hid (∀ g', (Value.slice aoM curM.length capM).ownBlock = some g' → (Value.slice ao7 (over pr2 pr).length cap7).ownBlock ≠ some g') := by
    intro g' h1 h2
    have e1 : W2.heap.size ≤ g' := (FM.out.lt g' h1).1
    have e2 := (hown2.lt g' h2).2
    omega
  clear FP hW5 hg5 t1 t2 t3 t4 u1 u2 u3 u4 z1 z2 z3 z4 k1 k2 k3 k4 k5 k6 k7 k8 r1 r2 r3 r4 m9 m10 n9 n10 hownM hownD hokM hokD hbM hbM' hbD hown2 hB hB2 hB3 hB4
  have b0 := a4.cell 0 _ rfl
  have b1 := a4.cell 1 _ rfl
  have b2 := a4.cell 2 _ rfl
  have b3 := a4.cell 3 _ rfl
  have b4 := a4.cell 4 _ rfl
  have b5 := a4.cell 5 _ rfl
  have b6 := a4.cell 6 _ rfl
  have b7 := a4.cell 7 _ rfl
  have b8 := a4.cell 8 _ rfl
  have b9 := a4.cell 9 _ rfl
  have b10 := a4.cell 10 _ rfl
  go_wp2_with ((with_reducible show wpList _ _ _ (Oper.mk none (Op.store 27 (.tmp 4) (.tmp 47)) _ _ _ _ :: _) _ _); go_loud (refine wpList_store_box rfl 27 (.tmp 4) (.tmp 47) rfl (w.heap.size + 1 + 1) [.bool false, .string ⟨#[]⟩, .string ⟨#[]⟩, .string ⟨#[]⟩, .string ⟨#[]⟩, .string ⟨#[]⟩, .string ⟨#[]⟩, .string ⟨#[]⟩, .slice none 0 0, .slice none 0 0, .slice none 0 0] [.bool true, .string pg, .string pa, .string pve, .string g, .string a, .string pve, .string pk, .slice ao7 (over pr2 pr).length cap7, .slice aoM curM.length capM, .slice aoD curD.length capD] rfl rfl a3 rfl size_pom (by simp [Value.oneCell']) ?_); intro W6 v3 hg6)
  have d0 := v3.cell 0 _ rfl
  have d1 := v3.cell 1 _ rfl
  have d2 := v3.cell 2 _ rfl
  have d3 := v3.cell 3 _ rfl
  have d4 := v3.cell 4 _ rfl
  have d5 := v3.cell 5 _ rfl
  have d6 := v3.cell 6 _ rfl
  have d7 := v3.cell 7 _ rfl
  have d8 := v3.cell 8 _ rfl
  have d9 := v3.cell 9 _ rfl
  have d10 := v3.cell 10 _ rfl
  go_wp2
  refine bodyPost_ret (v := .agg [.bool true, .string pg, .string pa, .string pve, .string g, .string a, .string pve, .string pk, .slice ao7 (over pr2 pr).length cap7, .slice aoM curM.length capM, .slice aoD curD.length capD].toArray) (by simp [results, Try.results9, go_sem, d0, d1, d2, d3, d4, d5, d6, d7, d8, d9, d10]) rfl ?_
  refine ⟨_, _, _, rfl, ⟨hB5.grown hg6 hB5.size (fun k hk => by cases hk; omega), (FP2.out.keptR hg6 (by omega)).base_mono (by omega), ⟨curM, (FM.out.keptR hg6 (by omega)).base_mono (by omega), hfstM.trans EM.out, fun p hp => ((FMo.out p hp).keptR hg6 (by omega)).slice idC_len⟩, hap.out, ⟨curD, hfstD.trans ED.out, (FD.out.keptR hg6 (by omega)).slice depC_len, fun p hp => ((FDo.out p hp).keptR hg6 (by omega)).slice idC_len⟩⟩⟩

set_option maxRecDepth 100000 in
set_option maxHeartbeats 1000000 in
theorem merge_ff2 (c p : Pom) (pv mv dv pv2 mv2 dv2 : Value) (w : World) (hc : PomOf w (.agg (pomC c pv mv dv).toArray) c pv mv dv) (hp : PomOf w (.agg (pomC p pv2 mv2 dv2).toArray) p pv2 mv2 dv2) (hS : Small c p) (hpt : c.hasParent = true) (hg0 : isE c.group = false) (hv0 : isE c.version = false) :
    Calls Try.prog 9 #[.agg (pomC c pv mv dv).toArray, .agg (pomC p pv2 mv2 dv2).toArray] w (RetMerged (merge c p) w) := by
  obtain ⟨-, c1, ⟨cm, ecm, c2, c2o⟩, ⟨cd, ecd, c3, c3o⟩⟩ := hc
  obtain ⟨-, p1, ⟨qm, eqm, p2, p2o⟩, ⟨qd, eqd, p3, p3o⟩⟩ := hp
  obtain ⟨s1, s2, s3, s4, s5⟩ := hS
  rw [← ecm, ← eqm] at s2 s4
  rw [← ecd, ← eqd] at s3 s5
  rw [← underL_fst] at s4 s5
  simp only [List.length_map] at s2 s3
  have S1 := Lib.hid s1
  have S2 := Lib.hid s2
  have S3 := Lib.hid s3
  have S4 := Lib.hid s4
  have S5 := Lib.hid s5
  have EM : Hid ((underL cm qm).map (·.1) = underD c.managed p.managed) := by rw [← ecm, ← eqm]; exact underL_fst cm qm
  have ED : Hid ((underL cd qd).map (·.1) = underD c.deps p.deps) := by rw [← ecd, ← eqd]; exact underL_fst cd qd
  clear s1 s2 s3 s4 s5 ecm ecd eqm eqd
  obtain ⟨hpb, ⟨pg, pa, pve⟩, g, a, v, pk, pr, pm, pd⟩ := c
  obtain ⟨hpb2, ⟨pg2, pa2, pve2⟩, g2, a2, v2, pk2, pr2, pm2, pd2⟩ := p
  subst hpt
  simp only [pomC, merge]
  simp only at c1 c2 c3 p1 p2 p3 S1 EM ED
  obtain ⟨ao1, cap1, rfl⟩ := c1.shape
  obtain ⟨ao2, cap2, rfl⟩ := c2.shape
  obtain ⟨ao3, cap3, rfl⟩ := c3.shape
  obtain ⟨ao4, cap4, rfl⟩ := p1.shape
  obtain ⟨ao5, cap5, rfl⟩ := p2.shape
  obtain ⟨ao6, cap6, rfl⟩ := p3.shape
  simp only [isE] at hg0 hv0
  simp only [Bool.true_and, isE, hg0, hv0, if_false, Bool.false_eq_true]
  go_enter Try.func9, Try.ntmps9
  go_wp2_with fail
  refine Calls.world ?_
  intro W hW
  have x1 : Box W w.heap.size [.bool true, .string pg, .string pa, .string pve, .string g, .string a, .string v, .string pk, .slice ao1 pr.length cap1, .slice ao2 cm.length cap2, .slice ao3 cd.length cap3] := by rw [hW]; exact (((Box.new _ _ _ _ rfl).alloc _).alloc _).alloc _
  have x2 : Box W (w.heap.size + 1) [.bool hpb2, .string pg2, .string pa2, .string pve2, .string g2, .string a2, .string v2, .string pk2, .slice ao4 pr2.length cap4, .slice ao5 qm.length cap5, .slice ao6 qd.length cap6] := by rw [hW]; exact ((Box.new _ _ _ _ (by simp)).alloc _).alloc _
  have x3 : Box W (w.heap.size + 1 + 1) [.bool false, .string ⟨#[]⟩, .string ⟨#[]⟩, .string ⟨#[]⟩, .string ⟨#[]⟩, .string ⟨#[]⟩, .string ⟨#[]⟩, .string ⟨#[]⟩, .slice none 0 0, .slice none 0 0, .slice none 0 0] := by rw [hW]; exact (Box.new _ _ _ _ (by simp)).alloc _
  have x4 : Box W (w.heap.size + 1 + 1 + 1) [.bool true, .string pg, .string pa, .string pve, .string g, .string a, .string v, .string pk, .slice ao1 pr.length cap1, .slice ao2 cm.length cap2, .slice ao3 cd.length cap3] := by rw [hW]; exact Box.new _ _ _ _ (by simp)
  have hB : Below w.heap.size w W := by rw [hW]; exact ((((Below.refl _ _).alloc (Nat.le_refl _) _).alloc (by simp) _).alloc (by simp; omega) _).alloc (by simp; omega) _
  clear hW
  refine (over_any pr2 pr _ _ _ (p1.below hB) (c1.below hB) S1).mono ?_
  intro e w1 hR
  obtain ⟨pv1, rfl, hown1, hb1⟩ := hR
  have y1 := x1.below hb1 x1.lt
  have y2 := x2.below hb1 x2.lt
  have y3 := x3.below hb1 x3.lt
  have y4 := x4.below hb1 x4.lt
  have hB1 := hB.trans (hb1.mono hB.size)
  obtain ⟨ao7, cap7, rfl⟩ := hown1.shape
  have hWl := x4.lt
  clear x1 x2 x3 x4 hb1
  have f3 := y4.free
  have l4 := y4.lt
  have q8 := y4.cell 8 _ rfl
  have q8f := f3 8
  go_wp2
  refine wp_world ?_
  intro W2 hW2
  have hg2 : w1.grownBy W2 (some (w.heap.size + 1 + 1 + 1)) := by rw [hW2]; exact setCell_grown _ _ _ _
  have z1 := y1.grown hg2 (by simp; omega)
  have z2 := y2.grown hg2 (by simp)
  have z3 := y3.grown hg2 (by simp)
  have z4 : Box W2 (w.heap.size + 1 + 1 + 1) [.bool true, .string pg, .string pa, .string pve, .string g, .string a, .string v, .string pk, .slice ao7 (over pr2 pr).length cap7, .slice ao2 cm.length cap2, .slice ao3 cd.length cap3] := by rw [hW2]; exact y4.set 8 _ rfl
  have hB2 : Below w.heap.size w W2 := hB1.grown hg2 hB1.size (fun k hk => by cases hk; omega)
  have hown2 := hown1.kept hg2 (by
    cases hv : (Value.slice ao7 (over pr2 pr).length cap7).ownBlock with
    | none => exact .inl rfl
    | some k => right; have := (hown1.lt k hv).1; simp; omega)
  have hWl2 : w1.heap.size ≤ W2.heap.size := hg2.size
  clear hW2 y1 y2 y3 y4 hg2 hB1 q8 q8f f3 hown1
  have m9 := z1.cell 9 _ rfl
  have m10 := z1.cell 10 _ rfl
  have n9 := z2.cell 9 _ rfl
  have n10 := z2.cell 10 _ rfl
  go_region_held3 (fun w' => w'.cell? ⟨w.heap.size, 9, none⟩ = some (.slice ao2 cm.length cap2) ∧ w'.cell? ⟨w.heap.size, 10, none⟩ = some (.slice ao3 cd.length cap3) ∧ w'.cell? ⟨w.heap.size + 1, 9, none⟩ = some (.slice ao5 qm.length cap5) ∧ w'.cell? ⟨w.heap.size + 1, 10, none⟩ = some (.slice ao6 qd.length cap6)) (first | (go_keep; done) | exact ⟨(World.cell?_setCell_far _ _ _ _ (by show _ ≠ _; simp only; omega)).trans k1, (World.cell?_setCell_far _ _ _ _ (by show _ ≠ _; simp only; omega)).trans k2, (World.cell?_setCell_far _ _ _ _ (by show _ ≠ _; simp only; omega)).trans k3, (World.cell?_setCell_far _ _ _ _ (by show _ ≠ _; simp only; omega)).trans k4⟩ | exact ⟨((World.cell?_setCell_far _ _ _ _ (by show _ ≠ _; simp only; omega)).trans (World.cell?_setCell_far _ _ _ _ (by show _ ≠ _; simp only; omega))).trans k1, ((World.cell?_setCell_far _ _ _ _ (by show _ ≠ _; simp only; omega)).trans (World.cell?_setCell_far _ _ _ _ (by show _ ≠ _; simp only; omega))).trans k2, ((World.cell?_setCell_far _ _ _ _ (by show _ ≠ _; simp only; omega)).trans (World.cell?_setCell_far _ _ _ _ (by show _ ≠ _; simp only; omega))).trans k3, ((World.cell?_setCell_far _ _ _ _ (by show _ ≠ _; simp only; omega)).trans (World.cell?_setCell_far _ _ _ _ (by show _ ≠ _; simp only; omega))).trans k4⟩) (first | (go_at_call_of 18 (Value.slice ao2 cm.length cap2); refine (chainUnder_any cm qm _ _ _ (c2.below hB2.drew) (fun p hp => (c2o p hp).below hB2.drew) (p2.below hB2.drew) (fun p hp => (p2o p hp).below hB2.drew) S2 (fun p hp => S4.out _ (List.mem_map.2 ⟨p, hp, rfl⟩))).mono ?_; intro e w3 hR; obtain ⟨mv1, curM, rfl, hownM, hfstM, hokM, hbM'⟩ := hR; have hbM := below_of_drew hbM'; have u1 := z1.below hbM z1.lt; have u2 := z2.below hbM z2.lt; have u3 := z3.below hbM z3.lt; have u4 := z4.below hbM z4.lt; have hB3 := hB2.trans (hbM.mono hB2.size); have r1 := u1.cell 9 _ rfl; have r2 := u1.cell 10 _ rfl; have r3 := u2.cell 9 _ rfl; have r4 := u2.cell 10 _ rfl; obtain ⟨aoM, capM, rfl⟩ := hownM.shape) | (go_at_call_of 18 (Value.slice ao3 cd.length cap3); refine (chainUnder_any cd qd _ _ _ (c3.below hB3) (fun p hp => (c3o p hp).below hB3) (p3.below hB3) (fun p hp => (p3o p hp).below hB3) S3 (fun p hp => S5.out _ (List.mem_map.2 ⟨p, hp, rfl⟩))).mono ?_; intro e w4 hR; obtain ⟨dv1, curD, rfl, hownD, hfstD, hokD, hbD⟩ := hR; have t1 := u1.below hbD u1.lt; have t2 := u2.below hbD u2.lt; have t3 := u3.below hbD u3.lt; have t4 := u4.below hbD u4.lt; have hB4 := hB3.trans (hbD.mono hB3.size); have k1 := t1.cell 9 _ rfl; have k2 := t1.cell 10 _ rfl; have k3 := t2.cell 9 _ rfl; have k4 := t2.cell 10 _ rfl; have k5 := t4.cell 9 _ rfl; have k6 := t4.cell 10 _ rfl; have k7 := t4.free 9; have k8 := t4.free 10; obtain ⟨aoD, capD, rfl⟩ := hownD.shape))
  generalize hW5 : (w4.setCell ⟨w.heap.size + 1 + 1 + 1, 9, none⟩ (.slice aoM curM.length capM)).setCell ⟨w.heap.size + 1 + 1 + 1, 10, none⟩ (.slice aoD curD.length capD) = W5
  have hg5 : w4.grownBy W5 (some (w.heap.size + 1 + 1 + 1)) := by rw [← hW5]; exact (setCell_grown _ _ _ _).trans (setCell_grown _ _ _ _)
  have a4 : Box W5 (w.heap.size + 1 + 1 + 1) [.bool true, .string pg, .string pa, .string pve, .string g, .string a, .string v, .string pk, .slice ao7 (over pr2 pr).length cap7, .slice aoM curM.length capM, .slice aoD curD.length capD] := by rw [← hW5]; exact (t4.set 9 _ rfl).set 10 _ rfl
  have a3 := t3.grown hg5 (by simp)
  have hB5 : Below w.heap.size w W5 := hB4.grown hg5 hB4.size (fun k hk => by cases hk; omega)
  have hWl4 : W2.heap.size ≤ w4.heap.size := Nat.le_trans (by exact hbM.size) hbD.size
  have FP := (((hown2.below hbM).below hbD).keptR hg5 hWl).base_mono hB.size
  have FP2 : Hid (Owns (w.heap.size + 1 + 1 + 1 + 1) 36 2 prpC W5 (.slice ao7 (over pr2 pr).length cap7) (over pr2 pr)) := (((hown2.below hbM).below hbD).keptR hg5 hWl).base_mono hWl
  have hW3 : W2.heap.size ≤ w3.heap.size := hbM.size
  have hW23 : w.heap.size + 1 + 1 + 1 + 1 ≤ W2.heap.size := by omega
  have FM : Hid (Owns W2.heap.size 34 8 depC W5 (.slice aoM curM.length capM) curM) := (hownM.below hbD).keptR hg5 (by show _ < W2.heap.size; omega)
  have FMo : Hid (∀ p ∈ curM, Owns W2.heap.size 66 2 idC W5 p.2 p.1.excl) := fun p hp => ((hokM p hp).below hbD).keptR hg5 (by show _ < W2.heap.size; omega)
  have FD : Hid (Owns W2.heap.size 34 8 depC W5 (.slice aoD curD.length capD) curD) := (hownD.keptR hg5 (by omega)).base_mono hW3
  have FDo : Hid (∀ p ∈ curD, Owns W2.heap.size 66 2 idC W5 p.2 p.1.excl) := fun p hp => ((hokD p hp).keptR hg5 (by omega)).base_mono hW3
  have hap : Hid (∀ g', (Value.slice aoM curM.length capM).ownBlock = some g' → (Value.slice ao7 (over pr2 pr).length cap7).ownBlock ≠ some g') := by
    intro g' h1 h2
    have e1 : W2.heap.size ≤ g' := (FM.out.lt g' h1).1
    have e2 := (hown2.lt g' h2).2
    omega
  clear FP hW5 hg5 t1 t2 t3 t4 u1 u2 u3 u4 z1 z2 z3 z4 k1 k2 k3 k4 k5 k6 k7 k8 r1 r2 r3 r4 m9 m10 n9 n10 hownM hownD hokM hokD hbM hbM' hbD hown2 hB hB2 hB3 hB4
  have b0 := a4.cell 0 _ rfl
  have b1 := a4.cell 1 _ rfl
  have b2 := a4.cell 2 _ rfl
  have b3 := a4.cell 3 _ rfl
  have b4 := a4.cell 4 _ rfl
  have b5 := a4.cell 5 _ rfl
  have b6 := a4.cell 6 _ rfl
  have b7 := a4.cell 7 _ rfl
  have b8 := a4.cell 8 _ rfl
  have b9 := a4.cell 9 _ rfl
  have b10 := a4.cell 10 _ rfl
  go_wp2_with ((with_reducible show wpList _ _ _ (Oper.mk none (Op.store 27 (.tmp 4) (.tmp 47)) _ _ _ _ :: _) _ _); go_loud (refine wpList_store_box rfl 27 (.tmp 4) (.tmp 47) rfl (w.heap.size + 1 + 1) [.bool false, .string ⟨#[]⟩, .string ⟨#[]⟩, .string ⟨#[]⟩, .string ⟨#[]⟩, .string ⟨#[]⟩, .string ⟨#[]⟩, .string ⟨#[]⟩, .slice none 0 0, .slice none 0 0, .slice none 0 0] [.bool true, .string pg, .string pa, .string pve, .string g, .string a, .string v, .string pk, .slice ao7 (over pr2 pr).length cap7, .slice aoM curM.length capM, .slice aoD curD.length capD] rfl rfl a3 rfl size_pom (by simp [Value.oneCell']) ?_); intro W6 v3 hg6)
  have d0 := v3.cell 0 _ rfl
  have d1 := v3.cell 1 _ rfl
  have d2 := v3.cell 2 _ rfl
  have d3 := v3.cell 3 _ rfl
  have d4 := v3.cell 4 _ rfl
  have d5 := v3.cell 5 _ rfl
  have d6 := v3.cell 6 _ rfl
  have d7 := v3.cell 7 _ rfl
  have d8 := v3.cell 8 _ rfl
  have d9 := v3.cell 9 _ rfl
  have d10 := v3.cell 10 _ rfl
  go_wp2
  refine bodyPost_ret (v := .agg [.bool true, .string pg, .string pa, .string pve, .string g, .string a, .string v, .string pk, .slice ao7 (over pr2 pr).length cap7, .slice aoM curM.length capM, .slice aoD curD.length capD].toArray) (by simp [results, Try.results9, go_sem, d0, d1, d2, d3, d4, d5, d6, d7, d8, d9, d10]) rfl ?_
  refine ⟨_, _, _, rfl, ⟨hB5.grown hg6 hB5.size (fun k hk => by cases hk; omega), (FP2.out.keptR hg6 (by omega)).base_mono (by omega), ⟨curM, (FM.out.keptR hg6 (by omega)).base_mono (by omega), hfstM.trans EM.out, fun p hp => ((FMo.out p hp).keptR hg6 (by omega)).slice idC_len⟩, hap.out, ⟨curD, hfstD.trans ED.out, (FD.out.keptR hg6 (by omega)).slice depC_len, fun p hp => ((FDo.out p hp).keptR hg6 (by omega)).slice idC_len⟩⟩⟩

end Go.Proofs.Ytnhophaeimpkkaa
