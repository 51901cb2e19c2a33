/- The walk of the document's Merge, two more cases; its conditions stand in the theorems. -/
import Derived.Test.YtnhophaeimpkkaaT15
import Derived.Test.YtnhophaeimpkkaaOwn2
import Derived.Deep.RegionHeld3
import Derived.Deep.DrawnRows
import Derived.WalkKit
import Derived.WalkSpells
import Derived.WalkLawsBesides
namespace Go.Proofs.Ytnhophaeimpkkaa
open Go Go.RowKit

set_option maxRecDepth 100000 in
set_option maxHeartbeats 1000000 in
theorem refMerge_tt (c p : Pom) (pv mv dv pv2 mv2 dv2 : Value) (w : World) (hc : PomOf w (.agg (pomC c pv mv dv).toArray) c pv mv dv) (hp : PomOf w (.agg (pomC p pv2 mv2 dv2).toArray) p pv2 mv2 dv2) (hS : Small c p) (hpt : c.hasParent = true) (hg0 : isE c.group = true) (hv0 : isE c.version = true) :
    Calls Try.prog 11 #[.agg (pomC c pv mv dv).toArray, .agg (pomC p pv2 mv2 dv2).toArray] w (RetPom (merge c p) w) := by
  obtain ⟨-, c1, ⟨cm, ecm, c2, c2o⟩, ⟨cd, ecd, c3, c3o⟩⟩ := hc
  obtain ⟨-, p1, ⟨qm, eqm, p2, p2o⟩, ⟨qd, eqd, p3, p3o⟩⟩ := hp
  obtain ⟨s1, s2, s3, s4, s5⟩ := hS
  rw [← ecm, ← eqm] at s2 s4
  rw [← ecd, ← eqd] at s3 s5
  rw [← underL_fst] at s4 s5
  simp only [List.length_map] at s2 s3
  have S1 := Lib.hid s1
  have S2 := Lib.hid s2
  have S3 := Lib.hid s3
  have S4 := Lib.hid s4
  have S5 := Lib.hid s5
  have EM : Hid ((underL cm qm).map (·.1) = underD c.managed p.managed) := by rw [← ecm, ← eqm]; exact underL_fst cm qm
  have ED : Hid ((underL cd qd).map (·.1) = underD c.deps p.deps) := by rw [← ecd, ← eqd]; exact underL_fst cd qd
  clear s1 s2 s3 s4 s5 ecm ecd eqm eqd
  obtain ⟨hpb, ⟨pg, pa, pve⟩, g, a, v, pk, pr, pm, pd⟩ := c
  obtain ⟨hpb2, ⟨pg2, pa2, pve2⟩, g2, a2, v2, pk2, pr2, pm2, pd2⟩ := p
  subst hpt
  simp only [pomC, merge]
  simp only at c1 c2 c3 p1 p2 p3 S1 EM ED
  obtain ⟨ao1, cap1, rfl⟩ := c1.shape
  obtain ⟨ao2, cap2, rfl⟩ := c2.shape
  obtain ⟨ao3, cap3, rfl⟩ := c3.shape
  obtain ⟨ao4, cap4, rfl⟩ := p1.shape
  obtain ⟨ao5, cap5, rfl⟩ := p2.shape
  obtain ⟨ao6, cap6, rfl⟩ := p3.shape
  simp only [isE] at hg0 hv0
  simp only [Bool.true_and, isE, hg0, hv0, if_true]
  have hprl : pr.length ≤ 140737488355328 := by have := S1.out; omega
  go_enter Try.func11, Try.ntmps11
  go_wp2
  go_loopw [42] (fun i wr => ∃ (k : Nat) (u : Value), k ≤ pr.length ∧ i = .int .i64 k ∧ Below w.heap.size w wr ∧ Box wr w.heap.size [.bool true, .string pg, .string pa, .string pve, .string g, .string a, .string v, .string pk, .slice ao1 pr.length cap1, .slice ao2 cm.length cap2, .slice ao3 cd.length cap3] ∧ Box wr (w.heap.size + 1) [.bool hpb2, .string pg2, .string pa2, .string pve2, .string g2, .string a2, .string v2, .string pk2, .slice ao4 pr2.length cap4, .slice ao5 qm.length cap5, .slice ao6 qd.length cap6] ∧ Box wr (w.heap.size + 1 + 1) [.bool false, .string ⟨#[]⟩, .string ⟨#[]⟩, .string ⟨#[]⟩, .string ⟨#[]⟩, .string ⟨#[]⟩, .string ⟨#[]⟩, .string ⟨#[]⟩, .slice none 0 0, .slice none 0 0, .slice none 0 0] ∧ Box wr (w.heap.size + 1 + 1 + 1) [.bool true, .string pg, .string pa, .string pve, .string pg, .string a, .string pve, .string pk, u, (.slice none 0 0), (.slice none 0 0)] ∧
      ((k = 0 ∧ u = .slice ao4 pr2.length cap4) ∨ Owns (w.heap.size + 1 + 1 + 1 + 1) 36 2 prpC wr u (over pr2 (pr.take k)))) (fun i _ => pr.length - (intOf i).toNat)
  case atStart => exact ⟨0, _, Nat.zero_le _, rfl, ((((Below.refl _ _).alloc (Nat.le_refl _) _).alloc (by simp) _).alloc (by simp; omega) _).alloc (by simp; omega) _, (((Box.new _ _ _ _ rfl).alloc _).alloc _).alloc _, ((Box.new _ _ _ _ (by simp)).alloc _).alloc _, (Box.new _ _ _ _ (by simp)).alloc _, Box.new _ _ _ _ (by simp), .inl ⟨rfl, rfl⟩⟩
  case round =>
    obtain ⟨k, u, hk, rfl, hb, x1, x2, x3, x4, hu⟩ := hrel
    have hsz := hb.size
    have hl4 := x4.lt
    have hcur : SliceOf 2 prpC wr u (over pr2 (pr.take k)) := by
      rcases hu with ⟨rfl, rfl⟩ | h
      · exact p1.below hb
      · exact h.slice prpC_len
    by_cases hlt : k < pr.length
    · obtain ⟨b, o', rfl, hbl, h0, h1⟩ := (c1.below hb).atPrp hlt
      have hstep := Lib.hid (over_take pr2 pr k hlt)
      have hlen := over_len pr2 (pr.take k)
      have hlen2 : (pr.take k).length = k := by simp; omega
      have hbd : Hid (((over pr2 (pr.take k)).length + 1) * 32 ≤ 140737488355328) := by
        have := S1.out
        have h3 : (over pr2 (pr.take k)).length + 1 ≤ pr2.length + pr.length + 1 := by omega
        exact Nat.le_trans (Nat.mul_le_mul_right 32 h3) this
      obtain ⟨aou, capu, rfl⟩ := hcur.shape
      have Hu := Lib.hid hu
      clear c1 c2 c3 p1 p2 p3 c2o c3o p2o p3o hlen hlen2 hu
      generalize over pr2 (pr.take k) = cur at *
      generalize pr[k] = x at *
      obtain ⟨xn, xv⟩ := x
      simp only at h0 h1
      have c8 := x4.cell 8 _ rfl
      go_wp2_with fail
      refine (refPut_any cur ⟨xn, xv⟩ _ _ (hcur.below ((Below.refl _ _).alloc (Nat.le_refl _) _)) hbd).mono ?_
      intro e w2 hR
      obtain ⟨v2', rfl, hown, hbel⟩ := hR
      obtain ⟨aow, capw, hsh⟩ := hown.shape
      subst hsh
      have hb2 := (Below.refl wr.heap.size wr).alloc (Nat.le_refl _) (.cells #[.string xn, .string xv] 36)
      have hb3 := hb2.trans (hbel.mono (by simp))
      have y1 := x1.below hb3 x1.lt
      have y2 := x2.below hb3 x2.lt
      have y3 := x3.below hb3 x3.lt
      have y4 := x4.below hb3 x4.lt
      have hb4 := hb.trans (hb3.mono hsz)
      have q8 := y4.cell 8 _ rfl
      have q8f := y4.free 8
      have hown' := hown.base_mono (base' := w.heap.size + 1 + 1 + 1 + 1) (by simp; omega)
      clear hb2 hbel x1 x2 x3 x4 c8 hcur hown hb hb3
      go_wp2
      go_roundw
      case rel =>
        have hg := setCell_grown w2 (w.heap.size + 1 + 1 + 1) 8 (.slice aow (put cur ⟨xn, xv⟩).length capw)
        exact ⟨k + 1, _, hlt, by go_num, hb4.grown hg hb4.size (fun k hk => by cases hk; omega), y1.grown hg (by simp; omega), y2.grown hg (by simp), y3.grown hg (by simp), y4.set 8 _ rfl, .inr (by rw [hstep.out]; exact hown'.keptR hg (by omega))⟩
      case measure => simp [intOf]; omega
    · have hpk : pr.take k = pr := List.take_of_length_le (by omega)
      rw [hpk] at hu hcur
      obtain ⟨aou, capu, rfl⟩ := hcur.shape
      have HU := Lib.hid hu
      have P1 := Lib.hid p1
      clear hcur hu hpk c1 p1
      have m9 := x1.cell 9 _ rfl
      have m10 := x1.cell 10 _ rfl
      have n9 := x2.cell 9 _ rfl
      have n10 := x2.cell 10 _ rfl
      go_wp2_with fail
      refine (refUnder_any cm qm _ _ _ (c2.below hb) (fun p hp => (c2o p hp).below hb) (p2.below hb) (fun p hp => (p2o p hp).below hb) S2).mono ?_
      intro e w3 hR
      obtain ⟨mv1, rfl, hownM, hbM⟩ := hR
      obtain ⟨aoM, capM, hshM⟩ := hownM.shape
      subst hshM
      have u1 := x1.below hbM x1.lt
      have u2 := x2.below hbM x2.lt
      have u3 := x3.below hbM x3.lt
      have u4 := x4.below hbM x4.lt
      have hb3 := hb.trans (hbM.mono hsz)
      have q9 := u4.cell 9 _ rfl
      have q9f := u4.free 9
      have r10 := u1.cell 10 _ rfl
      have s10 := u2.cell 10 _ rfl
      clear m9 m10 n9 n10 x1 x2 x3 x4
      go_wp2_with fail
      refine Calls.world ?_
      intro W hW
      have hg1 : w3.grownBy W (some (w.heap.size + 1 + 1 + 1)) := by rw [hW]; exact setCell_grown _ _ _ _
      have z3 := u3.grown hg1 (by simp)
      have z4 : Box W (w.heap.size + 1 + 1 + 1) [.bool true, .string pg, .string pa, .string pve, .string pg, .string a, .string pve, .string pk, (.slice aou (over pr2 pr).length capu), (.slice aoM (underL cm qm).length capM), (.slice none 0 0)] := by rw [hW]; exact u4.set 9 _ rfl
      have hb4 : Below w.heap.size w W := hb3.grown hg1 hb3.size (fun k hk => by cases hk; omega)
      clear hW q9 q9f u1 u2 u3 u4
      refine (refUnder_any cd qd _ _ _ (c3.below hb4) (fun p hp => (c3o p hp).below hb4) (p3.below hb4) (fun p hp => (p3o p hp).below hb4) S3).mono ?_
      intro e w5 hR
      obtain ⟨dv1, rfl, hownD, hbD⟩ := hR
      obtain ⟨aoD, capD, hshD⟩ := hownD.shape
      subst hshD
      have y3 := z3.below hbD z3.lt
      have y4 := z4.below hbD z4.lt
      have hb5 := hb4.trans (hbD.mono hb4.size)
      have q10 := y4.cell 10 _ rfl
      have q10f := y4.free 10
      have e0 := y4.cell 0 _ rfl
      have e1 := y4.cell 1 _ rfl
      have e2 := y4.cell 2 _ rfl
      have e3 := y4.cell 3 _ rfl
      have e4 := y4.cell 4 _ rfl
      have e5 := y4.cell 5 _ rfl
      have e6 := y4.cell 6 _ rfl
      have e7 := y4.cell 7 _ rfl
      have e8 := y4.cell 8 _ rfl
      have e9 := y4.cell 9 _ rfl
      clear z3 z4 r10 s10
      go_wp2_with ((with_reducible show wpList _ _ _ (Oper.mk none (Op.store 27 (.tmp 4) (.tmp 64)) _ _ _ _ :: _) _ _); refine wpList_store_box rfl 27 (.tmp 4) (.tmp 64) rfl (w.heap.size + 1 + 1) [.bool false, .string ⟨#[]⟩, .string ⟨#[]⟩, .string ⟨#[]⟩, .string ⟨#[]⟩, .string ⟨#[]⟩, .string ⟨#[]⟩, .string ⟨#[]⟩, .slice none 0 0, .slice none 0 0, .slice none 0 0] [.bool true, .string pg, .string pa, .string pve, .string pg, .string a, .string pve, .string pk, (.slice aou (over pr2 pr).length capu), (.slice aoM (underL cm qm).length capM), (.slice aoD (underL cd qd).length capD)] rfl rfl (y3.grown (setCell_grown w5 (w.heap.size + 1 + 1 + 1) 10 (.slice aoD (underL cd qd).length capD)) (by simp)) rfl size_pom (by simp [Value.oneCell']) ?_; intro W6 v3 hg6)
      have d0 := v3.cell 0 _ rfl
      have d1 := v3.cell 1 _ rfl
      have d2 := v3.cell 2 _ rfl
      have d3 := v3.cell 3 _ rfl
      have d4 := v3.cell 4 _ rfl
      have d5 := v3.cell 5 _ rfl
      have d6 := v3.cell 6 _ rfl
      have d7 := v3.cell 7 _ rfl
      have d8 := v3.cell 8 _ rfl
      have d9 := v3.cell 9 _ rfl
      have d10 := v3.cell 10 _ rfl
      go_wp2
      have hg5 := setCell_grown w5 (w.heap.size + 1 + 1 + 1) 10 (.slice aoD (underL cd qd).length capD)
      have hb6 : Below w.heap.size w W6 := (hb5.grown hg5 hb5.size (fun k hk => by cases hk; omega)).grown hg6 (hb5.grown hg5 hb5.size (fun k hk => by cases hk; omega)).size (fun k hk => by cases hk; omega)
      have hwl : wr.heap.size ≤ w3.heap.size := hbM.size
      have hwl2 : w3.heap.size ≤ W.heap.size := hg1.size
      refine bodyPost_ret (v := .agg [.bool true, .string pg, .string pa, .string pve, .string pg, .string a, .string pve, .string pk, (.slice aou (over pr2 pr).length capu), (.slice aoM (underL cm qm).length capM), (.slice aoD (underL cd qd).length capD)].toArray) (by simp [results, Try.results11, go_sem, d0, d1, d2, d3, d4, d5, d6, d7, d8, d9, d10]) rfl ?_
      refine ⟨_, _, _, rfl, ⟨rfl, ?_, ⟨underL cm qm, EM.out, ((((hownM.keptR hg1 (by omega)).below hbD).keptR hg5 (by omega)).keptR hg6 (by omega)).slice depC_len, fun p hp => (underL_ok c2o p2o p hp).below hb6⟩,
        ⟨underL cd qd, ED.out, ((hownD.keptR hg5 (by omega)).keptR hg6 (by omega)).slice depC_len, fun p hp => (underL_ok c3o p3o p hp).below hb6⟩⟩, hb6⟩
      rcases HU.out with ⟨rfl, he⟩ | h
      · have hpr : pr = [] := List.eq_nil_of_length_eq_zero (by omega)
        subst hpr
        show SliceOf 2 prpC W6 _ (over pr2 [])
        rw [show Value.slice aou (over pr2 []).length capu = _ from he]
        exact P1.out.below hb6
      · exact (((((h.below hbM).keptR hg1 (by omega)).below hbD).keptR hg5 (by omega)).keptR hg6 (by omega)).slice prpC_len

set_option maxRecDepth 100000 in
set_option maxHeartbeats 1000000 in
theorem refMerge_tf (c p : Pom) (pv mv dv pv2 mv2 dv2 : Value) (w : World) (hc : PomOf w (.agg (pomC c pv mv dv).toArray) c pv mv dv) (hp : PomOf w (.agg (pomC p pv2 mv2 dv2).toArray) p pv2 mv2 dv2) (hS : Small c p) (hpt : c.hasParent = true) (hg0 : isE c.group = true) (hv0 : isE c.version = false) :
    Calls Try.prog 11 #[.agg (pomC c pv mv dv).toArray, .agg (pomC p pv2 mv2 dv2).toArray] w (RetPom (merge c p) w) := by
  obtain ⟨-, c1, ⟨cm, ecm, c2, c2o⟩, ⟨cd, ecd, c3, c3o⟩⟩ := hc
  obtain ⟨-, p1, ⟨qm, eqm, p2, p2o⟩, ⟨qd, eqd, p3, p3o⟩⟩ := hp
  obtain ⟨s1, s2, s3, s4, s5⟩ := hS
  rw [← ecm, ← eqm] at s2 s4
  rw [← ecd, ← eqd] at s3 s5
  rw [← underL_fst] at s4 s5
  simp only [List.length_map] at s2 s3
  have S1 := Lib.hid s1
  have S2 := Lib.hid s2
  have S3 := Lib.hid s3
  have S4 := Lib.hid s4
  have S5 := Lib.hid s5
  have EM : Hid ((underL cm qm).map (·.1) = underD c.managed p.managed) := by rw [← ecm, ← eqm]; exact underL_fst cm qm
  have ED : Hid ((underL cd qd).map (·.1) = underD c.deps p.deps) := by rw [← ecd, ← eqd]; exact underL_fst cd qd
  clear s1 s2 s3 s4 s5 ecm ecd eqm eqd
  obtain ⟨hpb, ⟨pg, pa, pve⟩, g, a, v, pk, pr, pm, pd⟩ := c
  obtain ⟨hpb2, ⟨pg2, pa2, pve2⟩, g2, a2, v2, pk2, pr2, pm2, pd2⟩ := p
  subst hpt
  simp only [pomC, merge]
  simp only at c1 c2 c3 p1 p2 p3 S1 EM ED
  obtain ⟨ao1, cap1, rfl⟩ := c1.shape
  obtain ⟨ao2, cap2, rfl⟩ := c2.shape
  obtain ⟨ao3, cap3, rfl⟩ := c3.shape
  obtain ⟨ao4, cap4, rfl⟩ := p1.shape
  obtain ⟨ao5, cap5, rfl⟩ := p2.shape
  obtain ⟨ao6, cap6, rfl⟩ := p3.shape
  simp only [isE] at hg0 hv0
  simp only [Bool.true_and, isE, hg0, hv0, if_true, if_false, Bool.false_eq_true]
  have hprl : pr.length ≤ 140737488355328 := by have := S1.out; omega
  go_enter Try.func11, Try.ntmps11
  go_wp2
  go_loopw [42] (fun i wr => ∃ (k : Nat) (u : Value), k ≤ pr.length ∧ i = .int .i64 k ∧ Below w.heap.size w wr ∧ Box wr w.heap.size [.bool true, .string pg, .string pa, .string pve, .string g, .string a, .string v, .string pk, .slice ao1 pr.length cap1, .slice ao2 cm.length cap2, .slice ao3 cd.length cap3] ∧ Box wr (w.heap.size + 1) [.bool hpb2, .string pg2, .string pa2, .string pve2, .string g2, .string a2, .string v2, .string pk2, .slice ao4 pr2.length cap4, .slice ao5 qm.length cap5, .slice ao6 qd.length cap6] ∧ Box wr (w.heap.size + 1 + 1) [.bool false, .string ⟨#[]⟩, .string ⟨#[]⟩, .string ⟨#[]⟩, .string ⟨#[]⟩, .string ⟨#[]⟩, .string ⟨#[]⟩, .string ⟨#[]⟩, .slice none 0 0, .slice none 0 0, .slice none 0 0] ∧ Box wr (w.heap.size + 1 + 1 + 1) [.bool true, .string pg, .string pa, .string pve, .string pg, .string a, .string v, .string pk, u, (.slice none 0 0), (.slice none 0 0)] ∧
      ((k = 0 ∧ u = .slice ao4 pr2.length cap4) ∨ Owns (w.heap.size + 1 + 1 + 1 + 1) 36 2 prpC wr u (over pr2 (pr.take k)))) (fun i _ => pr.length - (intOf i).toNat)
  case atStart => exact ⟨0, _, Nat.zero_le _, rfl, ((((Below.refl _ _).alloc (Nat.le_refl _) _).alloc (by simp) _).alloc (by simp; omega) _).alloc (by simp; omega) _, (((Box.new _ _ _ _ rfl).alloc _).alloc _).alloc _, ((Box.new _ _ _ _ (by simp)).alloc _).alloc _, (Box.new _ _ _ _ (by simp)).alloc _, Box.new _ _ _ _ (by simp), .inl ⟨rfl, rfl⟩⟩
  case round =>
    obtain ⟨k, u, hk, rfl, hb, x1, x2, x3, x4, hu⟩ := hrel
    have hsz := hb.size
    have hl4 := x4.lt
    have hcur : SliceOf 2 prpC wr u (over pr2 (pr.take k)) := by
      rcases hu with ⟨rfl, rfl⟩ | h
      · exact p1.below hb
      · exact h.slice prpC_len
    by_cases hlt : k < pr.length
    · obtain ⟨b, o', rfl, hbl, h0, h1⟩ := (c1.below hb).atPrp hlt
      have hstep := Lib.hid (over_take pr2 pr k hlt)
      have hlen := over_len pr2 (pr.take k)
      have hlen2 : (pr.take k).length = k := by simp; omega
      have hbd : Hid (((over pr2 (pr.take k)).length + 1) * 32 ≤ 140737488355328) := by
        have := S1.out
        have h3 : (over pr2 (pr.take k)).length + 1 ≤ pr2.length + pr.length + 1 := by omega
        exact Nat.le_trans (Nat.mul_le_mul_right 32 h3) this
      obtain ⟨aou, capu, rfl⟩ := hcur.shape
      have Hu := Lib.hid hu
      clear c1 c2 c3 p1 p2 p3 c2o c3o p2o p3o hlen hlen2 hu
      generalize over pr2 (pr.take k) = cur at *
      generalize pr[k] = x at *
      obtain ⟨xn, xv⟩ := x
      simp only at h0 h1
      have c8 := x4.cell 8 _ rfl
      go_wp2_with fail
      refine (refPut_any cur ⟨xn, xv⟩ _ _ (hcur.below ((Below.refl _ _).alloc (Nat.le_refl _) _)) hbd).mono ?_
      intro e w2 hR
      obtain ⟨v2', rfl, hown, hbel⟩ := hR
      obtain ⟨aow, capw, hsh⟩ := hown.shape
      subst hsh
      have hb2 := (Below.refl wr.heap.size wr).alloc (Nat.le_refl _) (.cells #[.string xn, .string xv] 36)
      have hb3 := hb2.trans (hbel.mono (by simp))
      have y1 := x1.below hb3 x1.lt
      have y2 := x2.below hb3 x2.lt
      have y3 := x3.below hb3 x3.lt
      have y4 := x4.below hb3 x4.lt
      have hb4 := hb.trans (hb3.mono hsz)
      have q8 := y4.cell 8 _ rfl
      have q8f := y4.free 8
      have hown' := hown.base_mono (base' := w.heap.size + 1 + 1 + 1 + 1) (by simp; omega)
      clear hb2 hbel x1 x2 x3 x4 c8 hcur hown hb hb3
      go_wp2
      go_roundw
      case rel =>
        have hg := setCell_grown w2 (w.heap.size + 1 + 1 + 1) 8 (.slice aow (put cur ⟨xn, xv⟩).length capw)
        exact ⟨k + 1, _, hlt, by go_num, hb4.grown hg hb4.size (fun k hk => by cases hk; omega), y1.grown hg (by simp; omega), y2.grown hg (by simp), y3.grown hg (by simp), y4.set 8 _ rfl, .inr (by rw [hstep.out]; exact hown'.keptR hg (by omega))⟩
      case measure => simp [intOf]; omega
    · have hpk : pr.take k = pr := List.take_of_length_le (by omega)
      rw [hpk] at hu hcur
      obtain ⟨aou, capu, rfl⟩ := hcur.shape
      have HU := Lib.hid hu
      have P1 := Lib.hid p1
      clear hcur hu hpk c1 p1
      have m9 := x1.cell 9 _ rfl
      have m10 := x1.cell 10 _ rfl
      have n9 := x2.cell 9 _ rfl
      have n10 := x2.cell 10 _ rfl
      go_wp2_with fail
      refine (refUnder_any cm qm _ _ _ (c2.below hb) (fun p hp => (c2o p hp).below hb) (p2.below hb) (fun p hp => (p2o p hp).below hb) S2).mono ?_
      intro e w3 hR
      obtain ⟨mv1, rfl, hownM, hbM⟩ := hR
      obtain ⟨aoM, capM, hshM⟩ := hownM.shape
      subst hshM
      have u1 := x1.below hbM x1.lt
      have u2 := x2.below hbM x2.lt
      have u3 := x3.below hbM x3.lt
      have u4 := x4.below hbM x4.lt
      have hb3 := hb.trans (hbM.mono hsz)
      have q9 := u4.cell 9 _ rfl
      have q9f := u4.free 9
      have r10 := u1.cell 10 _ rfl
      have s10 := u2.cell 10 _ rfl
      clear m9 m10 n9 n10 x1 x2 x3 x4
      go_wp2_with fail
      refine Calls.world ?_
      intro W hW
      have hg1 : w3.grownBy W (some (w.heap.size + 1 + 1 + 1)) := by rw [hW]; exact setCell_grown _ _ _ _
      have z3 := u3.grown hg1 (by simp)
      have z4 : Box W (w.heap.size + 1 + 1 + 1) [.bool true, .string pg, .string pa, .string pve, .string pg, .string a, .string v, .string pk, (.slice aou (over pr2 pr).length capu), (.slice aoM (underL cm qm).length capM), (.slice none 0 0)] := by rw [hW]; exact u4.set 9 _ rfl
      have hb4 : Below w.heap.size w W := hb3.grown hg1 hb3.size (fun k hk => by cases hk; omega)
      clear hW q9 q9f u1 u2 u3 u4
      refine (refUnder_any cd qd _ _ _ (c3.below hb4) (fun p hp => (c3o p hp).below hb4) (p3.below hb4) (fun p hp => (p3o p hp).below hb4) S3).mono ?_
      intro e w5 hR
      obtain ⟨dv1, rfl, hownD, hbD⟩ := hR
      obtain ⟨aoD, capD, hshD⟩ := hownD.shape
      subst hshD
      have y3 := z3.below hbD z3.lt
      have y4 := z4.below hbD z4.lt
      have hb5 := hb4.trans (hbD.mono hb4.size)
      have q10 := y4.cell 10 _ rfl
      have q10f := y4.free 10
      have e0 := y4.cell 0 _ rfl
      have e1 := y4.cell 1 _ rfl
      have e2 := y4.cell 2 _ rfl
      have e3 := y4.cell 3 _ rfl
      have e4 := y4.cell 4 _ rfl
      have e5 := y4.cell 5 _ rfl
      have e6 := y4.cell 6 _ rfl
      have e7 := y4.cell 7 _ rfl
      have e8 := y4.cell 8 _ rfl
      have e9 := y4.cell 9 _ rfl
      clear z3 z4 r10 s10
      go_wp2_with ((with_reducible show wpList _ _ _ (Oper.mk none (Op.store 27 (.tmp 4) (.tmp 64)) _ _ _ _ :: _) _ _); refine wpList_store_box rfl 27 (.tmp 4) (.tmp 64) rfl (w.heap.size + 1 + 1) [.bool false, .string ⟨#[]⟩, .string ⟨#[]⟩, .string ⟨#[]⟩, .string ⟨#[]⟩, .string ⟨#[]⟩, .string ⟨#[]⟩, .string ⟨#[]⟩, .slice none 0 0, .slice none 0 0, .slice none 0 0] [.bool true, .string pg, .string pa, .string pve, .string pg, .string a, .string v, .string pk, (.slice aou (over pr2 pr).length capu), (.slice aoM (underL cm qm).length capM), (.slice aoD (underL cd qd).length capD)] rfl rfl (y3.grown (setCell_grown w5 (w.heap.size + 1 + 1 + 1) 10 (.slice aoD (underL cd qd).length capD)) (by simp)) rfl size_pom (by simp [Value.oneCell']) ?_; intro W6 v3 hg6)
      have d0 := v3.cell 0 _ rfl
      have d1 := v3.cell 1 _ rfl
      have d2 := v3.cell 2 _ rfl
      have d3 := v3.cell 3 _ rfl
      have d4 := v3.cell 4 _ rfl
      have d5 := v3.cell 5 _ rfl
      have d6 := v3.cell 6 _ rfl
      have d7 := v3.cell 7 _ rfl
      have d8 := v3.cell 8 _ rfl
      have d9 := v3.cell 9 _ rfl
      have d10 := v3.cell 10 _ rfl
      go_wp2
      have hg5 := setCell_grown w5 (w.heap.size + 1 + 1 + 1) 10 (.slice aoD (underL cd qd).length capD)
      have hb6 : Below w.heap.size w W6 := (hb5.grown hg5 hb5.size (fun k hk => by cases hk; omega)).grown hg6 (hb5.grown hg5 hb5.size (fun k hk => by cases hk; omega)).size (fun k hk => by cases hk; omega)
      have hwl : wr.heap.size ≤ w3.heap.size := hbM.size
      have hwl2 : w3.heap.size ≤ W.heap.size := hg1.size
      refine bodyPost_ret (v := .agg [.bool true, .string pg, .string pa, .string pve, .string pg, .string a, .string v, .string pk, (.slice aou (over pr2 pr).length capu), (.slice aoM (underL cm qm).length capM), (.slice aoD (underL cd qd).length capD)].toArray) (by simp [results, Try.results11, go_sem, d0, d1, d2, d3, d4, d5, d6, d7, d8, d9, d10]) rfl ?_
      refine ⟨_, _, _, rfl, ⟨rfl, ?_, ⟨underL cm qm, EM.out, ((((hownM.keptR hg1 (by omega)).below hbD).keptR hg5 (by omega)).keptR hg6 (by omega)).slice depC_len, fun p hp => (underL_ok c2o p2o p hp).below hb6⟩,
        ⟨underL cd qd, ED.out, ((hownD.keptR hg5 (by omega)).keptR hg6 (by omega)).slice depC_len, fun p hp => (underL_ok c3o p3o p hp).below hb6⟩⟩, hb6⟩
      rcases HU.out with ⟨rfl, he⟩ | h
      · have hpr : pr = [] := List.eq_nil_of_length_eq_zero (by omega)
        subst hpr
        show SliceOf 2 prpC W6 _ (over pr2 [])
        rw [show Value.slice aou (over pr2 []).length capu = _ from he]
        exact P1.out.below hb6
      · exact (((((h.below hbM).keptR hg1 (by omega)).below hbD).keptR hg5 (by omega)).keptR hg6 (by omega)).slice prpC_len

end Go.Proofs.Ytnhophaeimpkkaa
