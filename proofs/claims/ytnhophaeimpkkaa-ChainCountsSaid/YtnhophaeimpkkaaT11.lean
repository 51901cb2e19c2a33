/- The walk of chain.under; its conditions stand in the theorems. -/
import Derived.Test.YtnhophaeimpkkaaT10
import Derived.Test.YtnhophaeimpkkaaCnt
import Derived.Deep.RegionWith
import Derived.Deep.DrawnRows
import Derived.WalkKit
import Derived.WalkSpells
import Derived.WalkLawsBesides
namespace Go.Proofs.Ytnhophaeimpkkaa
open Go Go.RowKit

attribute [local go_sem ↓] Go.wp_at_zero Go.wp_at_succ

/-- What the entries say of the first ones of a list. -/
def Counts (ks : List Key) (L : List Ent) : Prop := ∀ x, val L x = (ks.count x : Int)
def keys (l : List (Dep × Value)) : List Key := l.map fun q => keyOf q.1

theorem below_of_drew {B : Nat} {w w' : World} (h : Below B w.drew w') : Below B w w' := ⟨h.os, h.tape, h.output, h.size, h.block⟩

theorem has_keys (l : List (Dep × Value)) (k : Key) : has (l.map (·.1)) k = decide (k ∈ keys l) := by
  induction l with
  | nil => rfl
  | cons q l ih =>
    rw [Bool.eq_iff_iff] at ih ⊢
    simp only [keys] at ih
    simp only [List.map_cons, has, keys, List.mem_cons, Bool.or_eq_true, decide_eq_true_eq, ih]
    constructor
    · rintro (h | h)
      · exact .inl h.symm
      · exact .inr (of_decide_eq_true h)
    · rintro (h | h)
      · exact .inl h.symm
      · exact .inr (decide_eq_true h)

def underL (l more : List (Dep × Value)) : List (Dep × Value) := l ++ more.filter (fun q => !(has (l.map (·.1)) (keyOf q.1)))

theorem underL_take (l more : List (Dep × Value)) (k : Nat) (h : k < more.length) :
    underL l (more.take (k + 1)) = if has (l.map (·.1)) (keyOf more[k].1) then underL l (more.take k) else underL l (more.take k) ++ [more[k]] := by
  rw [List.take_succ_eq_append_getElem h]
  simp only [underL, List.filter_append, List.filter_cons, List.filter_nil]
  cases has (l.map (·.1)) (keyOf more[k].1) <;> simp

theorem underL_len (l more : List (Dep × Value)) : (underL l more).length ≤ l.length + more.length := by
  unfold underL; rw [List.length_append]; have := List.length_filter_le (fun q : Dep × Value => !(has (l.map (·.1)) (keyOf q.1))) more; omega

theorem counts_next {ks : List Key} {L : List Ent} {c k : Nat} {key : Key} (h : Counts (ks.take k) L) (hok : MapOk L c) (hk : ks[k]? = some key) : Counts (ks.take (k + 1)) (bump L c key) := by
  intro x
  obtain ⟨hlt, rfl⟩ := List.getElem?_eq_some_iff.1 hk
  rw [bump_val hok, List.take_succ_eq_append_getElem hlt, List.count_append, h ks[k], h x, List.count_singleton]
  by_cases hx : x = ks[k]
  · subst hx; simp
  · have : ¬ (ks[k] == x) = true := by simpa using fun e => hx e.symm
    simp [hx, this]

theorem key_x (d : Dep) (ex : Value) (w : World) :
    Calls Try.prog 17 #[.agg (depC (d, ex)).toArray] w fun e w' => e = .returned (.agg #[.string d.group, .string d.artifact, .string (keyOf d).type, .string d.classifier]) ∧ Below w.heap.size w w' := key_any d ex w

set_option maxRecDepth 100000 in
set_option maxHeartbeats 1000000 in
theorem under_any (l more : List (Dep × Value)) (v u : Value) (w : World) (hs : SliceOf 8 depC w v l) (hok : ∀ p ∈ l, DepOk w p) (hm' : SliceOf 8 depC w u more) (hmo : ∀ p ∈ more, DepOk w p)
    (hl : Hid ((l.length + more.length) * 120 ≤ 140737488355328)) :
    Calls Try.prog 33 #[v, u, .func (.func 17) #[] #[]] w (RetOwn 34 8 depC (underL l more) w) := by
  obtain ⟨ao, cap, rfl⟩ := hs.shape
  obtain ⟨ao2, cap2, rfl⟩ := hm'.shape
  have hl2 : l.length ≤ 140737488355328 := by have := hl.out; omega
  have hl3 : more.length ≤ 140737488355328 := by have := hl.out; omega
  have hmm := @run_makeMap Try.prog
  go_enter Try.func33, Try.ntmps33
  go_wp2
  go_loopw [16] (fun i wr => ∃ k : Nat, k ≤ l.length ∧ i = .int .i64 k ∧ Below w.heap.size w wr ∧ ∃ L c, MapIs wr w.heap.size L c ∧ MapOk L c ∧ Counts ((keys l).take k) L) (fun i _ => l.length - (intOf i).toNat)
  case atStart => exact ⟨0, Nat.zero_le _, rfl, (Below.refl _ _).alloc (Nat.le_refl _) _, [], 0, heap_alloc_new w _, ⟨by simp, by simp⟩, fun x => by simp [val, idx]⟩
  case round =>
    obtain ⟨k, hk, rfl, hb, L, c, hm, hmok, hcnt⟩ := hrel
    have hsz := hb.size
    clear hmm
    by_cases hlt : k < l.length
    · have hok' := (hok l[k] (by simp)).below hb
      obtain ⟨b, o, rfl, hbl, c0, c1, c2, c3, c4, c5, c6, c7⟩ := (hs.below hb).atDep hlt
      have hkk : (keys l)[k]? = some (keyOf l[k].1) := by simp [keys, hlt]
      have Hkk := Lib.hid hkk
      clear hs hok hkk hm' hmo
      generalize l[k] = q at *
      obtain ⟨qd, qx⟩ := q
      obtain ⟨ao4, cap4, rfl⟩ := hok'.shape
      simp only at c0 c1 c2 c3 c4 c5 c6 c7
      have hml := hm.lt
      have hbx : Box _ _ _ := Box.new wr (depC (qd, .slice ao4 qd.excl.length cap4)) 34 wr.heap.size rfl
      have hm2 := hm.below ((Below.refl wr.heap.size wr).alloc (Nat.le_refl _) (.cells (depC (qd, .slice ao4 qd.excl.length cap4)).toArray 34)) hml
      have hb2' := hb.alloc (by omega) (.cells (depC (qd, .slice ao4 qd.excl.length cap4)).toArray 34)
      simp only [depC] at hbx hm2 hb2'
      go_wp2
      generalize wr.alloc (.cells #[.string qd.group, .string qd.artifact, .string qd.version, .string qd.type, .string qd.classifier, .int .i64 qd.scope, .int .i64 qd.opt, .slice ao4 qd.excl.length cap4] 34) = w2 at *
      have e0 := hbx.cell 0 _ rfl
      have e1 := hbx.cell 1 _ rfl
      have e2 := hbx.cell 2 _ rfl
      have e3 := hbx.cell 3 _ rfl
      have e4 := hbx.cell 4 _ rfl
      have e5 := hbx.cell 5 _ rfl
      have e6 := hbx.cell 6 _ rfl
      have e7 := hbx.cell 7 _ rfl
      have hb2 : Below w.heap.size w w2 := hb2'
      have hw2l := hm2.lt
      have hbxl := hbx.lt
      have r1 : ∀ W, MapIs W w.heap.size L c → (Instr.lookup 89 (.map (some w.heap.size)) (.agg #[.string qd.group, .string qd.artifact, .string (keyOf qd).type, .string qd.classifier]) false).run Try.prog W = .ok (.int .i64 (val L (keyOf qd))) W := fun W h => run_lookup_key W _ L c (keyOf qd) h
      have r2 : ∀ W, MapIs W w.heap.size L c → (Instr.mapEntry 89 (.map (some w.heap.size)) (.agg #[.string qd.group, .string qd.artifact, .string (keyOf qd).type, .string qd.classifier])).run Try.prog W = .ok (.tuple #[.int .i64 (val L (keyOf qd)), .int .i64 (stamp L c (keyOf qd))]) (setMap W w.heap.size (insL L c (keyOf qd)) (insC L c (keyOf qd))) := fun W h => run_mapEntry_key W _ L c (keyOf qd) h
      have r3 : ∀ W, MapIs W w.heap.size L c → (Instr.lookup 89 (.map (some w.heap.size)) (.agg #[.string qd.group, .string qd.artifact, .string (keyOf qd).type, .string qd.classifier]) false).run Try.prog (setMap W w.heap.size (insL L c (keyOf qd)) (insC L c (keyOf qd))) = .ok (.int .i64 (val L (keyOf qd))) (setMap W w.heap.size (insL L c (keyOf qd)) (insC L c (keyOf qd))) := fun W h => by
        have := run_lookup_key _ _ _ _ (keyOf qd) (setMap_is (L' := insL L c (keyOf qd)) (c' := insC L c (keyOf qd)) h)
        rw [ins_val hmok] at this
        exact this
      have r4 : ∀ W (v : Int), MapIs W w.heap.size L c → (Instr.entryStore 89 (.map (some w.heap.size)) (.int .i64 (stamp L c (keyOf qd))) (.int .i64 v)).run Try.prog (setMap W w.heap.size (insL L c (keyOf qd)) (insC L c (keyOf qd))) = .ok () (setMap W w.heap.size (setB (insL L c (keyOf qd)) (stamp L c (keyOf qd)) v) (insC L c (keyOf qd))) := fun W v h => by
        have := run_entryStore_key _ _ _ _ (stamp L c (keyOf qd)) v (setMap_is (L' := insL L c (keyOf qd)) (c' := insC L c (keyOf qd)) h) (insL_born hmok)
        rw [setMap_set] at this
        exact this
      have hv0 : 0 ≤ val L (keyOf qd) := by rw [hcnt]; omega
      have hv1 : val L (keyOf qd) ≤ 140737488355328 := by
        rw [hcnt]
        have h1 := List.count_le_length (a := keyOf qd) (l := (keys l).take k)
        have h2 : ((keys l).take k).length ≤ k := by simp; omega
        omega
      have HC := Lib.hid hcnt
      clear hcnt
      generalize hG1 : insL L c (keyOf qd) = L1 at *
      generalize hG2 : insC L c (keyOf qd) = c1 at *
      generalize hG3 : stamp L c (keyOf qd) = st at *
      generalize hG4 : val L (keyOf qd) = nv at *
      have HG := Lib.hid (And.intro hG1 (And.intro hG2 (And.intro hG3 hG4)))
      clear hG1 hG2 hG3 hG4 hb2'
      go_region_with (go_at_call 17; (refine (key_x qd (.slice ao4 qd.excl.length cap4) _).mono ?_; rintro e w3 ⟨rfl, hb3⟩; have hm3 : MapIs w3 w.heap.size L c := MapIs.below (w := w2.drew) hm2 hb3 hw2l))
      all_goals
        go_wp2
        go_roundw
        case rel =>
          obtain ⟨rfl, rfl, rfl, rfl⟩ := HG.out
          have hb4 : Below w.heap.size w w3 := hb2.trans ((below_of_drew hb3).mono (by exact hb2.size))
          refine ⟨k + 1, by omega, by go_num, hb4.grown (setMap_grown _ _ _ _) (by have := hb4.size; omega) (fun j hj => by cases hj; exact Nat.le_refl _), bump L c (keyOf qd), insC L c (keyOf qd), setMap_is hm3, bump_ok hmok, ?_⟩
          exact counts_next HC.out hmok Hkk.out
        case measure => simp [intOf]; omega
    · have hkl : (keys l).take k = keys l := List.take_of_length_le (by simp [keys]; omega)
      rw [hkl] at hcnt
      have HC := Lib.hid hcnt
      have hml := hm.lt
      clear hcnt hkl hmok
      go_wp2_with fail
      refine (cloneDep_any l _ wr (hs.below hb) (fun p hp => (hok p hp).below hb) (by have := hl.out; omega)).mono ?_
      intro e w1 hR
      obtain ⟨v1, rfl, hown, hb1⟩ := hR
      have hm1 := hm.below hb1 hml
      have hbb := hb.trans (hb1.mono hsz)
      have hown1 := hown.base_mono (base' := w.heap.size + 1) hml
      clear hm hown hb hb1 hsz hml hlt
      go_wp2
      go_loopw [10, 33] (fun v i wr => ∃ k : Nat, k ≤ more.length ∧ i = .int .i64 k ∧ Below w.heap.size w wr ∧ MapIs wr w.heap.size L c ∧ Owns (w.heap.size + 1) 34 8 depC wr v (underL l (more.take k))) (fun _ i _ => more.length - (intOf i).toNat)
      case atStart => exact ⟨0, Nat.zero_le _, rfl, hbb, hm1, by simpa [underL] using hown1⟩
      case round =>
        clear hbb hm1 hown1
        obtain ⟨k, hk, rfl, hb, hm, hown⟩ := hrel
        have hsz := hb.size
        by_cases hlt : k < more.length
        · have hok' := (hmo more[k] (by simp)).below hb
          have hone := depC_one hok'
          obtain ⟨b, o, rfl, hbl, c0, c1, c2, c3, c4, c5, c6, c7⟩ := (hm'.below hb).atDep hlt
          have hst := Lib.hid (underL_take l more k hlt)
          have hlen := underL_len l (more.take k)
          have hlen2 : (more.take k).length = k := by simp; omega
          have hbd : Hid (((underL l (more.take k)).length + 1) * 120 ≤ 140737488355328) := by
            have h2 := hl.out
            have h3 : (underL l (more.take k)).length + 1 ≤ l.length + more.length := by omega
            exact Nat.le_trans (Nat.mul_le_mul_right 120 h3) h2
          clear hs hok hm' hmo hlen hlen2
          generalize underL l (more.take k) = cur at *
          generalize more[k] = q at *
          obtain ⟨qd, qx⟩ := q
          obtain ⟨ao4, cap4, rfl⟩ := hok'.shape
          obtain ⟨ao5, cap5, rfl⟩ := hown.shape
          simp only at c0 c1 c2 c3 c4 c5 c6 c7
          have hml := hm.lt
          have hbx : Box _ _ _ := Box.new wr (depC (qd, .slice ao4 qd.excl.length cap4)) 34 wr.heap.size rfl
          have hm2 := hm.below ((Below.refl wr.heap.size wr).alloc (Nat.le_refl _) (.cells (depC (qd, .slice ao4 qd.excl.length cap4)).toArray 34)) hml
          have hb2 := hb.alloc (by omega) (.cells (depC (qd, .slice ao4 qd.excl.length cap4)).toArray 34)
          have hown2 := hown.alloc (.cells (depC (qd, .slice ao4 qd.excl.length cap4)).toArray 34)
          have hw2 : (wr.alloc (.cells (depC (qd, .slice ao4 qd.excl.length cap4)).toArray 34)).heap.size = wr.heap.size + 1 := by simp
          simp only [depC] at hbx hm2 hb2 hown2 hw2
          have hvx : val L (keyOf qd) = ((keys l).count (keyOf qd) : Int) := HC.out _
          have r1 : ∀ W, MapIs W w.heap.size L c → (Instr.lookup 89 (.map (some w.heap.size)) (.agg #[.string qd.group, .string qd.artifact, .string (keyOf qd).type, .string qd.classifier]) false).run Try.prog W = .ok (.int .i64 (val L (keyOf qd))) W := fun W h => run_lookup_key W _ L c (keyOf qd) h
          cases hq : has (l.map (·.1)) (keyOf qd)
          · have h0 : val L (keyOf qd) = 0 := by
              rw [hvx, has_keys] at *
              have := List.count_eq_zero.2 (of_decide_eq_false hq)
              omega
            rw [h0] at r1
            have Hq := Lib.hid hq
            clear hvx h0 hq
            go_wp2_with fail
            generalize wr.alloc (.cells #[.string qd.group, .string qd.artifact, .string qd.version, .string qd.type, .string qd.classifier, .int .i64 qd.scope, .int .i64 qd.opt, .slice ao4 qd.excl.length cap4] 34) = w2 at *
            refine (key_x qd (.slice ao4 qd.excl.length cap4) _).mono ?_
            rintro e w3 ⟨rfl, hb3⟩
            have hw2l := hbx.lt
            have hm3 := hm2.below hb3 hm2.lt
            have hx3 := hbx.below hb3 hbx.lt
            have hown3 := hown2.below hb3
            have hb4 := hb2.trans (hb3.mono hb2.size)
            have hsz4 := hb4.size
            have e0 := hx3.cell 0 _ rfl
            have e1 := hx3.cell 1 _ rfl
            have e2 := hx3.cell 2 _ rfl
            have e3 := hx3.cell 3 _ rfl
            have e4 := hx3.cell 4 _ rfl
            have e5 := hx3.cell 5 _ rfl
            have e6 := hx3.cell 6 _ rfl
            have e7 := hx3.cell 7 _ rfl
            clear hb3 hbx hm2 hown2 hb2 hown hm hb
            go_wp2_with (at_builtin; refine wpList_append_slice _ rfl _ _ 25 rfl (w.heap.size + 1) 34 Try.underlying25 info_dep rfl (by decide) depC_len (.slice ao5 cur.length cap5) cur rfl (hown3.alloc _) _ [(qd, .slice ao4 qd.excl.length cap4)] rfl (sliceLit depC_len w3 [(qd, .slice ao4 qd.excl.length cap4)] _ _ 1 rfl rfl (by simp [maxLen])) (fun y hy => by simp at hy; subst hy; exact hone) (by simpa using hbd.out) (by decide) (by simp; omega) ?_; intro v5 w5 hown5 hgrow5 hloc5)
            go_wp2
            go_roundw
            case rel =>
              refine ⟨_, hlt, by go_num, (hb4.alloc (by omega) _).grown hgrow5 (by simp; omega) (fun j hj => by have := (hown3.lt j hj).1; omega), (hm3.below ((Below.refl w3.heap.size w3).alloc (Nat.le_refl _) _) hm3.lt).grown hgrow5 (fun e => by have := (hown3.lt _ e.symm).1; omega), ?_⟩
              rw [hst.out, Hq.out]
              exact hown5
            case measure => simp [intOf]; omega
          · have h0 : (val L (keyOf qd) == 0) = false := by
              rw [hvx]
              have h1 := List.count_pos_iff.2 (of_decide_eq_true ((has_keys l _).symm.trans hq))
              rw [beq_eq_false_iff_ne]; omega
            have Hq := Lib.hid hq
            clear hvx hq
            go_wp2_with fail
            generalize wr.alloc (.cells #[.string qd.group, .string qd.artifact, .string qd.version, .string qd.type, .string qd.classifier, .int .i64 qd.scope, .int .i64 qd.opt, .slice ao4 qd.excl.length cap4] 34) = w2 at *
            refine (key_x qd (.slice ao4 qd.excl.length cap4) _).mono ?_
            rintro e w3 ⟨rfl, hb3⟩
            have hw2l := hbx.lt
            have hm3 := hm2.below hb3 hm2.lt
            have hx3 := hbx.below hb3 hbx.lt
            have hown3 := hown2.below hb3
            have hb4 := hb2.trans (hb3.mono hb2.size)
            have hsz4 := hb4.size
            have e0 := hx3.cell 0 _ rfl
            have e1 := hx3.cell 1 _ rfl
            have e2 := hx3.cell 2 _ rfl
            have e3 := hx3.cell 3 _ rfl
            have e4 := hx3.cell 4 _ rfl
            have e5 := hx3.cell 5 _ rfl
            have e6 := hx3.cell 6 _ rfl
            have e7 := hx3.cell 7 _ rfl
            clear hb3 hbx hm2 hown2 hb2 hown hm hb
            go_wp2
            go_roundw
            case rel =>
              refine ⟨_, hlt, by go_num, hb4, hm3, ?_⟩
              rw [hst.out, Hq.out]
              exact hown3
            case measure => simp [intOf]; omega
        · go_wp2
          go_ret
          exact ⟨_, rfl, by rw [List.take_of_length_le (by omega)] at hown; exact hown.base_mono (by omega), hb⟩

end Go.Proofs.Ytnhophaeimpkkaa
