/- Walks: rows of properties, ids, dependencies compared, by the document and by slices.Equal, EqualFunc; pom.SameDep; the conditions stand in the theorems. -/
import Derived.Test.YtbbbfjcikhpmbaaGreatJE23
import Derived.Test.YtbbbfjcikhpmbaaGreatJE02
import Derived.Deep.Cut
import Derived.StillTailTactics
import Derived.Test.YtbbbfjcikhpmbaaGreatProg
import Derived.Test.YtbbbfjcikhpmbaaGreatJE13
import Derived.Test.YtbbbfjcikhpmbaaGreatJE01
import Derived.Test.YtbbbfjcikhpmbaaGreatJE15
import Derived.Test.YtbbbfjcikhpmbaaGreatJE17
import Derived.Test.YtbbbfjcikhpmbaaGreatJE18
import Derived.Test.YtbbbfjcikhpmbaaGreatJE11
import Derived.Test.YtbbbfjcikhpmbaaGreatJE08
import Derived.Deep.CutBlock
import Derived.BigRegion
namespace Go.Proofs.YtbbbfjcikhpmbaaGreat
open Go Go.RowKit

attribute [local go_sem ↓] eqg_prp neq_prp eqg_id neq_id eqg_gav eql_gav
set_option maxHeartbeats 2000000 in
theorem sameProps_any (l m : List Prp) (v u : Value) (w : World) (hs : SliceOf 2 prpC w v l) (hm : SliceOf 2 prpC w u m) :
    Calls Tryz.prog 48 #[v, u] w fun e w' => e = .returned (.bool (decide (l = m))) ∧ Below w.heap.size w w' := by
 have hll : l.length ≤ 9223372036854775807 := by obtain ⟨a, c, e, h2, h3, -⟩ := hs; exact Nat.le_trans h2 (Nat.le_trans h3 (by decide))
 have hlm : m.length ≤ 9223372036854775807 := by obtain ⟨a, c, e, h2, h3, -⟩ := hm; exact Nat.le_trans h2 (Nat.le_trans h3 (by decide))
 obtain ⟨ao, cap, rfl⟩ := hs.shape
 obtain ⟨ao2, cap2, rfl⟩ := hm.shape
 obtain ⟨r, hr⟩ : ∃ r, r = decide (l = m) := ⟨_, rfl⟩
 have HR : Hid (r = decide (l = m)) := hr
 have HX := Lib.hid hs
 have HY := Lib.hid hm
 rw [← hr]
 clear hr hs hm
 by_cases hxl : l.length = m.length
 rotate_left
 · have HN : Hid (r = false) := by show _ = _; rw [HR.out]; exact decide_eq_false (fun h => hxl (congrArg List.length h))
   have hb : ((l.length : Int) == (m.length : Int)) = false := beq_eq_false_iff_ne.2 (by omega)
   have hb2 : (l.length == m.length) = false := beq_eq_false_iff_ne.2 hxl
   have hb3 : ((l.length : Int) != (m.length : Int)) = true := by rw [bne, hb]; rfl
   clear hxl HR HX HY
   go_enter Tryz.func48, Tryz.ntmps48
   go_wp2
   go_ret
   exact ⟨by rw [HN.out]; rfl, Below.refl _ _⟩
 rw [← hxl] at HY ⊢
 have HXL := Lib.hid hxl
 clear hxl hlm
 go_enter Tryz.func48, Tryz.ntmps48
 go_wp2
 go_loopw [13] (fun i wr => ∃ k : Nat, k ≤ l.length ∧ i = .int .i64 k ∧ Hid (l.take k = m.take k) ∧ Below w.heap.size w wr) (fun i _ => l.length - (intOf i).toNat)
 case atStart => exact ⟨0, Nat.zero_le _, rfl, rfl, Below.refl _ _⟩
 case round =>
  obtain ⟨k, hk, rfl, HT, hb⟩ := hrel
  by_cases hlt : k < l.length
  · have hlt2 : k < m.length := by have := HXL.out; omega
    obtain ⟨b, o', rfl, -, h0, h1⟩ := (HX.out.below hb).atPrp hlt
    have hyy := HY.out.below hb
    rw [HXL.out] at hyy
    obtain ⟨b2, o2', rfl, -, h2, h3⟩ := hyy.atPrp hlt2
    have HTK : Hid (l[k] = m[k] → l.take (k + 1) = m.take (k + 1)) := fun h => by rw [List.take_succ_eq_append_getElem hlt, List.take_succ_eq_append_getElem hlt2, HT.out, h]
    have HNE : Hid (l[k] ≠ m[k] → r = false) := fun h => by rw [HR.out]; exact decide_eq_false fun e => h (by simp only [e])
    have HB1 := Lib.hid hb
    clear HT hyy hb
    generalize l[k] = y at *
    generalize m[k] = z at *
    obtain ⟨y1, y2⟩ := y
    obtain ⟨z1, z2⟩ := z
    simp only at h0 h1 h2 h3
    by_cases e1 : y1 = z1
    · subst e1
      by_cases e2 : y2 = z2
      · subst e2
        have HT2 := Lib.hid (HTK.out rfl)
        clear HTK HNE
        go_wp2
        go_quiet (fail)
        go_wp2
        go_roundw
        case rel => exact ⟨k + 1, by omega, by go_num, HT2.out, below_drewN HB1.out _⟩
        case measure => simp [intOf]; omega
      · have HN := Lib.hid (HNE.out (fun h => e2 (by injection h)))
        have hd : decide (y2 = z2) = false := decide_eq_false e2
        clear HTK HNE e2
        go_wp2
        go_quiet (fail)
        go_wp2
        go_ret
        exact ⟨by rw [HN.out]; rfl, below_drewN HB1.out _⟩
    · have HN := Lib.hid (HNE.out (fun h => e1 (by injection h)))
      have hd : decide (y1 = z1) = false := decide_eq_false e1
      clear HTK HNE e1
      go_wp2
      go_quiet (fail)
      go_wp2
      go_ret
      exact ⟨by rw [HN.out]; rfl, below_drewN HB1.out _⟩
  · obtain rfl : k = l.length := by omega
    have HN : Hid (r = true) := by
     show _ = _
     have h1 := HT.out
     rw [List.take_length, HXL.out, List.take_length] at h1
     rw [HR.out]; exact decide_eq_true h1
    have HB1 := Lib.hid hb
    clear HT hb hlt
    go_wp2
    go_ret
    exact ⟨by rw [HN.out]; rfl, HB1.out⟩
set_option maxRecDepth 100000 in
set_option maxHeartbeats 4000000 in
theorem sameDepsX_any (ds es : List Dep) (v u : Value) (w : World) (hv : DepsOf w v ds) (hu : DepsOf w u es) (hxl : ∀ d ∈ ds, d.excl.length ≤ 140737488355328) (hyl : ∀ d ∈ es, d.excl.length ≤ 140737488355328) :
    Calls Tryz.prog 49 #[v, u] w fun e w' => e = .returned (.bool (decide (ds = es))) ∧ Below w.heap.size w w' := by
 obtain ⟨r, hr⟩ : ∃ r, r = decide (ds = es) := ⟨_, rfl⟩
 have HR0 : Hid (r = decide (ds = es)) := hr
 rw [← hr]
 clear hr
 obtain ⟨l, hel, hs, hso⟩ := hv
 obtain ⟨m, hem, hm, hmo⟩ := hu
 have HXX : Hid (∀ q ∈ l, q.1.excl.length ≤ 140737488355328) := fun q hq => hxl _ (by rw [← hel]; exact List.mem_map.2 ⟨q, hq, rfl⟩)
 have HYX : Hid (∀ q ∈ m, q.1.excl.length ≤ 140737488355328) := fun q hq => hyl _ (by rw [← hem]; exact List.mem_map.2 ⟨q, hq, rfl⟩)
 have HR : Hid (r = decide (l.map (·.1) = m.map (·.1))) := by show _ = _; rw [HR0.out, hel, hem]
 have hll : l.length ≤ 9223372036854775807 := by obtain ⟨a, c, e, h2, h3, -⟩ := hs; exact Nat.le_trans h2 (Nat.le_trans h3 (by decide))
 have hlm : m.length ≤ 9223372036854775807 := by obtain ⟨a, c, e, h2, h3, -⟩ := hm; exact Nat.le_trans h2 (Nat.le_trans h3 (by decide))
 obtain ⟨ao, cap, rfl⟩ := hs.shape
 obtain ⟨ao2, cap2, rfl⟩ := hm.shape
 have HX := Lib.hid hs
 have HY := Lib.hid hm
 have HXO := Lib.hid hso
 have HYO := Lib.hid hmo
 clear hel hem hs hm hso hmo hxl hyl HR0
 by_cases hxl : l.length = m.length
 rotate_left
 · have HN : Hid (r = false) := by show _ = _; rw [HR.out]; exact decide_eq_false (fun h => hxl (by simpa using congrArg List.length h))
   have hb : ((l.length : Int) == (m.length : Int)) = false := beq_eq_false_iff_ne.2 (by omega)
   have hb2 : (l.length == m.length) = false := beq_eq_false_iff_ne.2 hxl
   have hb3 : ((l.length : Int) != (m.length : Int)) = true := by rw [bne, hb]; rfl
   clear hxl HR HX HY HXO HYO HXX HYX
   go_enter Tryz.func49, Tryz.ntmps49
   go_wp2
   go_ret
   exact ⟨by rw [HN.out]; rfl, Below.refl _ _⟩
 rw [← hxl] at HY ⊢
 have HXL := Lib.hid hxl
 clear hxl hlm
 go_enter Tryz.func49, Tryz.ntmps49
 go_wp2
 go_loopw [13] (fun i wr => ∃ k : Nat, k ≤ l.length ∧ i = .int .i64 k ∧ Hid ((l.map (·.1)).take k = (m.map (·.1)).take k) ∧ Below w.heap.size w wr) (fun i _ => l.length - (intOf i).toNat)
 case atStart => exact ⟨0, Nat.zero_le _, rfl, rfl, Below.refl _ _⟩
 case round =>
  obtain ⟨k, hk, rfl, HT, hb⟩ := hrel
  by_cases hlt : k < l.length
  · have hlt2 : k < m.length := by have := HXL.out; omega
    obtain ⟨b, o', rfl, hg1, c0, c1, c2, c3, c4, c5, c6, c7⟩ := (HX.out.below hb).atDep hlt
    have hyy := HY.out.below hb
    rw [HXL.out] at hyy
    obtain ⟨b2, o2', rfl, hg2, d0, d1, d2, d3, d4, d5, d6, d7⟩ := hyy.atDep hlt2
    have HTK : Hid (l[k].1 = m[k].1 → (l.map (·.1)).take (k + 1) = (m.map (·.1)).take (k + 1)) := fun h => by rw [List.take_succ_eq_append_getElem (by simpa using hlt), List.take_succ_eq_append_getElem (by simpa using hlt2), HT.out, List.getElem_map, List.getElem_map, h]
    have HNE : Hid (l[k].1 ≠ m[k].1 → r = false) := fun h => by
     rw [HR.out]
     refine decide_eq_false fun e => h ?_
     have h1 := congrArg (·[k]?) e
     simpa [hlt, hlt2] using h1
    have hok := (HXO.out l[k] (List.getElem_mem hlt)).below hb
    have hok2 := (HYO.out m[k] (List.getElem_mem hlt2)).below hb
    have HLX := Lib.hid (HXX.out l[k] (List.getElem_mem hlt))
    have HLY := Lib.hid (HYX.out m[k] (List.getElem_mem hlt2))
    have HB1 := Lib.hid hb
    have hsr := hb.size
    clear HT hyy hb
    generalize l[k] = q at *
    generalize m[k] = q2 at *
    obtain ⟨qd, qx⟩ := q
    obtain ⟨qd2, qx2⟩ := q2
    obtain ⟨ao4, cap4, rfl⟩ := hok.shape
    obtain ⟨ao5, cap5, rfl⟩ := hok2.shape
    have HOK := Lib.hid hok
    have HOK2 := Lib.hid hok2
    simp only at c0 c1 c2 c3 c4 c5 c6 c7 d0 d1 d2 d3 d4 d5 d6 d7
    have HSD : Hid (∀ W, Below wr.heap.size wr W → Calls Tryz.prog 23 #[.agg #[.string qd.group, .string qd.artifact, .string qd.version, .string qd.type, .string qd.classifier, .int .i64 qd.scope, .int .i64 qd.opt, .slice ao4 qd.excl.length cap4], .agg #[.string qd2.group, .string qd2.artifact, .string qd2.version, .string qd2.type, .string qd2.classifier, .int .i64 qd2.scope, .int .i64 qd2.opt, .slice ao5 qd2.excl.length cap5]] W fun e w' => e = .returned (.bool (decide (qd = qd2))) ∧ Below W.heap.size W w') := fun W h => sameDepX_any qd qd2 _ _ W (HOK.out.below h) (HOK2.out.below h) HLX.out HLY.out
    clear hok hok2
    obtain ⟨q, hq⟩ : ∃ q, q = decide (qd = qd2) := ⟨_, rfl⟩
    rw [← hq] at HSD
    have HQ := Lib.hid hq
    clear hq
    go_wp2
    go_still_tail 8, (by kernel_rfl)
    change wpList _ _ _ _ _ wr.drew
    go_wp2_with fail
    refine (HSD.out _ (below_drewN (Below.refl wr.heap.size wr) 1)).mono ?_
    rintro e w7 ⟨rfl, hb7⟩
    have HB7 := Lib.hid (HB1.out.trans (((below_drewN (Below.refl wr.heap.size wr) 1).trans hb7).mono hsr))
    clear hb7 HSD
    cases q with
    | true =>
     have HT2 := Lib.hid (HTK.out (of_decide_eq_true HQ.out.symm))
     clear HTK HNE HQ
     go_wp2
     go_roundw
     case rel => exact ⟨k + 1, by omega, by go_num, HT2.out, HB7.out⟩
     case measure => simp [intOf]; omega
    | false =>
     have HN := Lib.hid (HNE.out (of_decide_eq_false HQ.out.symm))
     clear HTK HNE HQ
     go_wp2
     go_ret
     exact ⟨by rw [HN.out]; rfl, HB7.out⟩
  · obtain rfl : k = l.length := by omega
    have HN : Hid (r = true) := by
     show _ = _
     have h1 := HT.out
     rw [List.take_of_length_le (by simp), List.take_of_length_le (by have := HXL.out; simp; omega)] at h1
     rw [HR.out]; exact decide_eq_true h1
    have HB1 := Lib.hid hb
    clear HT hb hlt
    go_wp2
    go_ret
    exact ⟨by rw [HN.out]; rfl, HB1.out⟩

end Go.Proofs.YtbbbfjcikhpmbaaGreat

/- Walks: Same of projects, the document's and pom's; the conditions stand in the theorems. -/

namespace Go.Proofs.YtbbbfjcikhpmbaaGreat
open Go Go.RowKit

attribute [local go_sem ↓] eqg_prp neq_prp eqg_id neq_id eqg_gav eql_gav
set_option maxRecDepth 100000 in
set_option maxHeartbeats 4000000 in
theorem sameX_any (p q : Pom) (pv mv dv pv2 mv2 dv2 : Value) (w : World) (hp : PomOf w (.agg (pomC p pv mv dv).toArray) p pv mv dv) (hq : PomOf w (.agg (pomC q pv2 mv2 dv2).toArray) q pv2 mv2 dv2)
    (x2 : ∀ d ∈ p.managed, d.excl.length ≤ 140737488355328) (x3 : ∀ d ∈ p.deps, d.excl.length ≤ 140737488355328) (y2 : ∀ d ∈ q.managed, d.excl.length ≤ 140737488355328) (y3 : ∀ d ∈ q.deps, d.excl.length ≤ 140737488355328) :
    Calls Tryz.prog 15 #[.agg (pomC p pv mv dv).toArray, .agg (pomC q pv2 mv2 dv2).toArray] w fun e w' => e = .returned (.bool (decide (p = q))) ∧ Below w.heap.size w w' := by
 obtain ⟨r, hr⟩ : ∃ r, r = decide (p = q) := ⟨_, rfl⟩
 have HR : Hid (r = decide (p = q)) := hr
 rw [← hr]
 clear hr
 obtain ⟨-, p1, p2, p3⟩ := hp
 obtain ⟨-, q1, q2, q3⟩ := hq
 obtain ⟨dh, ⟨dx, dy, dz⟩, dg, da, dv', dk, dp, dm, dd⟩ := p
 obtain ⟨eh, ⟨ex, ey, ez⟩, eg, ea, ev, ek, ep, em, ed⟩ := q
 simp only [Pom.mk.injEq, Gav.mk.injEq] at HR
 simp only [pomC]
 simp only at p1 p2 p3 q1 q2 q3 x2 x3 y2 y3
 obtain ⟨ao1, cap1, rfl⟩ := p1.shape
 obtain ⟨ao2, cap2, rfl⟩ := p2.shape
 obtain ⟨ao3, cap3, rfl⟩ := p3.shape
 obtain ⟨ao4, cap4, rfl⟩ := q1.shape
 obtain ⟨ao5, cap5, rfl⟩ := q2.shape
 obtain ⟨ao6, cap6, rfl⟩ := q3.shape
 have H1 : Hid (∀ W, Below w.heap.size w W → Calls Tryz.prog 48 #[.slice ao1 dp.length cap1, .slice ao4 ep.length cap4] W fun e w' => e = .returned (.bool (decide (dp = ep))) ∧ Below W.heap.size W w') := fun W h => sameProps_any dp ep _ _ W (p1.below h) (q1.below h)
 have H2 : Hid (∀ W, Below w.heap.size w W → Calls Tryz.prog 49 #[.slice ao2 dm.length cap2, .slice ao5 em.length cap5] W fun e w' => e = .returned (.bool (decide (dm = em))) ∧ Below W.heap.size W w') := fun W h => sameDepsX_any dm em _ _ W (p2.below h) (q2.below h) x2 y2
 have H3 : Hid (∀ W, Below w.heap.size w W → Calls Tryz.prog 49 #[.slice ao3 dd.length cap3, .slice ao6 ed.length cap6] W fun e w' => e = .returned (.bool (decide (dd = ed))) ∧ Below W.heap.size W w') := fun W h => sameDepsX_any dd ed _ _ W (p3.below h) (q3.below h) x3 y3
 have HBB : Hid (∀ o1 o2, Below w.heap.size w ((w.alloc o1).alloc o2)) := fun o1 o2 => ((Below.refl _ _).alloc (Nat.le_refl _) _).alloc (by simp) _
 clear p1 p2 p3 q1 q2 q3 x2 x3 y2 y3
 by_cases hh : dh = eh
 rotate_left
 · have HN : Hid (r = false) := by show _ = _; rw [HR.out]; exact decide_eq_false (fun h => hh h.1)
   have hb : (dh == eh) = false := beq_eq_false_iff_ne.2 hh
   clear hh HR H1 H2 H3
   go_enter Tryz.func15, Tryz.ntmps15
   go_wp2
   go_ret
   exact ⟨by rw [HN.out]; rfl, HBB.out _ _⟩
 subst hh
 by_cases hx : dx = ex
 rotate_left
 · have HN : Hid (r = false) := by show _ = _; rw [HR.out]; exact decide_eq_false (fun h => hx h.2.1.1)
   have hb : decide (dx = ex) = false := decide_eq_false hx
   clear hx HR H1 H2 H3
   go_enter Tryz.func15, Tryz.ntmps15
   go_wp2
   go_ret
   exact ⟨by rw [HN.out]; rfl, HBB.out _ _⟩
 subst hx
 by_cases hy : dy = ey
 rotate_left
 · have HN : Hid (r = false) := by show _ = _; rw [HR.out]; exact decide_eq_false (fun h => hy h.2.1.2.1)
   have hb : decide (dy = ey) = false := decide_eq_false hy
   clear hy HR H1 H2 H3
   go_enter Tryz.func15, Tryz.ntmps15
   go_wp2
   go_ret
   exact ⟨by rw [HN.out]; rfl, HBB.out _ _⟩
 subst hy
 by_cases hz : dz = ez
 rotate_left
 · have HN : Hid (r = false) := by show _ = _; rw [HR.out]; exact decide_eq_false (fun h => hz h.2.1.2.2)
   have hb : decide (dz = ez) = false := decide_eq_false hz
   clear hz HR H1 H2 H3
   go_enter Tryz.func15, Tryz.ntmps15
   go_wp2
   go_ret
   exact ⟨by rw [HN.out]; rfl, HBB.out _ _⟩
 subst hz
 by_cases hg : dg = eg
 rotate_left
 · have HN : Hid (r = false) := by show _ = _; rw [HR.out]; exact decide_eq_false (fun h => hg h.2.2.1)
   have hb : (dg.toList == eg.toList) = false := by rw [str_beq]; exact decide_eq_false hg
   clear hg HR H1 H2 H3
   go_enter Tryz.func15, Tryz.ntmps15
   go_wp2
   go_ret
   exact ⟨by rw [HN.out]; rfl, HBB.out _ _⟩
 subst hg
 by_cases ha : da = ea
 rotate_left
 · have HN : Hid (r = false) := by show _ = _; rw [HR.out]; exact decide_eq_false (fun h => ha h.2.2.2.1)
   have hb : (da.toList == ea.toList) = false := by rw [str_beq]; exact decide_eq_false ha
   clear ha HR H1 H2 H3
   go_enter Tryz.func15, Tryz.ntmps15
   go_wp2
   go_ret
   exact ⟨by rw [HN.out]; rfl, HBB.out _ _⟩
 subst ha
 by_cases hv : dv' = ev
 rotate_left
 · have HN : Hid (r = false) := by show _ = _; rw [HR.out]; exact decide_eq_false (fun h => hv h.2.2.2.2.1)
   have hb : (dv'.toList == ev.toList) = false := by rw [str_beq]; exact decide_eq_false hv
   clear hv HR H1 H2 H3
   go_enter Tryz.func15, Tryz.ntmps15
   go_wp2
   go_ret
   exact ⟨by rw [HN.out]; rfl, HBB.out _ _⟩
 subst hv
 by_cases hk : dk = ek
 rotate_left
 · have HN : Hid (r = false) := by show _ = _; rw [HR.out]; exact decide_eq_false (fun h => hk h.2.2.2.2.2.1)
   have hb : (dk.toList == ek.toList) = false := by rw [str_beq]; exact decide_eq_false hk
   clear hk HR H1 H2 H3
   go_enter Tryz.func15, Tryz.ntmps15
   go_wp2
   go_ret
   exact ⟨by rw [HN.out]; rfl, HBB.out _ _⟩
 subst hk
 have HRX : Hid (r = (decide (dp = ep) && (decide (dm = em) && decide (dd = ed)))) := by show _ = _; rw [HR.out]; simp
 clear HR
 obtain ⟨b1, h1⟩ : ∃ b, b = decide (dp = ep) := ⟨_, rfl⟩
 obtain ⟨b2, h2⟩ : ∃ b, b = decide (dm = em) := ⟨_, rfl⟩
 obtain ⟨b3, h3⟩ : ∃ b, b = decide (dd = ed) := ⟨_, rfl⟩
 rw [← h1] at H1
 rw [← h2] at H2
 rw [← h3] at H3
 rw [← h1, ← h2, ← h3] at HRX
 clear h1 h2 h3
 have hd0 : (dh == dh) = true := by simp
 go_enter Tryz.func15, Tryz.ntmps15
 go_upto_region 1 with fail
 refine wp_world ?_
 intro W hW
 have x1 : Box W w.heap.size [.bool dh, .string dx, .string dy, .string dz, .string dg, .string da, .string dv', .string dk, .slice ao1 dp.length cap1, .slice ao2 dm.length cap2, .slice ao3 dd.length cap3] := by rw [hW]; exact (Box.new w [.bool dh, .string dx, .string dy, .string dz, .string dg, .string da, .string dv', .string dk, .slice ao1 dp.length cap1, .slice ao2 dm.length cap2, .slice ao3 dd.length cap3] _ _ rfl).alloc _
 have x2 : Box W (w.heap.size + 1) [.bool dh, .string dx, .string dy, .string dz, .string dg, .string da, .string dv', .string dk, .slice ao4 ep.length cap4, .slice ao5 em.length cap5, .slice ao6 ed.length cap6] := by rw [hW]; exact Box.new _ [.bool dh, .string dx, .string dy, .string dz, .string dg, .string da, .string dv', .string dk, .slice ao4 ep.length cap4, .slice ao5 em.length cap5, .slice ao6 ed.length cap6] _ _ (by simp)
 have hb : Below w.heap.size w W := by rw [hW]; exact HBB.out _ _
 clear hW HBB
 have HX1 := Lib.hid x1
 have HX2 := Lib.hid x2
 have HB := Lib.hid hb
 clear x1 x2 hb
 have c0 := HX1.out.cell 0 _ rfl
 have d0 := HX2.out.cell 0 _ rfl
 have c1 := HX1.out.cell 1 _ rfl
 have d1 := HX2.out.cell 1 _ rfl
 have c2 := HX1.out.cell 2 _ rfl
 have d2 := HX2.out.cell 2 _ rfl
 have c3 := HX1.out.cell 3 _ rfl
 have d3 := HX2.out.cell 3 _ rfl
 have c4 := HX1.out.cell 4 _ rfl
 have d4 := HX2.out.cell 4 _ rfl
 have c5 := HX1.out.cell 5 _ rfl
 have d5 := HX2.out.cell 5 _ rfl
 have c6 := HX1.out.cell 6 _ rfl
 have d6 := HX2.out.cell 6 _ rfl
 have c7 := HX1.out.cell 7 _ rfl
 have d7 := HX2.out.cell 7 _ rfl
 have c8 := HX1.out.cell 8 _ rfl
 have d8 := HX2.out.cell 8 _ rfl
 have c9 := HX1.out.cell 9 _ rfl
 have d9 := HX2.out.cell 9 _ rfl
 have c10 := HX1.out.cell 10 _ rfl
 have d10 := HX2.out.cell 10 _ rfl
 have cl := HX1.out.lt
 have dl := HX2.out.lt
 go_wp2_with fail
 refine (H1.out _ HB.out).mono ?_
 rintro e w1 ⟨rfl, hb1⟩
 clear c0 d0 c1 d1 c2 d2 c3 d3 c4 d4 c5 d5 c6 d6 c7 d7 c8 d8 c9 d9 c10 d10 cl dl
 have HX1' := Lib.hid (HX1.out.below hb1 HX1.out.lt)
 have HX2' := Lib.hid (HX2.out.below hb1 HX2.out.lt)
 have HB' := Lib.hid (HB.out.trans (hb1.mono HB.out.size))
 clear hb1 HX1 HX2 HB H1
 have HX1 := HX1'
 have HX2 := HX2'
 have HB := HB'
 clear HX1' HX2' HB'
 have c0 := HX1.out.cell 0 _ rfl
 have d0 := HX2.out.cell 0 _ rfl
 have c1 := HX1.out.cell 1 _ rfl
 have d1 := HX2.out.cell 1 _ rfl
 have c2 := HX1.out.cell 2 _ rfl
 have d2 := HX2.out.cell 2 _ rfl
 have c3 := HX1.out.cell 3 _ rfl
 have d3 := HX2.out.cell 3 _ rfl
 have c4 := HX1.out.cell 4 _ rfl
 have d4 := HX2.out.cell 4 _ rfl
 have c5 := HX1.out.cell 5 _ rfl
 have d5 := HX2.out.cell 5 _ rfl
 have c6 := HX1.out.cell 6 _ rfl
 have d6 := HX2.out.cell 6 _ rfl
 have c7 := HX1.out.cell 7 _ rfl
 have d7 := HX2.out.cell 7 _ rfl
 have c8 := HX1.out.cell 8 _ rfl
 have d8 := HX2.out.cell 8 _ rfl
 have c9 := HX1.out.cell 9 _ rfl
 have d9 := HX2.out.cell 9 _ rfl
 have c10 := HX1.out.cell 10 _ rfl
 have d10 := HX2.out.cell 10 _ rfl
 have cl := HX1.out.lt
 have dl := HX2.out.lt
 cases b1 with
 | false =>
  go_wp2
  go_ret
  exact ⟨by rw [HRX.out]; rfl, HB.out⟩
 | true =>
  go_wp2_with fail
  refine (H2.out _ HB.out).mono ?_
  rintro e w2 ⟨rfl, hb1⟩
  clear c0 d0 c1 d1 c2 d2 c3 d3 c4 d4 c5 d5 c6 d6 c7 d7 c8 d8 c9 d9 c10 d10 cl dl
  have HX1' := Lib.hid (HX1.out.below hb1 HX1.out.lt)
  have HX2' := Lib.hid (HX2.out.below hb1 HX2.out.lt)
  have HB' := Lib.hid (HB.out.trans (hb1.mono HB.out.size))
  clear hb1 HX1 HX2 HB H2
  have HX1 := HX1'
  have HX2 := HX2'
  have HB := HB'
  clear HX1' HX2' HB'
  have c0 := HX1.out.cell 0 _ rfl
  have d0 := HX2.out.cell 0 _ rfl
  have c1 := HX1.out.cell 1 _ rfl
  have d1 := HX2.out.cell 1 _ rfl
  have c2 := HX1.out.cell 2 _ rfl
  have d2 := HX2.out.cell 2 _ rfl
  have c3 := HX1.out.cell 3 _ rfl
  have d3 := HX2.out.cell 3 _ rfl
  have c4 := HX1.out.cell 4 _ rfl
  have d4 := HX2.out.cell 4 _ rfl
  have c5 := HX1.out.cell 5 _ rfl
  have d5 := HX2.out.cell 5 _ rfl
  have c6 := HX1.out.cell 6 _ rfl
  have d6 := HX2.out.cell 6 _ rfl
  have c7 := HX1.out.cell 7 _ rfl
  have d7 := HX2.out.cell 7 _ rfl
  have c8 := HX1.out.cell 8 _ rfl
  have d8 := HX2.out.cell 8 _ rfl
  have c9 := HX1.out.cell 9 _ rfl
  have d9 := HX2.out.cell 9 _ rfl
  have c10 := HX1.out.cell 10 _ rfl
  have d10 := HX2.out.cell 10 _ rfl
  have cl := HX1.out.lt
  have dl := HX2.out.lt
  cases b2 with
  | false =>
   go_wp2
   go_ret
   exact ⟨by rw [HRX.out]; simp, HB.out⟩
  | true =>
   go_wp2_with fail
   refine (H3.out _ HB.out).mono ?_
   rintro e w3 ⟨rfl, hb1⟩
   clear c0 d0 c1 d1 c2 d2 c3 d3 c4 d4 c5 d5 c6 d6 c7 d7 c8 d8 c9 d9 c10 d10 cl dl
   have HX1' := Lib.hid (HX1.out.below hb1 HX1.out.lt)
   have HX2' := Lib.hid (HX2.out.below hb1 HX2.out.lt)
   have HB' := Lib.hid (HB.out.trans (hb1.mono HB.out.size))
   clear hb1 HX1 HX2 HB H3
   have HX1 := HX1'
   have HX2 := HX2'
   have HB := HB'
   clear HX1' HX2' HB'
   have c0 := HX1.out.cell 0 _ rfl
   have d0 := HX2.out.cell 0 _ rfl
   have c1 := HX1.out.cell 1 _ rfl
   have d1 := HX2.out.cell 1 _ rfl
   have c2 := HX1.out.cell 2 _ rfl
   have d2 := HX2.out.cell 2 _ rfl
   have c3 := HX1.out.cell 3 _ rfl
   have d3 := HX2.out.cell 3 _ rfl
   have c4 := HX1.out.cell 4 _ rfl
   have d4 := HX2.out.cell 4 _ rfl
   have c5 := HX1.out.cell 5 _ rfl
   have d5 := HX2.out.cell 5 _ rfl
   have c6 := HX1.out.cell 6 _ rfl
   have d6 := HX2.out.cell 6 _ rfl
   have c7 := HX1.out.cell 7 _ rfl
   have d7 := HX2.out.cell 7 _ rfl
   have c8 := HX1.out.cell 8 _ rfl
   have d8 := HX2.out.cell 8 _ rfl
   have c9 := HX1.out.cell 9 _ rfl
   have d9 := HX2.out.cell 9 _ rfl
   have c10 := HX1.out.cell 10 _ rfl
   have d10 := HX2.out.cell 10 _ rfl
   have cl := HX1.out.lt
   have dl := HX2.out.lt
   cases b3
   all_goals
    go_wp2
    go_ret
    exact ⟨by rw [HRX.out]; rfl, HB.out⟩

end Go.Proofs.YtbbbfjcikhpmbaaGreat

/- The walk of the law PomBack; the conditions stand in the theorem. -/
namespace Go.Proofs.YtbbbfjcikhpmbaaGreat
open Go Go.RowKit

/-- A reading without error, each cell told. -/
def ReadG (p : Pom) (w : World) (e : Ending) (w' : World) : Prop := ∃ (a1 : Option Addr) (c1 : Nat) (a2 : Option Addr) (c2 : Nat) (a3 : Option Addr) (c3 : Nat),
 e = .returned (.tuple #[.agg #[.bool p.hasParent, .string p.parent.group, .string p.parent.artifact, .string p.parent.version, .string p.group, .string p.artifact, .string p.version, .string p.packaging, .slice a1 p.props.length c1, .slice a2 p.managed.length c2, .slice a3 p.deps.length c3], .int .i64 0, .string ⟨#[]⟩]) ∧ PomOwn w.heap.size w' p (.slice a1 p.props.length c1) (.slice a2 p.managed.length c2) (.slice a3 p.deps.length c3) ∧ Below w.heap.size w w'
theorem ReadOut.good {t : Tr} {p : Pom} {w w' : World} {e : Ending} (h : ReadOut t w e w') (hV : readV t = p) (hE : readE t = none) : ReadG p w e w' := by
 obtain ⟨pv, mv, dv, rfl, ho⟩ := h.2.2 hE
 subst hV
 obtain ⟨a1, c1, rfl⟩ := ho.props.shape
 obtain ⟨L2, h2⟩ := ho.managed
 obtain ⟨a2, c2, hm⟩ := h2.row.shape
 have e2 : L2.length = (readV t).managed.length := by have := congrArg List.length h2.are; simpa using this
 rw [e2] at hm
 subst hm
 obtain ⟨L3, h3⟩ := ho.deps
 obtain ⟨a3, c3, hd⟩ := h3.row.shape
 have e3 : L3.length = (readV t).deps.length := by have := congrArg List.length h3.are; simpa using this
 rw [e3] at hd
 subst hd
 exact ⟨a1, c1, a2, c2, a3, c3, rfl, ho, h.1⟩
/-- A written node, each cell told. -/
def WriteG (N X : S) (t : Tr) (w : World) (e : Ending) (w' : World) : Prop := ∃ (ko : Option Addr) (kc : Nat), e = .returned (.agg #[.string N, .slice none 0 0, .slice ko t.kids.length kc, .string X]) ∧ NodeOf w' t (.slice none 0 0) (.slice ko t.kids.length kc) ∧ Below w.heap.size w w'
theorem WriteP.good {t : Tr} {w w' : World} {e : Ending} (h : WriteP t w e w') : WriteG (bs t.name) (bs t.text) t w e w' := by
 obtain ⟨kv, rfl, hn, hb⟩ := h
 obtain ⟨-, -, ko, kc, -, rfl, -, -⟩ := hn.shape
 exact ⟨ko, kc, rfl, hn, hb⟩

end Go.Proofs.YtbbbfjcikhpmbaaGreat

/- The walk of the law PomTwice; the conditions stand in the theorem. -/
namespace Go.Proofs.YtbbbfjcikhpmbaaGreat
open Go Go.RowKit

theorem lit_cells (w : World) (cs : List Value) (T : TypeId) : ∀ j u, cs[j]? = some u → (w.alloc (.cells cs.toArray T)).cell? ⟨w.heap.size, j, none⟩ = some u := fun j u h => by
 rw [cell_of_row _ w.heap.size j _ T (0, 0) (heap_alloc_new w _)]; simpa using h

end Go.Proofs.YtbbbfjcikhpmbaaGreat
