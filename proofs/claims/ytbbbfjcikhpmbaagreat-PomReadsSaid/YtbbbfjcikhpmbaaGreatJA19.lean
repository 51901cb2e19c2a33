/- Walks: the document's Same of dependencies, at any two; the conditions stand in the theorems. -/
import Derived.Test.YtbbbfjcikhpmbaaGreatProg
import Derived.Test.YtbbbfjcikhpmbaaGreatJA18
import Derived.Deep.RegionHeld3
import Derived.StillTailTactics
import Derived.Test.YtbbbfjcikhpmbaaGreatJA02
import Derived.Deep.Cut
import Derived.Test.YtbbbfjcikhpmbaaGreatJA01
import Derived.Test.YtbbbfjcikhpmbaaGreatJA13
import Derived.Test.YtbbbfjcikhpmbaaGreatJA11
import Derived.Test.YtbbbfjcikhpmbaaGreatJA08
import Derived.Test.YtbbbfjcikhpmbaaGreatJA05
import Derived.Test.YtbbbfjcikhpmbaaGreatJA14
import Derived.Test.YtbbbfjcikhpmbaaGreatJA12
import Derived.Test.YtbbbfjcikhpmbaaGreatJA06
import Derived.Deep.CutBlock
namespace Go.Proofs.YtbbbfjcikhpmbaaGreat
open Go Go.RowKit

attribute [local go_sem ↓] eqg_prp neq_prp eqg_id neq_id eqg_gav eql_gav
set_option maxRecDepth 100000 in
set_option maxHeartbeats 4000000 in
theorem sameDepX_any (d d2 : Dep) (ex ex2 : Value) (w : World) (hx : SliceOf 2 idC w ex d.excl) (hy : SliceOf 2 idC w ex2 d2.excl) (hl : d.excl.length ≤ 140737488355328) (hl2 : d2.excl.length ≤ 140737488355328) :
    Calls Tryz.prog 23 #[.agg (depC (d, ex)).toArray, .agg (depC (d2, ex2)).toArray] w fun e w' => e = .returned (.bool (decide (d = d2))) ∧ Below w.heap.size w w' := by
 have HD : Hid (∀ b, b = decide (d = d2) → b = decide (d = d2)) := fun _ h => h
 obtain ⟨r, hr⟩ : ∃ r, r = decide (d = d2) := ⟨_, rfl⟩
 have HR : Hid (r = decide (d = d2)) := hr
 rw [← hr]
 clear hr HD
 obtain ⟨dg, da, dv, dt, dc, ds, dp, dx⟩ := d
 obtain ⟨eg, ea, ev, et, ec, es, ep, xx⟩ := d2
 simp only [Dep.mk.injEq] at HR
 simp only [depC]
 obtain ⟨ao, cap, rfl⟩ := hx.shape
 obtain ⟨ao2, cap2, rfl⟩ := hy.shape
 simp only at hx hy hl hl2
 have HX := Lib.hid hx
 have HY := Lib.hid hy
 have HBB : Hid (∀ o1 o2, Below w.heap.size w ((w.alloc o1).alloc o2)) := fun o1 o2 => ((Below.refl _ _).alloc (Nat.le_refl _) _).alloc (by simp) _
 clear hx hy
 by_cases hg : dg = eg
 rotate_left
 · have HN : Hid (r = false) := by show _ = _; rw [HR.out]; exact decide_eq_false (fun h => hg h.1)
   have hb : (dg.toList == eg.toList) = false := by rw [str_beq]; exact decide_eq_false hg
   clear hg HR HX HY
   go_enter Tryz.func23, Tryz.ntmps23
   go_wp2
   go_ret
   exact ⟨by rw [HN.out]; rfl, HBB.out _ _⟩
 subst hg
 by_cases ha : da = ea
 rotate_left
 · have HN : Hid (r = false) := by show _ = _; rw [HR.out]; exact decide_eq_false (fun h => ha h.2.1)
   have hb : (da.toList == ea.toList) = false := by rw [str_beq]; exact decide_eq_false ha
   clear ha HR HX HY
   go_enter Tryz.func23, Tryz.ntmps23
   go_wp2
   go_ret
   exact ⟨by rw [HN.out]; rfl, HBB.out _ _⟩
 subst ha
 by_cases hv : dv = ev
 rotate_left
 · have HN : Hid (r = false) := by show _ = _; rw [HR.out]; exact decide_eq_false (fun h => hv h.2.2.1)
   have hb : (dv.toList == ev.toList) = false := by rw [str_beq]; exact decide_eq_false hv
   clear hv HR HX HY
   go_enter Tryz.func23, Tryz.ntmps23
   go_wp2
   go_ret
   exact ⟨by rw [HN.out]; rfl, HBB.out _ _⟩
 subst hv
 by_cases ht : dt = et
 rotate_left
 · have HN : Hid (r = false) := by show _ = _; rw [HR.out]; exact decide_eq_false (fun h => ht h.2.2.2.1)
   have hb : (dt.toList == et.toList) = false := by rw [str_beq]; exact decide_eq_false ht
   clear ht HR HX HY
   go_enter Tryz.func23, Tryz.ntmps23
   go_wp2
   go_ret
   exact ⟨by rw [HN.out]; rfl, HBB.out _ _⟩
 subst ht
 by_cases hc : dc = ec
 rotate_left
 · have HN : Hid (r = false) := by show _ = _; rw [HR.out]; exact decide_eq_false (fun h => hc h.2.2.2.2.1)
   have hb : (dc.toList == ec.toList) = false := by rw [str_beq]; exact decide_eq_false hc
   clear hc HR HX HY
   go_enter Tryz.func23, Tryz.ntmps23
   go_wp2
   go_ret
   exact ⟨by rw [HN.out]; rfl, HBB.out _ _⟩
 subst hc
 by_cases hs : ds = es
 rotate_left
 · have HN : Hid (r = false) := by show _ = _; rw [HR.out]; exact decide_eq_false (fun h => hs h.2.2.2.2.2.1)
   have hb : (ds == es) = false := beq_eq_false_iff_ne.2 hs
   have hb2 : (ds != es) = true := by rw [bne, hb]; rfl
   clear hs HR HX HY
   go_enter Tryz.func23, Tryz.ntmps23
   go_wp2
   go_ret
   exact ⟨by rw [HN.out]; rfl, HBB.out _ _⟩
 subst hs
 by_cases hp : dp = ep
 rotate_left
 · have HN : Hid (r = false) := by show _ = _; rw [HR.out]; exact decide_eq_false (fun h => hp h.2.2.2.2.2.2.1)
   have hb : (dp == ep) = false := beq_eq_false_iff_ne.2 hp
   have hb2 : (dp != ep) = true := by rw [bne, hb]; rfl
   clear hp HR HX HY
   go_enter Tryz.func23, Tryz.ntmps23
   go_wp2
   go_ret
   exact ⟨by rw [HN.out]; rfl, HBB.out _ _⟩
 subst hp
 by_cases hxl : dx.length = xx.length
 rotate_left
 · have HN : Hid (r = false) := by show _ = _; rw [HR.out]; exact decide_eq_false (fun h => hxl (congrArg List.length h.2.2.2.2.2.2.2))
   have hb : ((dx.length : Int) == (xx.length : Int)) = false := beq_eq_false_iff_ne.2 (by omega)
   have hb2 : (dx.length == xx.length) = false := beq_eq_false_iff_ne.2 hxl
   have hb3 : ((dx.length : Int) != (xx.length : Int)) = true := by rw [bne, hb]; rfl
   clear hxl HR HX HY
   go_enter Tryz.func23, Tryz.ntmps23
   go_wp2
   go_ret
   exact ⟨by rw [HN.out]; rfl, HBB.out _ _⟩
 have HRX : Hid (r = decide (dx = xx)) := by show _ = _; rw [HR.out]; simp
 rw [← hxl] at HY ⊢
 have HXL := Lib.hid hxl
 clear HR hxl
 go_enter Tryz.func23, Tryz.ntmps23
 go_wp2
 go_loopw [65] (fun i wr => ∃ k : Nat, k ≤ dx.length ∧ i = .int .i64 k ∧ Hid (dx.take k = xx.take k) ∧ Below w.heap.size w wr ∧ Box wr w.heap.size [.string dg, .string da, .string dv, .string dt, .string dc, .int .i64 ds, .int .i64 dp, .slice ao dx.length cap] ∧ Box wr (w.heap.size + 1) [.string dg, .string da, .string dv, .string dt, .string dc, .int .i64 ds, .int .i64 dp, .slice ao2 dx.length cap2]) (fun i _ => dx.length - (intOf i).toNat)
 case atStart => exact ⟨0, Nat.zero_le _, rfl, rfl, HBB.out _ _, (Box.new w _ _ _ rfl).alloc _, Box.new _ _ _ _ (by simp)⟩
 case round =>
  obtain ⟨k, hk, rfl, HT, hb, hx1, hx2⟩ := hrel
  by_cases hlt : k < dx.length
  · have c7 := hx1.cell 7 _ rfl
    have d7 := hx2.cell 7 _ rfl
    have hlt2 : k < xx.length := by have := HXL.out; omega
    obtain ⟨b, o', rfl, -, h0, h1⟩ := (HX.out.below hb).atId hlt
    have hyy := HY.out.below hb
    rw [HXL.out] at hyy
    obtain ⟨b2, o2', rfl, -, h2, h3⟩ := hyy.atId hlt2
    have HTK : Hid (dx[k] = xx[k] → dx.take (k + 1) = xx.take (k + 1)) := fun h => by rw [List.take_succ_eq_append_getElem hlt, List.take_succ_eq_append_getElem hlt2, HT.out, h]
    have HNE : Hid (dx[k] ≠ xx[k] → r = false) := fun h => by rw [HRX.out]; exact decide_eq_false fun e => h (by simp only [e])
    have HB1 := Lib.hid hb
    have HK1 := Lib.hid hx1
    have HK2 := Lib.hid hx2
    clear HT hyy hb hx1 hx2
    generalize dx[k] = y at *
    generalize xx[k] = z at *
    obtain ⟨y1, y2⟩ := y
    obtain ⟨z1, z2⟩ := z
    simp only at h0 h1 h2 h3
    by_cases e1 : y1 = z1
    · subst e1
      by_cases e2 : y2 = z2
      · subst e2
        have HT2 := Lib.hid (HTK.out rfl)
        clear HTK HNE
        go_wp2
        go_quiet (fail)
        go_wp2
        go_roundw
        case rel => exact ⟨k + 1, by omega, by go_num, HT2.out, below_drewN HB1.out _, HK1.out.drewN _, HK2.out.drewN _⟩
        case measure => simp [intOf]; omega
      · have HN := Lib.hid (HNE.out (fun h => e2 (by injection h)))
        have hd : decide (y2 = z2) = false := decide_eq_false e2
        clear HTK HNE e2
        go_wp2
        go_quiet (fail)
        go_wp2
        go_ret
        exact ⟨by rw [HN.out]; rfl, below_drewN HB1.out _⟩
    · have HN := Lib.hid (HNE.out (fun h => e1 (by injection h)))
      have hd : decide (y1 = z1) = false := decide_eq_false e1
      clear HTK HNE e1
      go_wp2
      go_quiet (fail)
      go_wp2
      go_ret
      exact ⟨by rw [HN.out]; rfl, below_drewN HB1.out _⟩
  · obtain rfl : k = dx.length := by omega
    have HN : Hid (r = true) := by
     show _ = _
     have h1 := HT.out
     rw [List.take_length, HXL.out, List.take_length] at h1
     rw [HRX.out]; exact decide_eq_true h1
    have HB1 := Lib.hid hb
    clear HT hb hx1 hx2 hlt
    go_wp2
    go_ret
    exact ⟨by rw [HN.out]; rfl, HB1.out⟩

end Go.Proofs.YtbbbfjcikhpmbaaGreat

/- Walks: rows of properties, ids, dependencies compared, by the document and by slices.Equal, EqualFunc; pom.SameDep; the conditions stand in the theorems. -/
namespace Go.Proofs.YtbbbfjcikhpmbaaGreat
open Go Go.RowKit

attribute [local go_sem ↓] eqg_prp neq_prp eqg_id neq_id eqg_gav eql_gav
set_option maxHeartbeats 2000000 in
theorem sameProps_any (l m : List Prp) (v u : Value) (w : World) (hs : SliceOf 2 prpC w v l) (hm : SliceOf 2 prpC w u m) :
    Calls Tryz.prog 48 #[v, u] w fun e w' => e = .returned (.bool (decide (l = m))) ∧ Below w.heap.size w w' := by
 have hll : l.length ≤ 9223372036854775807 := by obtain ⟨a, c, e, h2, h3, -⟩ := hs; exact Nat.le_trans h2 (Nat.le_trans h3 (by decide))
 have hlm : m.length ≤ 9223372036854775807 := by obtain ⟨a, c, e, h2, h3, -⟩ := hm; exact Nat.le_trans h2 (Nat.le_trans h3 (by decide))
 obtain ⟨ao, cap, rfl⟩ := hs.shape
 obtain ⟨ao2, cap2, rfl⟩ := hm.shape
 obtain ⟨r, hr⟩ : ∃ r, r = decide (l = m) := ⟨_, rfl⟩
 have HR : Hid (r = decide (l = m)) := hr
 have HX := Lib.hid hs
 have HY := Lib.hid hm
 rw [← hr]
 clear hr hs hm
 by_cases hxl : l.length = m.length
 rotate_left
 · have HN : Hid (r = false) := by show _ = _; rw [HR.out]; exact decide_eq_false (fun h => hxl (congrArg List.length h))
   have hb : ((l.length : Int) == (m.length : Int)) = false := beq_eq_false_iff_ne.2 (by omega)
   have hb2 : (l.length == m.length) = false := beq_eq_false_iff_ne.2 hxl
   have hb3 : ((l.length : Int) != (m.length : Int)) = true := by rw [bne, hb]; rfl
   clear hxl HR HX HY
   go_enter Tryz.func48, Tryz.ntmps48
   go_wp2
   go_ret
   exact ⟨by rw [HN.out]; rfl, Below.refl _ _⟩
 rw [← hxl] at HY ⊢
 have HXL := Lib.hid hxl
 clear hxl hlm
 go_enter Tryz.func48, Tryz.ntmps48
 go_wp2
 go_loopw [13] (fun i wr => ∃ k : Nat, k ≤ l.length ∧ i = .int .i64 k ∧ Hid (l.take k = m.take k) ∧ Below w.heap.size w wr) (fun i _ => l.length - (intOf i).toNat)
 case atStart => exact ⟨0, Nat.zero_le _, rfl, rfl, Below.refl _ _⟩
 case round =>
  obtain ⟨k, hk, rfl, HT, hb⟩ := hrel
  by_cases hlt : k < l.length
  · have hlt2 : k < m.length := by have := HXL.out; omega
    obtain ⟨b, o', rfl, -, h0, h1⟩ := (HX.out.below hb).atPrp hlt
    have hyy := HY.out.below hb
    rw [HXL.out] at hyy
    obtain ⟨b2, o2', rfl, -, h2, h3⟩ := hyy.atPrp hlt2
    have HTK : Hid (l[k] = m[k] → l.take (k + 1) = m.take (k + 1)) := fun h => by rw [List.take_succ_eq_append_getElem hlt, List.take_succ_eq_append_getElem hlt2, HT.out, h]
    have HNE : Hid (l[k] ≠ m[k] → r = false) := fun h => by rw [HR.out]; exact decide_eq_false fun e => h (by simp only [e])
    have HB1 := Lib.hid hb
    clear HT hyy hb
    generalize l[k] = y at *
    generalize m[k] = z at *
    obtain ⟨y1, y2⟩ := y
    obtain ⟨z1, z2⟩ := z
    simp only at h0 h1 h2 h3
    by_cases e1 : y1 = z1
    · subst e1
      by_cases e2 : y2 = z2
      · subst e2
        have HT2 := Lib.hid (HTK.out rfl)
        clear HTK HNE
        go_wp2
        go_quiet (fail)
        go_wp2
        go_roundw
        case rel => exact ⟨k + 1, by omega, by go_num, HT2.out, below_drewN HB1.out _⟩
        case measure => simp [intOf]; omega
      · have HN := Lib.hid (HNE.out (fun h => e2 (by injection h)))
        have hd : decide (y2 = z2) = false := decide_eq_false e2
        clear HTK HNE e2
        go_wp2
        go_quiet (fail)
        go_wp2
        go_ret
        exact ⟨by rw [HN.out]; rfl, below_drewN HB1.out _⟩
    · have HN := Lib.hid (HNE.out (fun h => e1 (by injection h)))
      have hd : decide (y1 = z1) = false := decide_eq_false e1
      clear HTK HNE e1
      go_wp2
      go_quiet (fail)
      go_wp2
      go_ret
      exact ⟨by rw [HN.out]; rfl, below_drewN HB1.out _⟩
  · obtain rfl : k = l.length := by omega
    have HN : Hid (r = true) := by
     show _ = _
     have h1 := HT.out
     rw [List.take_length, HXL.out, List.take_length] at h1
     rw [HR.out]; exact decide_eq_true h1
    have HB1 := Lib.hid hb
    clear HT hb hlt
    go_wp2
    go_ret
    exact ⟨by rw [HN.out]; rfl, HB1.out⟩
set_option maxRecDepth 100000 in
set_option maxHeartbeats 4000000 in
theorem sameDepsX_any (ds es : List Dep) (v u : Value) (w : World) (hv : DepsOf w v ds) (hu : DepsOf w u es) (hxl : ∀ d ∈ ds, d.excl.length ≤ 140737488355328) (hyl : ∀ d ∈ es, d.excl.length ≤ 140737488355328) :
    Calls Tryz.prog 49 #[v, u] w fun e w' => e = .returned (.bool (decide (ds = es))) ∧ Below w.heap.size w w' := by
 obtain ⟨r, hr⟩ : ∃ r, r = decide (ds = es) := ⟨_, rfl⟩
 have HR0 : Hid (r = decide (ds = es)) := hr
 rw [← hr]
 clear hr
 obtain ⟨l, hel, hs, hso⟩ := hv
 obtain ⟨m, hem, hm, hmo⟩ := hu
 have HXX : Hid (∀ q ∈ l, q.1.excl.length ≤ 140737488355328) := fun q hq => hxl _ (by rw [← hel]; exact List.mem_map.2 ⟨q, hq, rfl⟩)
 have HYX : Hid (∀ q ∈ m, q.1.excl.length ≤ 140737488355328) := fun q hq => hyl _ (by rw [← hem]; exact List.mem_map.2 ⟨q, hq, rfl⟩)
 have HR : Hid (r = decide (l.map (·.1) = m.map (·.1))) := by show _ = _; rw [HR0.out, hel, hem]
 have hll : l.length ≤ 9223372036854775807 := by obtain ⟨a, c, e, h2, h3, -⟩ := hs; exact Nat.le_trans h2 (Nat.le_trans h3 (by decide))
 have hlm : m.length ≤ 9223372036854775807 := by obtain ⟨a, c, e, h2, h3, -⟩ := hm; exact Nat.le_trans h2 (Nat.le_trans h3 (by decide))
 obtain ⟨ao, cap, rfl⟩ := hs.shape
 obtain ⟨ao2, cap2, rfl⟩ := hm.shape
 have HX := Lib.hid hs
 have HY := Lib.hid hm
 have HXO := Lib.hid hso
 have HYO := Lib.hid hmo
 clear hel hem hs hm hso hmo hxl hyl HR0
 by_cases hxl : l.length = m.length
 rotate_left
 · have HN : Hid (r = false) := by show _ = _; rw [HR.out]; exact decide_eq_false (fun h => hxl (by simpa using congrArg List.length h))
   have hb : ((l.length : Int) == (m.length : Int)) = false := beq_eq_false_iff_ne.2 (by omega)
   have hb2 : (l.length == m.length) = false := beq_eq_false_iff_ne.2 hxl
   have hb3 : ((l.length : Int) != (m.length : Int)) = true := by rw [bne, hb]; rfl
   clear hxl HR HX HY HXO HYO HXX HYX
   go_enter Tryz.func49, Tryz.ntmps49
   go_wp2
   go_ret
   exact ⟨by rw [HN.out]; rfl, Below.refl _ _⟩
 rw [← hxl] at HY ⊢
 have HXL := Lib.hid hxl
 clear hxl hlm
 go_enter Tryz.func49, Tryz.ntmps49
 go_wp2
 go_loopw [13] (fun i wr => ∃ k : Nat, k ≤ l.length ∧ i = .int .i64 k ∧ Hid ((l.map (·.1)).take k = (m.map (·.1)).take k) ∧ Below w.heap.size w wr) (fun i _ => l.length - (intOf i).toNat)
 case atStart => exact ⟨0, Nat.zero_le _, rfl, rfl, Below.refl _ _⟩
 case round =>
  obtain ⟨k, hk, rfl, HT, hb⟩ := hrel
  by_cases hlt : k < l.length
  · have hlt2 : k < m.length := by have := HXL.out; omega
    obtain ⟨b, o', rfl, hg1, c0, c1, c2, c3, c4, c5, c6, c7⟩ := (HX.out.below hb).atDep hlt
    have hyy := HY.out.below hb
    rw [HXL.out] at hyy
    obtain ⟨b2, o2', rfl, hg2, d0, d1, d2, d3, d4, d5, d6, d7⟩ := hyy.atDep hlt2
    have HTK : Hid (l[k].1 = m[k].1 → (l.map (·.1)).take (k + 1) = (m.map (·.1)).take (k + 1)) := fun h => by rw [List.take_succ_eq_append_getElem (by simpa using hlt), List.take_succ_eq_append_getElem (by simpa using hlt2), HT.out, List.getElem_map, List.getElem_map, h]
    have HNE : Hid (l[k].1 ≠ m[k].1 → r = false) := fun h => by
     rw [HR.out]
     refine decide_eq_false fun e => h ?_
     have h1 := congrArg (·[k]?) e
     simpa [hlt, hlt2] using h1
    have hok := (HXO.out l[k] (List.getElem_mem hlt)).below hb
    have hok2 := (HYO.out m[k] (List.getElem_mem hlt2)).below hb
    have HLX := Lib.hid (HXX.out l[k] (List.getElem_mem hlt))
    have HLY := Lib.hid (HYX.out m[k] (List.getElem_mem hlt2))
    have HB1 := Lib.hid hb
    have hsr := hb.size
    clear HT hyy hb
    generalize l[k] = q at *
    generalize m[k] = q2 at *
    obtain ⟨qd, qx⟩ := q
    obtain ⟨qd2, qx2⟩ := q2
    obtain ⟨ao4, cap4, rfl⟩ := hok.shape
    obtain ⟨ao5, cap5, rfl⟩ := hok2.shape
    have HOK := Lib.hid hok
    have HOK2 := Lib.hid hok2
    simp only at c0 c1 c2 c3 c4 c5 c6 c7 d0 d1 d2 d3 d4 d5 d6 d7
    have HSD : Hid (∀ W, Below wr.heap.size wr W → Calls Tryz.prog 23 #[.agg #[.string qd.group, .string qd.artifact, .string qd.version, .string qd.type, .string qd.classifier, .int .i64 qd.scope, .int .i64 qd.opt, .slice ao4 qd.excl.length cap4], .agg #[.string qd2.group, .string qd2.artifact, .string qd2.version, .string qd2.type, .string qd2.classifier, .int .i64 qd2.scope, .int .i64 qd2.opt, .slice ao5 qd2.excl.length cap5]] W fun e w' => e = .returned (.bool (decide (qd = qd2))) ∧ Below W.heap.size W w') := fun W h => sameDepX_any qd qd2 _ _ W (HOK.out.below h) (HOK2.out.below h) HLX.out HLY.out
    clear hok hok2
    obtain ⟨q, hq⟩ : ∃ q, q = decide (qd = qd2) := ⟨_, rfl⟩
    rw [← hq] at HSD
    have HQ := Lib.hid hq
    clear hq
    go_wp2
    go_still_tail 8, (by kernel_rfl)
    change wpList _ _ _ _ _ wr.drew
    go_wp2_with fail
    refine (HSD.out _ (below_drewN (Below.refl wr.heap.size wr) 1)).mono ?_
    rintro e w7 ⟨rfl, hb7⟩
    have HB7 := Lib.hid (HB1.out.trans (((below_drewN (Below.refl wr.heap.size wr) 1).trans hb7).mono hsr))
    clear hb7 HSD
    cases q with
    | true =>
     have HT2 := Lib.hid (HTK.out (of_decide_eq_true HQ.out.symm))
     clear HTK HNE HQ
     go_wp2
     go_roundw
     case rel => exact ⟨k + 1, by omega, by go_num, HT2.out, HB7.out⟩
     case measure => simp [intOf]; omega
    | false =>
     have HN := Lib.hid (HNE.out (of_decide_eq_false HQ.out.symm))
     clear HTK HNE HQ
     go_wp2
     go_ret
     exact ⟨by rw [HN.out]; rfl, HB7.out⟩
  · obtain rfl : k = l.length := by omega
    have HN : Hid (r = true) := by
     show _ = _
     have h1 := HT.out
     rw [List.take_of_length_le (by simp), List.take_of_length_le (by have := HXL.out; simp; omega)] at h1
     rw [HR.out]; exact decide_eq_true h1
    have HB1 := Lib.hid hb
    clear HT hb hlt
    go_wp2
    go_ret
    exact ⟨by rw [HN.out]; rfl, HB1.out⟩

end Go.Proofs.YtbbbfjcikhpmbaaGreat

/- Walks: Same of projects, the document's and pom's; the conditions stand in the theorems. -/

namespace Go.Proofs.YtbbbfjcikhpmbaaGreat
open Go Go.RowKit

attribute [local go_sem ↓] eqg_prp neq_prp eqg_id neq_id eqg_gav eql_gav
set_option maxRecDepth 100000 in
set_option maxHeartbeats 4000000 in
theorem sameX_any (p q : Pom) (pv mv dv pv2 mv2 dv2 : Value) (w : World) (hp : PomOf w (.agg (pomC p pv mv dv).toArray) p pv mv dv) (hq : PomOf w (.agg (pomC q pv2 mv2 dv2).toArray) q pv2 mv2 dv2)
    (x2 : ∀ d ∈ p.managed, d.excl.length ≤ 140737488355328) (x3 : ∀ d ∈ p.deps, d.excl.length ≤ 140737488355328) (y2 : ∀ d ∈ q.managed, d.excl.length ≤ 140737488355328) (y3 : ∀ d ∈ q.deps, d.excl.length ≤ 140737488355328) :
    Calls Tryz.prog 15 #[.agg (pomC p pv mv dv).toArray, .agg (pomC q pv2 mv2 dv2).toArray] w fun e w' => e = .returned (.bool (decide (p = q))) ∧ Below w.heap.size w w' := by
 obtain ⟨r, hr⟩ : ∃ r, r = decide (p = q) := ⟨_, rfl⟩
 have HR : Hid (r = decide (p = q)) := hr
 rw [← hr]
 clear hr
 obtain ⟨-, p1, p2, p3⟩ := hp
 obtain ⟨-, q1, q2, q3⟩ := hq
 obtain ⟨dh, ⟨dx, dy, dz⟩, dg, da, dv', dk, dp, dm, dd⟩ := p
 obtain ⟨eh, ⟨ex, ey, ez⟩, eg, ea, ev, ek, ep, em, ed⟩ := q
 simp only [Pom.mk.injEq, Gav.mk.injEq] at HR
 simp only [pomC]
 simp only at p1 p2 p3 q1 q2 q3 x2 x3 y2 y3
 obtain ⟨ao1, cap1, rfl⟩ := p1.shape
 obtain ⟨ao2, cap2, rfl⟩ := p2.shape
 obtain ⟨ao3, cap3, rfl⟩ := p3.shape
 obtain ⟨ao4, cap4, rfl⟩ := q1.shape
 obtain ⟨ao5, cap5, rfl⟩ := q2.shape
 obtain ⟨ao6, cap6, rfl⟩ := q3.shape
 have H1 : Hid (∀ W, Below w.heap.size w W → Calls Tryz.prog 48 #[.slice ao1 dp.length cap1, .slice ao4 ep.length cap4] W fun e w' => e = .returned (.bool (decide (dp = ep))) ∧ Below W.heap.size W w') := fun W h => sameProps_any dp ep _ _ W (p1.below h) (q1.below h)
 have H2 : Hid (∀ W, Below w.heap.size w W → Calls Tryz.prog 49 #[.slice ao2 dm.length cap2, .slice ao5 em.length cap5] W fun e w' => e = .returned (.bool (decide (dm = em))) ∧ Below W.heap.size W w') := fun W h => sameDepsX_any dm em _ _ W (p2.below h) (q2.below h) x2 y2
 have H3 : Hid (∀ W, Below w.heap.size w W → Calls Tryz.prog 49 #[.slice ao3 dd.length cap3, .slice ao6 ed.length cap6] W fun e w' => e = .returned (.bool (decide (dd = ed))) ∧ Below W.heap.size W w') := fun W h => sameDepsX_any dd ed _ _ W (p3.below h) (q3.below h) x3 y3
 have HBB : Hid (∀ o1 o2, Below w.heap.size w ((w.alloc o1).alloc o2)) := fun o1 o2 => ((Below.refl _ _).alloc (Nat.le_refl _) _).alloc (by simp) _
 clear p1 p2 p3 q1 q2 q3 x2 x3 y2 y3
 by_cases hh : dh = eh
 rotate_left
 · have HN : Hid (r = false) := by show _ = _; rw [HR.out]; exact decide_eq_false (fun h => hh h.1)
   have hb : (dh == eh) = false := beq_eq_false_iff_ne.2 hh
   clear hh HR H1 H2 H3
   go_enter Tryz.func15, Tryz.ntmps15
   go_wp2
   go_ret
   exact ⟨by rw [HN.out]; rfl, HBB.out _ _⟩
 subst hh
 by_cases hx : dx = ex
 rotate_left
 · have HN : Hid (r = false) := by show _ = _; rw [HR.out]; exact decide_eq_false (fun h => hx h.2.1.1)
   have hb : decide (dx = ex) = false := decide_eq_false hx
   clear hx HR H1 H2 H3
   go_enter Tryz.func15, Tryz.ntmps15
   go_wp2
   go_ret
   exact ⟨by rw [HN.out]; rfl, HBB.out _ _⟩
 subst hx
 by_cases hy : dy = ey
 rotate_left
 · have HN : Hid (r = false) := by show _ = _; rw [HR.out]; exact decide_eq_false (fun h => hy h.2.1.2.1)
   have hb : decide (dy = ey) = false := decide_eq_false hy
   clear hy HR H1 H2 H3
   go_enter Tryz.func15, Tryz.ntmps15
   go_wp2
   go_ret
   exact ⟨by rw [HN.out]; rfl, HBB.out _ _⟩
 subst hy
 by_cases hz : dz = ez
 rotate_left
 · have HN : Hid (r = false) := by show _ = _; rw [HR.out]; exact decide_eq_false (fun h => hz h.2.1.2.2)
   have hb : decide (dz = ez) = false := decide_eq_false hz
   clear hz HR H1 H2 H3
   go_enter Tryz.func15, Tryz.ntmps15
   go_wp2
   go_ret
   exact ⟨by rw [HN.out]; rfl, HBB.out _ _⟩
 subst hz
 by_cases hg : dg = eg
 rotate_left
 · have HN : Hid (r = false) := by show _ = _; rw [HR.out]; exact decide_eq_false (fun h => hg h.2.2.1)
   have hb : (dg.toList == eg.toList) = false := by rw [str_beq]; exact decide_eq_false hg
   clear hg HR H1 H2 H3
   go_enter Tryz.func15, Tryz.ntmps15
   go_wp2
   go_ret
   exact ⟨by rw [HN.out]; rfl, HBB.out _ _⟩
 subst hg
 by_cases ha : da = ea
 rotate_left
 · have HN : Hid (r = false) := by show _ = _; rw [HR.out]; exact decide_eq_false (fun h => ha h.2.2.2.1)
   have hb : (da.toList == ea.toList) = false := by rw [str_beq]; exact decide_eq_false ha
   clear ha HR H1 H2 H3
   go_enter Tryz.func15, Tryz.ntmps15
   go_wp2
   go_ret
   exact ⟨by rw [HN.out]; rfl, HBB.out _ _⟩
 subst ha
 by_cases hv : dv' = ev
 rotate_left
 · have HN : Hid (r = false) := by show _ = _; rw [HR.out]; exact decide_eq_false (fun h => hv h.2.2.2.2.1)
   have hb : (dv'.toList == ev.toList) = false := by rw [str_beq]; exact decide_eq_false hv
   clear hv HR H1 H2 H3
   go_enter Tryz.func15, Tryz.ntmps15
   go_wp2
   go_ret
   exact ⟨by rw [HN.out]; rfl, HBB.out _ _⟩
 subst hv
 by_cases hk : dk = ek
 rotate_left
 · have HN : Hid (r = false) := by show _ = _; rw [HR.out]; exact decide_eq_false (fun h => hk h.2.2.2.2.2.1)
   have hb : (dk.toList == ek.toList) = false := by rw [str_beq]; exact decide_eq_false hk
   clear hk HR H1 H2 H3
   go_enter Tryz.func15, Tryz.ntmps15
   go_wp2
   go_ret
   exact ⟨by rw [HN.out]; rfl, HBB.out _ _⟩
 subst hk
 have HRX : Hid (r = (decide (dp = ep) && (decide (dm = em) && decide (dd = ed)))) := by show _ = _; rw [HR.out]; simp
 clear HR
 obtain ⟨b1, h1⟩ : ∃ b, b = decide (dp = ep) := ⟨_, rfl⟩
 obtain ⟨b2, h2⟩ : ∃ b, b = decide (dm = em) := ⟨_, rfl⟩
 obtain ⟨b3, h3⟩ : ∃ b, b = decide (dd = ed) := ⟨_, rfl⟩
 rw [← h1] at H1
 rw [← h2] at H2
 rw [← h3] at H3
 rw [← h1, ← h2, ← h3] at HRX
 clear h1 h2 h3
 have hd0 : (dh == dh) = true := by simp
 go_enter Tryz.func15, Tryz.ntmps15
 go_upto_region 1 with fail
 refine wp_world ?_
 intro W hW
 have x1 : Box W w.heap.size [.bool dh, .string dx, .string dy, .string dz, .string dg, .string da, .string dv', .string dk, .slice ao1 dp.length cap1, .slice ao2 dm.length cap2, .slice ao3 dd.length cap3] := by rw [hW]; exact (Box.new w [.bool dh, .string dx, .string dy, .string dz, .string dg, .string da, .string dv', .string dk, .slice ao1 dp.length cap1, .slice ao2 dm.length cap2, .slice ao3 dd.length cap3] _ _ rfl).alloc _
 have x2 : Box W (w.heap.size + 1) [.bool dh, .string dx, .string dy, .string dz, .string dg, .string da, .string dv', .string dk, .slice ao4 ep.length cap4, .slice ao5 em.length cap5, .slice ao6 ed.length cap6] := by rw [hW]; exact Box.new _ [.bool dh, .string dx, .string dy, .string dz, .string dg, .string da, .string dv', .string dk, .slice ao4 ep.length cap4, .slice ao5 em.length cap5, .slice ao6 ed.length cap6] _ _ (by simp)
 have hb : Below w.heap.size w W := by rw [hW]; exact HBB.out _ _
 clear hW HBB
 have HX1 := Lib.hid x1
 have HX2 := Lib.hid x2
 have HB := Lib.hid hb
 clear x1 x2 hb
 have c0 := HX1.out.cell 0 _ rfl
 have d0 := HX2.out.cell 0 _ rfl
 have c1 := HX1.out.cell 1 _ rfl
 have d1 := HX2.out.cell 1 _ rfl
 have c2 := HX1.out.cell 2 _ rfl
 have d2 := HX2.out.cell 2 _ rfl
 have c3 := HX1.out.cell 3 _ rfl
 have d3 := HX2.out.cell 3 _ rfl
 have c4 := HX1.out.cell 4 _ rfl
 have d4 := HX2.out.cell 4 _ rfl
 have c5 := HX1.out.cell 5 _ rfl
 have d5 := HX2.out.cell 5 _ rfl
 have c6 := HX1.out.cell 6 _ rfl
 have d6 := HX2.out.cell 6 _ rfl
 have c7 := HX1.out.cell 7 _ rfl
 have d7 := HX2.out.cell 7 _ rfl
 have c8 := HX1.out.cell 8 _ rfl
 have d8 := HX2.out.cell 8 _ rfl
 have c9 := HX1.out.cell 9 _ rfl
 have d9 := HX2.out.cell 9 _ rfl
 have c10 := HX1.out.cell 10 _ rfl
 have d10 := HX2.out.cell 10 _ rfl
 have cl := HX1.out.lt
 have dl := HX2.out.lt
 go_wp2_with fail
 refine (H1.out _ HB.out).mono ?_
 rintro e w1 ⟨rfl, hb1⟩
 clear c0 d0 c1 d1 c2 d2 c3 d3 c4 d4 c5 d5 c6 d6 c7 d7 c8 d8 c9 d9 c10 d10 cl dl
 have HX1' := Lib.hid (HX1.out.below hb1 HX1.out.lt)
 have HX2' := Lib.hid (HX2.out.below hb1 HX2.out.lt)
 have HB' := Lib.hid (HB.out.trans (hb1.mono HB.out.size))
 clear hb1 HX1 HX2 HB H1
 have HX1 := HX1'
 have HX2 := HX2'
 have HB := HB'
 clear HX1' HX2' HB'
 have c0 := HX1.out.cell 0 _ rfl
 have d0 := HX2.out.cell 0 _ rfl
 have c1 := HX1.out.cell 1 _ rfl
 have d1 := HX2.out.cell 1 _ rfl
 have c2 := HX1.out.cell 2 _ rfl
 have d2 := HX2.out.cell 2 _ rfl
 have c3 := HX1.out.cell 3 _ rfl
 have d3 := HX2.out.cell 3 _ rfl
 have c4 := HX1.out.cell 4 _ rfl
 have d4 := HX2.out.cell 4 _ rfl
 have c5 := HX1.out.cell 5 _ rfl
 have d5 := HX2.out.cell 5 _ rfl
 have c6 := HX1.out.cell 6 _ rfl
 have d6 := HX2.out.cell 6 _ rfl
 have c7 := HX1.out.cell 7 _ rfl
 have d7 := HX2.out.cell 7 _ rfl
 have c8 := HX1.out.cell 8 _ rfl
 have d8 := HX2.out.cell 8 _ rfl
 have c9 := HX1.out.cell 9 _ rfl
 have d9 := HX2.out.cell 9 _ rfl
 have c10 := HX1.out.cell 10 _ rfl
 have d10 := HX2.out.cell 10 _ rfl
 have cl := HX1.out.lt
 have dl := HX2.out.lt
 cases b1 with
 | false =>
  go_wp2
  go_ret
  exact ⟨by rw [HRX.out]; rfl, HB.out⟩
 | true =>
  go_wp2_with fail
  refine (H2.out _ HB.out).mono ?_
  rintro e w2 ⟨rfl, hb1⟩
  clear c0 d0 c1 d1 c2 d2 c3 d3 c4 d4 c5 d5 c6 d6 c7 d7 c8 d8 c9 d9 c10 d10 cl dl
  have HX1' := Lib.hid (HX1.out.below hb1 HX1.out.lt)
  have HX2' := Lib.hid (HX2.out.below hb1 HX2.out.lt)
  have HB' := Lib.hid (HB.out.trans (hb1.mono HB.out.size))
  clear hb1 HX1 HX2 HB H2
  have HX1 := HX1'
  have HX2 := HX2'
  have HB := HB'
  clear HX1' HX2' HB'
  have c0 := HX1.out.cell 0 _ rfl
  have d0 := HX2.out.cell 0 _ rfl
  have c1 := HX1.out.cell 1 _ rfl
  have d1 := HX2.out.cell 1 _ rfl
  have c2 := HX1.out.cell 2 _ rfl
  have d2 := HX2.out.cell 2 _ rfl
  have c3 := HX1.out.cell 3 _ rfl
  have d3 := HX2.out.cell 3 _ rfl
  have c4 := HX1.out.cell 4 _ rfl
  have d4 := HX2.out.cell 4 _ rfl
  have c5 := HX1.out.cell 5 _ rfl
  have d5 := HX2.out.cell 5 _ rfl
  have c6 := HX1.out.cell 6 _ rfl
  have d6 := HX2.out.cell 6 _ rfl
  have c7 := HX1.out.cell 7 _ rfl
  have d7 := HX2.out.cell 7 _ rfl
  have c8 := HX1.out.cell 8 _ rfl
  have d8 := HX2.out.cell 8 _ rfl
  have c9 := HX1.out.cell 9 _ rfl
  have d9 := HX2.out.cell 9 _ rfl
  have c10 := HX1.out.cell 10 _ rfl
  have d10 := HX2.out.cell 10 _ rfl
  have cl := HX1.out.lt
  have dl := HX2.out.lt
  cases b2 with
  | false =>
   go_wp2
   go_ret
   exact ⟨by rw [HRX.out]; simp, HB.out⟩
  | true =>
   go_wp2_with fail
   refine (H3.out _ HB.out).mono ?_
   rintro e w3 ⟨rfl, hb1⟩
   clear c0 d0 c1 d1 c2 d2 c3 d3 c4 d4 c5 d5 c6 d6 c7 d7 c8 d8 c9 d9 c10 d10 cl dl
   have HX1' := Lib.hid (HX1.out.below hb1 HX1.out.lt)
   have HX2' := Lib.hid (HX2.out.below hb1 HX2.out.lt)
   have HB' := Lib.hid (HB.out.trans (hb1.mono HB.out.size))
   clear hb1 HX1 HX2 HB H3
   have HX1 := HX1'
   have HX2 := HX2'
   have HB := HB'
   clear HX1' HX2' HB'
   have c0 := HX1.out.cell 0 _ rfl
   have d0 := HX2.out.cell 0 _ rfl
   have c1 := HX1.out.cell 1 _ rfl
   have d1 := HX2.out.cell 1 _ rfl
   have c2 := HX1.out.cell 2 _ rfl
   have d2 := HX2.out.cell 2 _ rfl
   have c3 := HX1.out.cell 3 _ rfl
   have d3 := HX2.out.cell 3 _ rfl
   have c4 := HX1.out.cell 4 _ rfl
   have d4 := HX2.out.cell 4 _ rfl
   have c5 := HX1.out.cell 5 _ rfl
   have d5 := HX2.out.cell 5 _ rfl
   have c6 := HX1.out.cell 6 _ rfl
   have d6 := HX2.out.cell 6 _ rfl
   have c7 := HX1.out.cell 7 _ rfl
   have d7 := HX2.out.cell 7 _ rfl
   have c8 := HX1.out.cell 8 _ rfl
   have d8 := HX2.out.cell 8 _ rfl
   have c9 := HX1.out.cell 9 _ rfl
   have d9 := HX2.out.cell 9 _ rfl
   have c10 := HX1.out.cell 10 _ rfl
   have d10 := HX2.out.cell 10 _ rfl
   have cl := HX1.out.lt
   have dl := HX2.out.lt
   cases b3
   all_goals
    go_wp2
    go_ret
    exact ⟨by rw [HRX.out]; rfl, HB.out⟩

end Go.Proofs.YtbbbfjcikhpmbaaGreat

/- The walk of the law PomBack; the conditions stand in the theorem. -/
namespace Go.Proofs.YtbbbfjcikhpmbaaGreat
open Go Go.RowKit

/-- A reading without error, each cell told. -/
def ReadG (p : Pom) (w : World) (e : Ending) (w' : World) : Prop := ∃ (a1 : Option Addr) (c1 : Nat) (a2 : Option Addr) (c2 : Nat) (a3 : Option Addr) (c3 : Nat),
 e = .returned (.tuple #[.agg #[.bool p.hasParent, .string p.parent.group, .string p.parent.artifact, .string p.parent.version, .string p.group, .string p.artifact, .string p.version, .string p.packaging, .slice a1 p.props.length c1, .slice a2 p.managed.length c2, .slice a3 p.deps.length c3], .int .i64 0, .string ⟨#[]⟩]) ∧ PomOwn w.heap.size w' p (.slice a1 p.props.length c1) (.slice a2 p.managed.length c2) (.slice a3 p.deps.length c3) ∧ Below w.heap.size w w'
theorem ReadOut.good {t : Tr} {p : Pom} {w w' : World} {e : Ending} (h : ReadOut t w e w') (hV : readV t = p) (hE : readE t = none) : ReadG p w e w' := by
 obtain ⟨pv, mv, dv, rfl, ho⟩ := h.2.2 hE
 subst hV
 obtain ⟨a1, c1, rfl⟩ := ho.props.shape
 obtain ⟨L2, h2⟩ := ho.managed
 obtain ⟨a2, c2, hm⟩ := h2.row.shape
 have e2 : L2.length = (readV t).managed.length := by have := congrArg List.length h2.are; simpa using this
 rw [e2] at hm
 subst hm
 obtain ⟨L3, h3⟩ := ho.deps
 obtain ⟨a3, c3, hd⟩ := h3.row.shape
 have e3 : L3.length = (readV t).deps.length := by have := congrArg List.length h3.are; simpa using this
 rw [e3] at hd
 subst hd
 exact ⟨a1, c1, a2, c2, a3, c3, rfl, ho, h.1⟩

end Go.Proofs.YtbbbfjcikhpmbaaGreat

/- What is read of a tree that may be is a project that may be: plain laws; no program in sight. -/

namespace Go.Proofs.YtbbbfjcikhpmbaaGreat
open Go Go.RowKit

/-! Light trees are mild and fine; what may be is not too great; errors are two numbers. -/
theorem textF_len {n : Nat} : ∀ {l : List Tr}, (∀ t ∈ l, t.text.length ≤ n) → (textF l).length ≤ l.length * n
 | [], _ => by simp [textF]
 | t :: l, h => by
  rw [textF, List.length_append, List.length_cons, Nat.add_mul, Nat.one_mul]
  have h1 := textF_len (fun u hu => h u (List.mem_cons_of_mem _ hu))
  have h2 := h t (by simp)
  split
  · omega
  · simp only [List.length_nil]; omega
theorem LightT.mild {t : Tr} (h : LightT t) : Mild t := by
 induction h with
 | mk hn hx hal ha hkl hk ih =>
  refine .of (Nat.le_trans hkl (by decide)) ?_ (Nat.le_trans hn (by decide)) ih
  rename_i n ats ks x
  show (textF ks).length ≤ _
  have h1 := textF_len (l := ks) (n := 1000) (fun t ht => (hk t ht).text)
  have h2 := Nat.mul_le_mul_right 1000 hkl
  omega

end Go.Proofs.YtbbbfjcikhpmbaaGreat

/- The walk of the law PomStays; the conditions stand in the theorem. -/

namespace Go.Proofs.YtbbbfjcikhpmbaaGreat
open Go Go.RowKit

def pom0 : Pom := ⟨false, ⟨⟨#[]⟩, ⟨#[]⟩, ⟨#[]⟩⟩, ⟨#[]⟩, ⟨#[]⟩, ⟨#[]⟩, ⟨#[]⟩, [], [], []⟩

end Go.Proofs.YtbbbfjcikhpmbaaGreat

/- The document's reader of projects: its state, fail, Kids, one; the conditions stand in the theorems. -/

namespace Go.Proofs.YtbbbfjcikhpmbaaGreat
open Go Go.RowKit

/-- What the document's reader holds: the first error, and where. -/
abbrev St := Int × S
def stp (s : St) (e : Option Er) : St := match e with
 | none => s
 | some x => if s.1 = 0 then (x.1, bs x.2) else s
def Nz (e : Option Er) : Prop := ∀ x, e = some x → x.1 ≠ 0
theorem Nz.none : Nz none := fun _ h => by cases h
theorem Nz.some {x : Er} (h : x.1 ≠ 0) : Nz (some x) := fun _ e => by cases e; exact h
theorem Nz.or {a b : Option Er} (h : Nz a) (g : Nz b) : Nz (a.or b) := by cases a with
 | none => exact g
 | some x => exact h
theorem Nz.ite {p : Prop} [Decidable p] {a b : Option Er} (h : Nz a) (g : Nz b) : Nz (if p then a else b) := by split <;> assumption
theorem stp_or {s : St} {a b : Option Er} (h : Nz a) : stp (stp s a) b = stp s (a.or b) := by
 cases a with
 | none => rfl
 | some x =>
  show stp (if s.1 = 0 then (x.1, bs x.2) else s) b = if s.1 = 0 then (x.1, bs x.2) else s
  have hx := h x rfl
  by_cases h0 : s.1 = 0
  · rw [if_pos h0]
    cases b with
    | none => rfl
    | some y => exact if_neg hx
  · rw [if_neg h0]
    cases b with
    | none => rfl
    | some y => exact if_neg h0
/-- The post of a method of the reader at block R: this state, this value, all else as it was. -/
def RdP (R : Nat) (s : St) (v : Value) (w : World) (e : Ending) (w' : World) : Prop := e = .returned v ∧ Box w' R [.int .i64 s.1, .string s.2] ∧ w.grownBy w' (some R)
theorem gr_below {B R : Nat} {w w' : World} (h : w.grownBy w' (some R)) (hB : B ≤ R) (hw : B ≤ w.heap.size) : Below B w w' :=
 ⟨h.os, h.tape, h.output, h.size, fun k hk => h.block k (by omega) (fun e => by cases e; omega)⟩
theorem below_gr {R : Nat} {w w' : World} (h : Below w.heap.size w w') : w.grownBy w' (some R) := ⟨h.os, h.tape, h.output, h.size, fun k hk _ => h.block k hk⟩
theorem NodeX.gr {X : Nat → Prop} {w w' : World} {t : Tr} {av kv : Value} {R : Nat} (h : NodeX X w t av kv) (hg : w.grownBy w' (some R)) (hX : X R) : NodeX X w' t av kv := h.keep (KeptX.grown hg (fun g e => by cases e; exact hX)) (fun _ _ h => h)
theorem Box.gr {w w' : World} {b R : Nat} {cs : List Value} (h : Box w b cs) (hg : w.grownBy w' (some R)) (hne : b ≠ R) : Box w' b cs := h.grown hg (by simpa using hne)
set_option maxRecDepth 100000 in
set_option maxHeartbeats 8000000 in
theorem failR_any (R : Nat) (s : St) (c : Int) (m : S) (w : World) (h : Box w R [.int .i64 s.1, .string s.2]) :
    Calls Tryz.prog 42 #[.pointer (some ⟨R, 0, none⟩), .int .i64 c, .string m] w (RdP R (if s.1 = 0 then (c, m) else s) (.tuple #[]) w) := by
 obtain ⟨b, x⟩ := s
 have HB := Lib.hid h
 have a0 := h.cell 0 _ rfl
 have a1 := h.cell 1 _ rfl
 have f0 := h.free 0
 have f1 := h.free 1
 have al := h.lt
 clear h
 simp only at a0 a1 ⊢
 by_cases hb : b = 0
 · subst hb
   rw [if_pos rfl]
   have HS : Hid (Box ((w.setCell ⟨R, 0, none⟩ (.int .i64 c)).setCell ⟨R, 1, none⟩ (.string m)) R [.int .i64 c, .string m]) := (HB.out.set 0 _).set 1 _
   have HG : Hid (w.grownBy ((w.setCell ⟨R, 0, none⟩ (.int .i64 c)).setCell ⟨R, 1, none⟩ (.string m)) (some R)) := (setCell_grown w R 0 _).trans (setCell_grown _ R 1 _)
   go_enter Tryz.func42, Tryz.ntmps42
   go_wp2
   go_end0
   exact ⟨rfl, HS.out, HG.out⟩
 · have hb0 : (b == 0) = false := by simpa using hb
   rw [if_neg hb]
   clear hb
   go_enter Tryz.func42, Tryz.ntmps42
   go_wp2
   go_end0
   exact ⟨rfl, HB.out, World.grownBy.refl _ _⟩
theorem failR_some (R : Nat) (s : St) (x : Er) (m : S) (w : World) (h : Box w R [.int .i64 s.1, .string s.2]) (hm : m = bs x.2) :
    Calls Tryz.prog 42 #[.pointer (some ⟨R, 0, none⟩), .int .i64 x.1, .string m] w (RdP R (stp s (some x)) (.tuple #[]) w) := by
 subst hm; exact failR_any R s x.1 (bs x.2) w h
set_option maxRecDepth 100000 in
set_option maxHeartbeats 8000000 in
theorem refKids_x {X : Nat → Prop} (t : Tr) (m : Bs) (w : World) (av kv : Value) (ht : NodeX X w t av kv) (hkl : t.kids.length ≤ 100000) :
    Calls Tryz.prog 45 #[nodeV t av kv, .string (bs m)] w fun e w' => ∃ v L, e = .returned v ∧ L.map (·.1) = kidsF m t.kids ∧ CollX X w.heap.size w w' v L := by
 obtain ⟨ao, ac, ko, kc, rfl, rfl, hal, -⟩ := ht.shape
 have HT := Lib.hid ht
 clear ht
 unfold nodeV
 go_enter Tryz.func45, Tryz.ntmps45
 go_wp2
 go_loopw [5, 11] (fun v i wr => ∃ (k : Nat) (L : List TrV) (v' : Value), k ≤ t.kids.length ∧ i = .int .i64 k ∧ v = v' ∧ Hid (w.heap.size < wr.heap.size ∧ CollX X w.heap.size w wr v' L ∧ L.map (·.1) = kidsF m (t.kids.take k))) (fun _ i _ => t.kids.length - (intOf i).toNat)
 case atStart => exact ⟨0, [], _, Nat.zero_le _, rfl, rfl, by simp, ⟨(Below.refl _ w).alloc (Nat.le_refl _) _, Owns.nil, by simp⟩, by simp [kidsF]⟩
 case round =>
  obtain ⟨k, L, v, hk, rfl, rfl, HR⟩ := hrel
  obtain ⟨la, lc, hlv⟩ := HR.out.2.1.own.shape
  subst hlv
  by_cases hlt : k < t.kids.length
  · obtain ⟨g, o, a1, a2, a3, a4, rfl, hg, -, c0, c1, c2, c3, hn1⟩ := (HT.out.later HR.out.2.1.below).at k hlt
    have hnX : NodeX (fun j => X j ∨ w.heap.size ≤ j) w t (.slice ao t.attrs.length ac) (.slice (some ⟨g, o, none⟩) t.kids.length kc) := HT.out.keep (KeptX.refl _ _) (fun k h1 h2 => h2.elim id (fun h => by omega))
    obtain ⟨g', o', b1, b2, b3, b4, e1, -, -, d0, d1, d2, d3, hn2⟩ := (hnX.keep (KeptX.below HR.out.2.1.below) (fun _ _ h => h)).at k hlt
    simp only [Option.some.injEq, Addr.mk.injEq, and_true] at e1
    obtain ⟨rfl, rfl⟩ := e1
    rw [c1] at d1
    rw [c2] at d2
    simp only [Option.some.injEq, Value.slice.injEq, true_and] at d1 d2
    obtain ⟨rfl, rfl⟩ := d1
    obtain ⟨rfl, rfl⟩ := d2
    have hki : (k : Int) < (t.kids.length : Int) := by omega
    have HD := Lib.hid (kidsF_take (m := m) hlt)
    have HC := Lib.hid (fun o => HR.out.2.1.alloc (Nat.le_of_lt HR.out.1) o)
    have HZ := Lib.hid (fun o => (show w.heap.size < (wr.alloc o).heap.size by have := HR.out.1; simp; omega))
    have HN := Lib.hid hn2
    have hE := bs_beq2 t.kids[k].name m
    have hLl : L.length ≤ k := by
     have h1 := filter_len m t.kids k
     rw [← HR.out.2.2] at h1
     simpa using h1
    clear d0 d3 hn1 hn2 hnX
    by_cases hne : t.kids[k].name = []
    · have he : (bs t.kids[k].name : S).toList.isEmpty = true := by rw [empty_data, bs_size, hne]; rfl
      have he2 : (!(bs t.kids[k].name : S).toList.isEmpty) = false := by rw [he]; rfl
      have hik : isKid m t.kids[k] = false := by unfold isKid; rw [hne]; rfl
      rw [hik] at HD
      clear hne hE hik
      go_wp2
      go_roundw
      case rel => exact ⟨k + 1, L, _, hlt, by go_num, rfl, HZ.out _, HC.out _, by rw [HD.out, HR.out.2.2]; simp⟩
      case measure => simp [intOf]; omega
    · have he : (bs t.kids[k].name : S).toList.isEmpty = false := by rw [empty_data, bs_size]; simpa using hne
      have he2 : (!(bs t.kids[k].name : S).toList.isEmpty) = true := by rw [he]; rfl
      have hkE : t.kids[k].name.isEmpty = false := by simpa using hne
      have hmE : (bs m : S).toList.isEmpty = m.isEmpty := by rw [empty_data, bs_size]; cases m <;> simp
      have hik : isKid m t.kids[k] = (m.isEmpty || decide (t.kids[k].name = m)) := by unfold isKid; rw [hkE]; rfl
      clear hne
      have hcs : (isKid m t.kids[k] = false ∧ (bs m : S).toList.isEmpty = false ∧ ((bs t.kids[k].name : S).toList == (bs m : S).toList) = false) ∨ (isKid m t.kids[k] = true ∧ (bs m : S).toList.isEmpty = true) ∨ (isKid m t.kids[k] = true ∧ (bs m : S).toList.isEmpty = false ∧ ((bs t.kids[k].name : S).toList == (bs m : S).toList) = true) := by
       rw [hik, hmE, hE]
       cases m.isEmpty <;> cases decide (t.kids[k].name = m) <;> simp
      clear hik hmE hE hkE
      rcases hcs with ⟨hik, hm1, hE⟩ | hcs
      · rw [hik] at HD
        clear hik
        go_wp2
        go_roundw
        case rel => exact ⟨k + 1, L, _, hlt, by go_num, rfl, HZ.out _, HC.out _, by rw [HD.out, HR.out.2.2]; simp⟩
        case measure => simp [intOf]; omega
      · have hikt : isKid m t.kids[k] = true := by rcases hcs with ⟨h, -⟩ | ⟨h, -⟩ <;> exact h
        rw [hikt] at HD
        have HOO : Hid (∀ o o2, Owns w.heap.size 25 4 trC ((wr.alloc o).alloc o2) (.slice la L.length lc) L) := fun o o2 => ((HC.out o).own).alloc o2
        have HFI : Hid (∀ o o2 v8 w8, Owns w.heap.size 25 4 trC w8 v8 (L ++ [(t.kids[k], .slice a1 t.kids[k].attrs.length a2, .slice a3 t.kids[k].kids.length a4)]) → ((wr.alloc o).alloc o2).grownBy w8 (Value.slice la L.length lc).ownBlock → w.heap.size < w8.heap.size ∧ CollX X w.heap.size w w8 v8 (L ++ [(t.kids[k], .slice a1 t.kids[k].attrs.length a2, .slice a3 t.kids[k].kids.length a4)])) := fun o o2 v8 w8 h1 h2 =>
         ⟨by have := h2.size; have := HZ.out o; simp at *; omega, ((HC.out o).alloc (Nat.le_of_lt (HZ.out o)) o2).push ((HN.out.later ((Below.refl _ _).alloc (Nat.le_refl _) _)).later ((Below.refl _ _).alloc (Nat.le_refl _) _)) h1 h2 (by have := HZ.out o; simp at *; omega)⟩
        have HSZ2 : Hid (∀ o o2, w.heap.size ≤ ((wr.alloc o).alloc o2).heap.size) := fun o o2 => by have := HZ.out o; simp at *; omega
        have HBY : Hid (∀ y : TrV, (L.length + [y].length) * 80 ≤ 140737488355328) := fun y => by simp only [List.length_cons, List.length_nil]; omega
        have HLL := Lib.hid hLl
        have HIS := Lib.hid HR.out.2.2
        have hCS : ((bs m : S).toList.isEmpty = true) ∨ ((bs m : S).toList.isEmpty = false ∧ ((bs t.kids[k].name : S).toList == (bs m : S).toList) = true) := by
         rcases hcs with ⟨-, h⟩ | ⟨-, h⟩
         · exact .inl h
         · exact .inr h
        clear hcs hikt HR HT HN HC HZ hLl
        generalize hkk : t.kids[k] = y at *
        obtain ⟨yn, ya, yk, yx⟩ := y
        simp only [Tr.name, Tr.attrs, Tr.kids, Tr.text] at *
        rcases hCS with hm1 | ⟨hm1, hE⟩
        all_goals
         go_wp2_with (at_builtin; go_loud ((refine wpList_append_slice _ rfl _ _ 23 rfl w.heap.size 25 Tryz.underlying23 info_node rfl (by decide) trC_len (.slice la L.length lc) L rfl (HOO.out _ _) _ [((.mk yn ya yk yx, .slice a1 ya.length a2, .slice a3 yk.length a4) : TrV)] rfl (lit_one (.mk yn ya yk yx, .slice a1 ya.length a2, .slice a3 yk.length a4) _ _ (by simp)) (one_one _ _ _ _ _ _ _) (HBY.out _) (by decide) (HSZ2.out _ _) ?_; intro v8 w8 hown8 hgrow8 hloc8; have HP8 := Lib.hid (HFI.out _ _ _ _ hown8 hgrow8); clear hown8 hgrow8 hloc8)))
         go_wp2
         go_roundw
         case rel => exact ⟨k + 1, _, _, hlt, by go_num, rfl, HP8.out.1, HP8.out.2, by rw [HD.out, List.map_append, HIS.out]; rfl⟩
         case measure => simp [intOf]; omega
  · obtain rfl : k = t.kids.length := by omega
    have HF : Hid (L.map (·.1) = kidsF m t.kids) := by show _ = _; rw [HR.out.2.2, List.take_length]
    go_wp2
    go_ret
    exact ⟨_, L, rfl, HF.out, HR.out.2.1⟩
/-- What one and Kids find. -/
def OneP (X : Nat → Prop) (o : Option Tr) (v : Value) (w : World) : Prop := match o with
 | none => v = .tuple #[.agg #[.string ⟨#[]⟩, .slice none 0 0, .slice none 0 0, .string ⟨#[]⟩], .bool false]
 | some k => ∃ av kv, v = .tuple #[nodeV k av kv, .bool true] ∧ NodeX X w k av kv
def OneG (R : Nat) (s : St) (X : Nat → Prop) (o : Option Tr) (w : World) (e : Ending) (w' : World) : Prop := ∃ v, e = .returned v ∧ OneP X o v w' ∧ Box w' R [.int .i64 s.1, .string s.2] ∧ w.grownBy w' (some R)
set_option maxRecDepth 100000 in
set_option maxHeartbeats 8000000 in
theorem oneR_any (R : Nat) (s : St) (X : Nat → Prop) (t : Tr) (wh m : Bs) (w : World) (av kv : Value) (ht : NodeX X w t av kv) (hR : X R) (hB : Box w R [.int .i64 s.1, .string s.2]) (hkl : t.kids.length ≤ 100000) (hl : wh.length + m.length ≤ 1000000000000) :
    Calls Tryz.prog 43 #[.pointer (some ⟨R, 0, none⟩), nodeV t av kv, .string (bs wh), .string (bs m)] w (OneG R (stp s (manyE t wh m)) X (oneV t m) w) := by
 obtain ⟨ao, ac, ko, kc, rfl, rfl, hal, -⟩ := ht.shape
 have HM : Hid (manyE t wh m = if 1 < (kidsF m t.kids).length then some (20, two (sl wh m)) else none) := rfl
 have HO : Hid (oneV t m = (kidsF m t.kids).head?) := rfl
 obtain ⟨YE, hYE⟩ : ∃ Y, Y = manyE t wh m := ⟨_, rfl⟩
 obtain ⟨YO, hYO⟩ : ∃ Y, Y = oneV t m := ⟨_, rfl⟩
 rw [← hYE] at HM ⊢
 rw [← hYO] at HO ⊢
 clear hYE hYO
 obtain ⟨U, hU⟩ : ∃ U : S, U = bs wh := ⟨_, rfl⟩
 obtain ⟨M, hM⟩ : ∃ M : S, M = bs m := ⟨_, rfl⟩
 have HW : Hid (U ++ ⟨#[47]⟩ ++ M ++ ⟨#[91, 50, 93]⟩ = bs (two (sl wh m))) := by
  show _ = _
  rw [hU, hM]; exact two_bs wh m (bs wh) (bs m) (by show bs wh ++ bs [47] ++ bs m = _; rw [bs_append, bs_append, List.append_assoc]; rfl)
 have hzX : U.size = wh.length := by rw [hU, bs_size]
 have hzM : M.size = m.length := by rw [hM, bs_size]
 have hs1 : ¬ 9223372036854775807 < U.size + 1 := by omega
 have hs2 : ¬ 9223372036854775807 < U.size + 1 + M.size := by omega
 have hs3 : ¬ 9223372036854775807 < U.size + 1 + M.size + 3 := by omega
 have HC : Hid (∀ W, Below w.heap.size w W → Calls Tryz.prog 45 #[.agg #[.string (bs t.name), .slice ao t.attrs.length ac, .slice ko t.kids.length kc, .string (bs t.text)], .string M] W fun e w' => ∃ v L, e = .returned v ∧ L.map (·.1) = kidsF m t.kids ∧ CollX (fun j => X j ∨ w.heap.size ≤ j) W.heap.size W w' v L) := fun W h => by rw [hM]; exact refKids_x t m W _ _ (ht.freshX.later h) hkl
 have HB := Lib.hid hB
 have HRX : Hid (X R) := hR
 have HRL : Hid (R < w.heap.size) := hB.lt
 rw [← hU, ← hM]
 unfold nodeV
 clear ht hB hR hzX hzM hU hM
 go_enter Tryz.func43, Tryz.ntmps43
 go_upto_region 1 with fail
 refine wp_world ?_
 intro W hW
 have x1 : Box W w.heap.size [.string (bs t.name), .slice ao t.attrs.length ac, .slice ko t.kids.length kc, .string (bs t.text)] := by rw [hW]; exact (Box.new w [.string (bs t.name), .slice ao t.attrs.length ac, .slice ko t.kids.length kc, .string (bs t.text)] _ _ rfl).alloc _
 have x2 : Box W (w.heap.size + 1) [.string ⟨#[]⟩, .slice none 0 0, .slice none 0 0, .string ⟨#[]⟩] := by rw [hW]; exact Box.new (w.alloc _) [.string ⟨#[]⟩, .slice none 0 0, .slice none 0 0, .string ⟨#[]⟩] _ _ (by simp)
 have hb : Below w.heap.size w W := by rw [hW]; exact ((Below.refl _ w).alloc (Nat.le_refl _) _).alloc (by simp) _
 clear hW
 have HX1 := Lib.hid x1
 have HX2 := Lib.hid x2
 have HBW := Lib.hid hb
 clear x1 x2 hb
 obtain ⟨a0, a1, a2, a3⟩ := bxc4 HX1.out
 have al := HX1.out.lt
 go_wp2_with fail
 refine (HC.out _ HBW.out).mono ?_
 rintro e w1 ⟨v, L, rfl, hL, hco⟩
 obtain ⟨la, lc, rfl⟩ := hco.own.shape
 have hb1 := hco.below
 have HB1 := Lib.hid (HBW.out.trans (hb1.mono HBW.out.size))
 have HY2 := Lib.hid (HX2.out.below hb1 HX2.out.lt)
 have HR1 := Lib.hid (HB.out.below HB1.out HRL.out)
 have HCO := Lib.hid (collQ hco (Below.refl _ _))
 have HOW := Lib.hid hco.own
 have HND := Lib.hid hco.nodes
 have HLE := Lib.hid hL
 have HBS : Hid (R < W.heap.size) := by have := HRL.out; have := HBW.out.size; show _ < _; omega
 obtain ⟨n, hn⟩ : ∃ n, n = L.length := ⟨_, rfl⟩
 have HNL := Lib.hid hn
 rw [← hn] at HOW ⊢
 clear a0 a1 a2 a3 al hb1 hco HX1 HX2 hL hn
 rcases (by omega : n = 0 ∨ 1 ≤ n) with h0 | h1
 · subst h0
   have hE : Hid (YE = none ∧ YO = none) := by
    have h2 : L = [] := List.eq_nil_of_length_eq_zero HNL.out.symm
    refine ⟨?_, ?_⟩
    · rw [HM.out, ← HLE.out, h2]; rfl
    · rw [HO.out, ← HLE.out, h2]; rfl
   clear HM HO
   obtain ⟨r0, r1, r2, r3⟩ := bxc4 HY2.out
   have rl := HY2.out.lt
   have f0 := HY2.out.free 0
   have f1 := HY2.out.free 1
   have f2 := HY2.out.free 2
   have f3 := HY2.out.free 3
   have HZ : Hid (∀ v0 v1 v2 v3, w.grownBy ((((w1.setCell ⟨w.heap.size + 1, 0, none⟩ v0).setCell ⟨w.heap.size + 1, 1, none⟩ v1).setCell ⟨w.heap.size + 1, 2, none⟩ v2).setCell ⟨w.heap.size + 1, 3, none⟩ v3) (some R) ∧ Box ((((w1.setCell ⟨w.heap.size + 1, 0, none⟩ v0).setCell ⟨w.heap.size + 1, 1, none⟩ v1).setCell ⟨w.heap.size + 1, 2, none⟩ v2).setCell ⟨w.heap.size + 1, 3, none⟩ v3) R [.int .i64 s.1, .string s.2]) := fun v0 v1 v2 v3 => by
    have h1 := (((HB1.out.setCell (p := ⟨w.heap.size + 1, 0, none⟩) (by simp) v0).setCell (p := ⟨w.heap.size + 1, 1, none⟩) (by simp) v1).setCell (p := ⟨w.heap.size + 1, 2, none⟩) (by simp) v2).setCell (p := ⟨w.heap.size + 1, 3, none⟩) (by simp) v3
    exact ⟨below_gr h1, HB.out.below h1 HRL.out⟩
   go_wp2
   refine bodyPost_ret (v := .tuple #[.agg #[.string ⟨#[]⟩, .slice none 0 0, .slice none 0 0, .string ⟨#[]⟩], .bool false]) (by simp [results, Tryz.results43, go_sem, r0, r1, r2, r3]) rfl ?_
   refine ⟨_, rfl, ?_, ?_, (HZ.out _ _ _ _).1⟩
   · rw [hE.out.2]; rfl
   · rw [hE.out.1]; exact (HZ.out _ _ _ _).2
 · have HYO : Hid (∀ h : 0 < L.length, YO = some (L[0]'h).1) := fun h => by
    rw [HO.out, ← HLE.out, List.head?_map]
    cases L with
    | nil => cases h
    | cons y l => rfl
   have hn0 : ((n : Int) == 0) = false := by rw [beq_eq_false_iff_ne]; omega
   have hni : (0 : Int) < (n : Int) := by omega
   have HL0 : Hid (0 < L.length) := by have := HNL.out; show _ < _; omega
   have HCZ : ∀ wz, Hid (w1.grownBy wz (some R)) → Hid (Owns W.heap.size 25 4 trC wz (.slice la n lc) L ∧ (∀ y ∈ L, NodeX (fun j => (X j ∨ w.heap.size ≤ j) ∨ W.heap.size ≤ j) wz y.1 y.2.1 y.2.2) ∧ Box wz (w.heap.size + 1) [.string ⟨#[]⟩, .slice none 0 0, .slice none 0 0, .string ⟨#[]⟩] ∧ w.grownBy wz (some R)) := fun wz hz =>
    ⟨HOW.out.keptR hz.out HBS.out, fun y hy => (HND.out y hy).gr hz.out (.inl (.inl HRX.out)), HY2.out.gr hz.out (by have := HRL.out; omega), (below_gr HB1.out).trans hz.out⟩
   have HTAIL := Lib.hid HCZ
   clear HCZ
   by_cases hb : 1 < n
   · have hbI : (1 : Int) < (n : Int) := by omega
     have HE : Hid (YE = some (20, two (sl wh m))) := by
      show _ = _
      rw [HM.out, if_pos (by have h2 := congrArg List.length HLE.out; rw [List.length_map, ← HNL.out] at h2; omega)]
     clear HM hb h1
     go_wp2_with fail
     refine (failR_some R s (20, two (sl wh m)) _ w1 HR1.out HW.out).mono ?_
     rintro e w2 ⟨rfl, hR2, hg2⟩
     have HR2 := Lib.hid hR2
     have HT2 := Lib.hid (HTAIL.out w2 hg2)
     clear hR2 hg2
     obtain ⟨g, o1, p1, p2, p3, p4, hla, hg, c0, c1, c2, c3, hn⟩ := nodesQ (n := n) (L := L) (HT2.out.1.slice trC_len) HT2.out.2.1 0 HL0.out
     subst hla
     have HYK := Lib.hid (HYO.out HL0.out)
     simp only [Nat.zero_mul, Nat.add_zero] at c0 c1 c2 c3 hn
     have HN := Lib.hid hn
     have hy2 := HT2.out.2.2.1
     obtain ⟨r0, r1, r2, r3⟩ := bxc4 hy2
     have rl := hy2.lt
     have f0 := hy2.free 0
     have f1 := hy2.free 1
     have f2 := hy2.free 2
     have f3 := hy2.free 3
     clear hn hy2 HTAIL HC
     generalize L[0] = y at *
     obtain ⟨k, ya, yk⟩ := y
     simp only at c0 c1 c2 c3 HN HYK
     have HZ : Hid (∀ v0 v1 v2 v3, w.grownBy ((((w2.setCell ⟨w.heap.size + 1, 0, none⟩ v0).setCell ⟨w.heap.size + 1, 1, none⟩ v1).setCell ⟨w.heap.size + 1, 2, none⟩ v2).setCell ⟨w.heap.size + 1, 3, none⟩ v3) (some R) ∧ Box ((((w2.setCell ⟨w.heap.size + 1, 0, none⟩ v0).setCell ⟨w.heap.size + 1, 1, none⟩ v1).setCell ⟨w.heap.size + 1, 2, none⟩ v2).setCell ⟨w.heap.size + 1, 3, none⟩ v3) R [.int .i64 (stp s (some (20, two (sl wh m)))).1, .string (stp s (some (20, two (sl wh m)))).2] ∧ NodeX X ((((w2.setCell ⟨w.heap.size + 1, 0, none⟩ v0).setCell ⟨w.heap.size + 1, 1, none⟩ v1).setCell ⟨w.heap.size + 1, 2, none⟩ v2).setCell ⟨w.heap.size + 1, 3, none⟩ v3) k (.slice p1 k.attrs.length p2) (.slice p3 k.kids.length p4)) := fun v0 v1 v2 v3 => by
      have h1 : w2.grownBy ((((w2.setCell ⟨w.heap.size + 1, 0, none⟩ v0).setCell ⟨w.heap.size + 1, 1, none⟩ v1).setCell ⟨w.heap.size + 1, 2, none⟩ v2).setCell ⟨w.heap.size + 1, 3, none⟩ v3) (some (w.heap.size + 1)) := (((setCell_grown w2 _ 0 v0).trans (setCell_grown _ _ 1 v1)).trans (setCell_grown _ _ 2 v2)).trans (setCell_grown _ _ 3 v3)
      refine ⟨HT2.out.2.2.2.andThen h1 (fun j e => by cases e; exact .inl (by omega)), HR2.out.gr h1 (by have := HRL.out; omega), HN.out.keep (KeptX.grown h1 (fun g e => by cases e; exact .inl (.inr (by omega)))) (fun _ _ h => .inl (.inl h))⟩
     clear HN HT2 HR2
     go_wp2
     refine bodyPost_ret (v := .tuple #[.agg #[.string (bs k.name), .slice p1 k.attrs.length p2, .slice p3 k.kids.length p4, .string (bs k.text)], .bool true]) (by simp [results, Tryz.results43, go_sem, r0, r1, r2, r3]) rfl ?_
     refine ⟨_, rfl, ?_, ?_, (HZ.out _ _ _ _).1⟩
     · rw [HYK.out]; exact ⟨_, _, rfl, (HZ.out _ _ _ _).2.2⟩
     · rw [HE.out]; exact (HZ.out _ _ _ _).2.1
   · have hbI : ¬ (1 : Int) < (n : Int) := by omega
     have HE : Hid (YE = none) := by
      show _ = _
      rw [HM.out, if_neg (by have h2 := congrArg List.length HLE.out; rw [List.length_map, ← HNL.out] at h2; omega)]
     have HT2 := Lib.hid (HTAIL.out w1 (World.grownBy.refl _ _))
     have HR2 := HR1
     clear HM hb h1
     obtain ⟨g, o1, p1, p2, p3, p4, hla, hg, c0, c1, c2, c3, hn⟩ := nodesQ (n := n) (L := L) (HT2.out.1.slice trC_len) HT2.out.2.1 0 HL0.out
     subst hla
     have HYK := Lib.hid (HYO.out HL0.out)
     simp only [Nat.zero_mul, Nat.add_zero] at c0 c1 c2 c3 hn
     have HN := Lib.hid hn
     have hy2 := HT2.out.2.2.1
     obtain ⟨r0, r1, r2, r3⟩ := bxc4 hy2
     have rl := hy2.lt
     have f0 := hy2.free 0
     have f1 := hy2.free 1
     have f2 := hy2.free 2
     have f3 := hy2.free 3
     clear hn hy2 HTAIL HC
     generalize L[0] = y at *
     obtain ⟨k, ya, yk⟩ := y
     simp only at c0 c1 c2 c3 HN HYK
     have HZ : Hid (∀ v0 v1 v2 v3, w.grownBy ((((w1.setCell ⟨w.heap.size + 1, 0, none⟩ v0).setCell ⟨w.heap.size + 1, 1, none⟩ v1).setCell ⟨w.heap.size + 1, 2, none⟩ v2).setCell ⟨w.heap.size + 1, 3, none⟩ v3) (some R) ∧ Box ((((w1.setCell ⟨w.heap.size + 1, 0, none⟩ v0).setCell ⟨w.heap.size + 1, 1, none⟩ v1).setCell ⟨w.heap.size + 1, 2, none⟩ v2).setCell ⟨w.heap.size + 1, 3, none⟩ v3) R [.int .i64 s.1, .string s.2] ∧ NodeX X ((((w1.setCell ⟨w.heap.size + 1, 0, none⟩ v0).setCell ⟨w.heap.size + 1, 1, none⟩ v1).setCell ⟨w.heap.size + 1, 2, none⟩ v2).setCell ⟨w.heap.size + 1, 3, none⟩ v3) k (.slice p1 k.attrs.length p2) (.slice p3 k.kids.length p4)) := fun v0 v1 v2 v3 => by
      have h1 : w1.grownBy ((((w1.setCell ⟨w.heap.size + 1, 0, none⟩ v0).setCell ⟨w.heap.size + 1, 1, none⟩ v1).setCell ⟨w.heap.size + 1, 2, none⟩ v2).setCell ⟨w.heap.size + 1, 3, none⟩ v3) (some (w.heap.size + 1)) := (((setCell_grown w1 _ 0 v0).trans (setCell_grown _ _ 1 v1)).trans (setCell_grown _ _ 2 v2)).trans (setCell_grown _ _ 3 v3)
      refine ⟨HT2.out.2.2.2.andThen h1 (fun j e => by cases e; exact .inl (by omega)), HR2.out.gr h1 (by have := HRL.out; omega), HN.out.keep (KeptX.grown h1 (fun g e => by cases e; exact .inl (.inr (by omega)))) (fun _ _ h => .inl (.inl h))⟩
     clear HN HT2 HR2
     go_wp2
     refine bodyPost_ret (v := .tuple #[.agg #[.string (bs k.name), .slice p1 k.attrs.length p2, .slice p3 k.kids.length p4, .string (bs k.text)], .bool true]) (by simp [results, Tryz.results43, go_sem, r0, r1, r2, r3]) rfl ?_
     refine ⟨_, rfl, ?_, ?_, (HZ.out _ _ _ _).1⟩
     · rw [HYK.out]; exact ⟨_, _, rfl, (HZ.out _ _ _ _).2.2⟩
     · rw [HE.out]; exact (HZ.out _ _ _ _).2.1

end Go.Proofs.YtbbbfjcikhpmbaaGreat
