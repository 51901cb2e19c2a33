/- The walks of meta.IsSnapshot, and of the document's; the conditions stand in the theorems. -/
import Derived.Test.YtecffghcpknmjaaDoorJR01
import Derived.Laws.EntriesVeiled
import Derived.RangeFuncNested
import Derived.RangeFuncBound
import Derived.RangeFuncCalls
import Derived.RangeFuncLeaves
import Derived.RangeFuncBox
import Derived.Shelf.Abstract
import Derived.WalkKit
import Derived.OwnWalkIn
import Derived.TacticsInMore
import Derived.LoopNIn
import Derived.LoopIn
import Derived.KernelRfl
import Derived.Laws.StructEq
import Derived.Test.YtecffghcpknmjaaDoorBase
import Derived.StillTailTactics
import Derived.Test.YtecffghcpknmjaaDoorOwn2
import Derived.Test.YtecffghcpknmjaaDoorProg
import Derived.BigRegion
import Derived.IntWalk
import Derived.LoopTactic
namespace Go.Proofs.YtecffghcpknmjaaDoor
open Go Go.RowKit

def isSnapP (p : PartV) : Bool := !p.number && decide (p.text = wSnapshot)
theorem snapV_any (T : Bs) : snapV T = (partsV T).any isSnapP := rfl
theorem snap_lit (t : Bs) : ((bs t).toList == [115, 110, 97, 112, 115, 104, 111, 116]) = decide (t = wSnapshot) := by
  rw [bs_toList, Bool.eq_iff_iff, beq_iff_eq, decide_eq_true_iff]; rfl
theorem snapClo_any (p : PartV) (w : World) : Calls Tryd.prog 44 #[.agg #[.bool p.hyphen, .bool p.number, .string (bs p.text)]] w fun e w' => e = .returned (.bool (isSnapP p)) ∧ Below w.heap.size w w' := by
  have hl := snap_lit p.text
  unfold isSnapP
  obtain ⟨hy, nm, t⟩ := p
  simp only at hl ⊢
  generalize decide (t = wSnapshot) = q at *
  cases nm
  · go_enter Tryd.func44, Tryd.ntmps44
    go_wp2
    go_ret
    exact ⟨rfl, (Below.refl _ _).alloc (Nat.le_refl _) _⟩
  · go_enter Tryd.func44, Tryd.ntmps44
    go_wp2
    go_ret
    exact ⟨rfl, (Below.refl _ _).alloc (Nat.le_refl _) _⟩
theorem enters_snap : ∀ (args : Array Value) (w : World), (callFunc 44 args).run Tryd.prog w = .ok (.enter 44 args) w := fun args w => by kernel_rfl
set_option maxRecDepth 100000 in
set_option maxHeartbeats 4000000 in
/-- slices.IndexFunc at parts: whether the place that it finds is one tells whether there is a snapshot's part. -/
theorem snapIndex_any (l : List PartV) (ao : Option Addr) (c : Nat) (w : World) (h : SliceOf 3 prtC w (.slice ao l.length c) l) (hl : l.length ≤ 1000000) :
    Calls Tryd.prog 69 #[.slice ao l.length c, .func (.func 44) #[] #[]] w fun e w' => (∃ i : Int, e = .returned (.int .i64 i) ∧ decide (0 ≤ i) = l.any isSnapP) ∧ Below w.heap.size w w' := by
  have HS := Lib.hid h
  have hen := enters_snap
  clear h
  go_enter Tryd.func69, Tryd.ntmps69
  go_wp2
  go_loopw [8] (fun i wr => ∃ k : Nat, i = .int .i64 k ∧ k ≤ l.length ∧ Hid (Below w.heap.size w wr) ∧ Hid (l.any isSnapP = (l.drop k).any isSnapP)) (fun i _ => l.length - (intOf i).toNat)
  case atStart => exact ⟨0, rfl, Nat.zero_le _, Below.refl _ _, rfl⟩
  case round =>
    obtain ⟨k, rfl, hk, HB, HA⟩ := hrel
    by_cases hlt : k < l.length
    · obtain ⟨b, o, hao, hbl, hc⟩ := (HS.out.below HB.out).at hlt
      cases hao
      have d1 : (k : Int) < (l.length : Int) := by omega
      have wk : IntKind.i64.wrap ((k : Int) + 1) = (k : Int) + 1 := IntWalk.i64_in _ (by omega)
      have HD : Hid (l.any isSnapP = (isSnapP l[k] || (l.drop (k + 1)).any isSnapP)) := by show _ = _; rw [HA.out, drop_cons' hlt, List.any_cons]
      have c0 := hc 0 _ rfl
      have c1 := hc 1 _ rfl
      have c2 := hc 2 _ rfl
      rw [Nat.add_zero] at c0
      generalize l[k] = p at *
      clear hc HA
      have hcl := fun w => snapClo_any p w
      have HCL := Lib.hid hcl
      clear hcl
      generalize isSnapP p = q at *
      go_wp2_with fail
      refine (HCL.out _).mono ?_
      rintro e w' ⟨rfl, hb⟩
      have HB2 := Lib.hid (HB.out.trans (hb.mono HB.out.size))
      clear hb HB c0 c1 c2
      cases q
      · go_wp2
        go_roundw
        case rel => exact ⟨k + 1, by first | rfl | go_num, hlt, HB2, HD⟩
        case measure => simp [intOf]; omega
      · go_wp2
        go_ret
        exact ⟨⟨k, rfl, by rw [HD.out]; simp⟩, HB2.out⟩
    · obtain rfl : k = l.length := by omega
      have d1 : ¬ (l.length : Int) < (l.length : Int) := by omega
      have HD : Hid (l.any isSnapP = false) := by show _ = _; rw [HA.out, List.drop_length]; rfl
      clear HA
      go_wp2
      go_ret
      exact ⟨⟨-1, rfl, by rw [HD.out]; rfl⟩, HB.out⟩
set_option maxRecDepth 100000 in
theorem snapContains_any (l : List PartV) (ao : Option Addr) (c : Nat) (w : World) (h : SliceOf 3 prtC w (.slice ao l.length c) l) (hl : l.length ≤ 1000000) :
    Calls Tryd.prog 42 #[.slice ao l.length c, .func (.func 44) #[] #[]] w fun e w' => e = .returned (.bool (l.any isSnapP)) ∧ Below w.heap.size w w' := by
  have HI := Lib.hid (snapIndex_any l ao c w h hl)
  clear h hl
  go_enter Tryd.func42, Tryd.ntmps42
  go_wp2_with fail
  refine HI.out.mono ?_
  rintro e w' ⟨⟨i, rfl, hi⟩, hb⟩
  have HB := Lib.hid hb
  have HQ := Lib.hid hi
  clear hb hi
  go_wp2
  go_ret
  exact ⟨by rw [← HQ.out]; rfl, HB.out⟩
set_option maxRecDepth 100000 in
theorem isSnapshot_any (s : S) (w : World) (hs : s.size ≤ 900000) : Calls Tryd.prog 19 #[.string s] w fun e w' => e = .returned (.bool (snapV s.data.toList)) ∧ Below w.heap.size w w' := by
  have HP := Lib.hid (parts_any s w hs)
  have HL : Hid ((partsV s.data.toList).length ≤ 1000000) := partsV_len s hs
  clear hs
  go_enter Tryd.func19, Tryd.ntmps19
  go_wp2_with fail
  refine HP.out.mono ?_
  rintro e w1 ⟨v1, rfl, hp1, hb1⟩
  obtain ⟨ao, ac, rfl⟩ := hp1.shape
  have HC := Lib.hid (snapContains_any _ ao ac w1 (hp1.slice prtC_len) HL.out)
  have HB := Lib.hid hb1
  clear hp1 hb1 HP
  go_wp2_with fail
  refine HC.out.mono ?_
  rintro e w2 ⟨rfl, hb2⟩
  have HB2 := Lib.hid (HB.out.trans (hb2.mono HB.out.size))
  clear hb2 HC
  go_wp2
  go_ret
  exact ⟨rfl, HB2.out⟩
set_option maxRecDepth 100000 in
set_option maxHeartbeats 4000000 in
theorem refIsSnapshot_of (HPT : RefPartsOk) (s : S) (w : World) (hs : s.size ≤ 900000) : Calls Tryd.prog 20 #[.string s] w fun e w' => e = .returned (.bool (snapV s.data.toList)) ∧ Below w.heap.size w w' := by
  have HP := Lib.hid (HPT s w hs)
  have HL : Hid ((partsV s.data.toList).length ≤ 1000000) := partsV_len s hs
  have HV := Lib.hid (snapV_any s.data.toList)
  clear hs HPT
  go_enter Tryd.func20, Tryd.ntmps20
  go_wp2_with fail
  refine HP.out.mono ?_
  rintro e w1 ⟨v1, rfl, hp1, hb1⟩
  obtain ⟨ao, ac, rfl⟩ := hp1.shape
  have HS := Lib.hid (hp1.slice docC_len)
  have HB1 := Lib.hid hb1
  clear hp1 hb1 HP
  generalize partsV s.data.toList = l at *
  go_wp2
  go_loopw [8] (fun i wr => ∃ k : Nat, i = .int .i64 k ∧ k ≤ l.length ∧ Hid (Below w1.heap.size w1 wr) ∧ Hid (l.any isSnapP = (l.drop k).any isSnapP)) (fun i _ => l.length - (intOf i).toNat)
  case atStart => exact ⟨0, rfl, Nat.zero_le _, Below.refl _ _, rfl⟩
  case round =>
    obtain ⟨k, rfl, hk, HB, HA⟩ := hrel
    by_cases hlt : k < l.length
    · obtain ⟨b, o, hao, hbl, hc⟩ := (HS.out.below HB.out).at hlt
      cases hao
      have d1 : (k : Int) < (l.length : Int) := by omega
      have wk : IntKind.i64.wrap ((k : Int) + 1) = (k : Int) + 1 := IntWalk.i64_in _ (by have := HL.out; omega)
      have HD : Hid (l.any isSnapP = (isSnapP l[k] || (l.drop (k + 1)).any isSnapP)) := by show _ = _; rw [HA.out, drop_cons' hlt, List.any_cons]
      have c0 := hc 0 _ rfl
      have c1 := hc 1 _ rfl
      have c2 := hc 2 _ rfl
      rw [Nat.add_zero] at c0
      generalize l[k] = p at *
      obtain ⟨hy, nm, t⟩ := p
      have hl := snap_lit t
      have HX : Hid (isSnapP ⟨hy, nm, t⟩ = (!nm && decide (t = wSnapshot))) := rfl
      simp only at c0 c1 c2
      clear hc HA
      rw [show isSnapP ⟨hy, nm, t⟩ = _ from HX.out] at HD
      generalize decide (t = wSnapshot) = q at *
      have HB2 : Hid (Below w1.heap.size w1 (wr.alloc (.cells #[.bool (!nm), .bool hy, .string (bs t)] 70))) := HB.out.alloc HB.out.size _
      clear HX
      cases nm
      · cases q
        · go_wp2
          go_roundw
          case rel => exact ⟨k + 1, by first | rfl | go_num, hlt, HB2, HD⟩
          case measure => simp [intOf]; omega
        · go_wp2
          go_ret
          exact ⟨by rw [HV.out, HD.out]; rfl, HB1.out.trans (HB2.out.mono HB1.out.size)⟩
      · go_wp2
        go_roundw
        case rel => exact ⟨k + 1, by first | rfl | go_num, hlt, HB2, HD⟩
        case measure => simp [intOf]; omega
    · obtain rfl : k = l.length := by omega
      have d1 : ¬ (l.length : Int) < (l.length : Int) := by omega
      have HD : Hid (l.any isSnapP = false) := by show _ = _; rw [HA.out, List.drop_length]; rfl
      clear HA
      go_wp2
      go_ret
      exact ⟨by rw [HV.out, HD.out]; rfl, HB1.out.trans (HB.out.mono HB1.out.size)⟩

end Go.Proofs.YtecffghcpknmjaaDoor

/- The walks of slices.Backward at texts and of meta.release, which ranges over it; the conditions stand in the theorems. -/
namespace Go.Proofs.YtecffghcpknmjaaDoor
open Go Go.RowKit Go.Shelf

attribute [local go_sem] Oper.semAt_some
abbrev SmallS := { x : S // x.size ≤ 900000 }
def noSmall : SmallS := ⟨⟨#[]⟩, by decide⟩
def backAt (zs : List SmallS) (k : Nat) : Nat × SmallS := (zs.length - 1 - k, zs[zs.length - 1 - k]?.getD noSmall)
def backUpto (zs : List SmallS) (k : Nat) : List (Nat × SmallS) := (List.range k).map (backAt zs)
theorem backUpto_succ (zs : List SmallS) (k : Nat) : backUpto zs (k + 1) = backUpto zs k ++ [backAt zs k] := by simp [backUpto, List.range_succ]
theorem backUpto_length (zs : List SmallS) (k : Nat) : (backUpto zs k).length = k := by simp [backUpto]
/-- The texts lie in a block below n₀. -/
def SmallIn (n₀ : Nat) (W : World) (ao : Option Addr) (zs : List SmallS) : Prop := ∀ j (hj : j < zs.length), ∃ b o, ao = some ⟨b, o, none⟩ ∧ b < n₀ ∧ W.cell? ⟨b, o + j, none⟩ = some (.string zs[j].1)
theorem SmallIn.below {n₀ : Nat} {A B : World} {ao : Option Addr} {zs : List SmallS} (h : SmallIn n₀ A ao zs) (hb : Below n₀ A B) : SmallIn n₀ B ao zs := fun j hj => by
  obtain ⟨b, o, h1, h2, h3⟩ := h j hj
  exact ⟨b, o, h1, h2, (hb.cell (p := ⟨b, o + j, none⟩) h2).trans h3⟩
set_option maxRecDepth 100000 in
set_option maxHeartbeats 2000000 in
theorem back1_in (F : Fence) (n : Nat) (hf : F.fn 84) (hro : F.round = none) (hn : 1 ≤ n) (l Bs n₀ cap : Nat) (ao : Option Addr) (zs : List SmallS) (hlen : zs.length ≤ 1000000) (J Jx : List (Nat × SmallS) → World → Prop)
    (hY : ∀ pre x W, J pre W → pre.length < zs.length → YieldAt F (n - 1) Tryd.prog l #[.int .i64 (x.1 : Int), .string x.2.1] W fun e W' =>
      (e = .returned (.bool true) ∧ J (pre ++ [x]) W' ∧ Below n₀ W W') ∨ (e = .returned (.bool false) ∧ Jx (pre ++ [x]) W'))
    (W : World) (hBl : Bs < n₀) (hBs : W.cell? ⟨Bs, 0, none⟩ = some (.slice ao zs.length cap)) (hc : SmallIn n₀ W ao zs) (h0 : J [] W) :
    CallsIn F n Tryd.prog 84 #[.func (.yield l) #[] #[], .pointer (some ⟨Bs, 0, none⟩)] W fun e W' => (∃ v, e = .returned v) ∧
      ((∃ ys, ys = backUpto zs zs.length ∧ J ys W') ∨ (∃ pre, (∃ k, k ≤ zs.length ∧ pre = backUpto zs k) ∧ Jx pre W')) := by
  have wl : IntKind.i64.wrap ((zs.length : Int) - 1) = (zs.length : Int) - 1 := IntWalk.i64_in _ (by omega)
  refine callsIn_of_wp Tryd.func84 rfl hf ?_ hro
  simp only [Tryd.ntmps84, List.size_toArray, List.length_cons, List.length_nil, Nat.reduceAdd, Nat.reduceSub, Array.replicate_succ, Array.replicate_zero, List.push_toArray, List.append_toArray, List.nil_append, List.cons_append]
  gi_wp2
  clear wl
  gi_loopw [3] (fun i wr => ∃ m k : Nat, m + k = zs.length ∧ i = .int .i64 ((m : Int) - 1) ∧ J (backUpto zs k) wr ∧ Below n₀ W wr) (fun i _ => (intOf i + 1).toNat)
  case atStart => exact ⟨zs.length, 0, rfl, rfl, h0, Below.refl _ _⟩
  case round =>
    obtain ⟨m, k, hmk, rfl, hJs, hnx⟩ := hrel
    cases m with
    | zero =>
      have d1 : ¬ (0 : Int) ≤ ((0 : Nat) : Int) - 1 := by omega
      have d2 : ¬ (0 : Int) ≤ -1 := by omega
      gi_wp2
      go_end0
      obtain rfl : k = zs.length := by omega
      first | exact ⟨⟨_, rfl⟩, .inl ⟨_, rfl, hJs⟩⟩ | exact ⟨⟨_, rfl⟩, .inl hJs⟩
    | succ m =>
      have hkz : k < zs.length := by omega
      have hat : backAt zs k = (m, zs[m]'(by omega)) := by
        unfold backAt
        rw [show zs.length - 1 - k = m by omega, List.getElem?_eq_getElem (by omega)]; rfl
      obtain ⟨fn, tmps, assign, body, hy, hR⟩ := hY _ (backAt zs k) wr hJs (by rw [backUpto_length]; exact hkz)
      obtain ⟨b, o, rfl, hb, hcell⟩ := (hc.below hnx) m (by omega)
      have hBs' := (hnx.cell (p := ⟨Bs, 0, none⟩) hBl).trans hBs
      rw [hat] at hy
      dsimp only at hy
      have em : ((m + 1 : Nat) : Int) - 1 = (m : Int) := by omega
      have d1 : (0 : Int) ≤ (m : Int) := by omega
      have lm : (m : Int) < (zs.length : Int) := by omega
      have wm : IntKind.i64.wrap ((m : Int) - 1) = (m : Int) - 1 := IntWalk.i64_in _ (by omega)
      rw [em]
      have HMK := Lib.hid hmk
      have hml : m < zs.length := by omega
      generalize zs[m]'hml = x at *
      clear em hat hmk hml
      gi_wp2
      refine hR.mono ?_
      rintro e W3 (⟨rfl, hJ3, hk3⟩ | ⟨rfl, hJx3⟩)
      · gi_wp2
        go_roundw
        case rel => exact ⟨m, k + 1, by have := HMK.out; change _ = _ at this; omega, rfl, by rw [backUpto_succ]; exact hJ3, hnx.trans hk3⟩
        case measure => simp [intOf]
      · gi_wp2
        refine bodyPost_ret (results_none rfl _ _ _) rfl ?_
        exact ⟨⟨_, rfl⟩, .inr ⟨_, ⟨k + 1, by omega, (backUpto_succ _ _).symm⟩, hJx3⟩⟩
theorem backward_in (F : Fence) (n : Nat) (hf : F.fn 65) (hro : F.round = none) (a : Option Addr) (len cap : Nat) (w : World) :
    CallsIn F n Tryd.prog 65 #[.slice a len cap] w fun e w' => e = .returned (.func (.func 84) #[] #[.pointer (some ⟨w.heap.size, 0, none⟩)]) ∧ w' = w.alloc (.cells #[.slice a len cap] 29) := by
  refine callsIn_of_wp Tryd.func65 rfl hf ?_ hro
  simp only [Tryd.ntmps65, List.size_toArray, List.length_cons, List.length_nil, Nat.reduceAdd, Nat.reduceSub, Array.replicate_succ, Array.replicate_zero, List.push_toArray, List.append_toArray, List.nil_append, List.cons_append]
  gi_wp2
  go_ret
  exact ⟨rfl, rfl⟩
theorem back_stops (F : Fence) (n : Nat) (hf : F.fn 84) (hro : F.round = none) (hn : 1 ≤ n) (Bs n₀ cap : Nat) (ao : Option Addr) (zs : List SmallS) (hlen : zs.length ≤ 1000000) (w : World) (hBs : Bs < n₀) (hn₀ : n₀ ≤ w.heap.size)
    (hc : w.cell? ⟨Bs, 0, none⟩ = some (.slice ao zs.length cap)) (hI : SmallIn n₀ w ao zs) :
    SeqStopsK F n Tryd.prog 84 #[.pointer (some ⟨Bs, 0, none⟩)] (fun x : Nat × SmallS => #[Value.int .i64 (x.1 : Int), Value.string x.2.1]) (Below n₀) (fun ys => ys = backUpto zs zs.length) (fun pre => ∃ k, k ≤ zs.length ∧ pre = backUpto zs k) zs.length w := fun l J Jx W hW _ _ hY h0 =>
  back1_in F n hf hro hn l Bs n₀ cap ao zs hlen J Jx hY W hBs ((hW.cell (p := ⟨Bs, 0, none⟩) (Nat.lt_of_lt_of_le hBs hn₀)).trans hc) (hI.below (hW.mono hn₀)) h0
/-- The last text that is no snapshot. -/
def relV (l : List S) : S := (l.reverse.find? fun v => !snapV v.data.toList).getD ⟨#[]⟩
def snapX (x : Nat × SmallS) : Bool := snapV x.2.1.data.toList
theorem backUpto_texts (zs : List SmallS) (k : Nat) (hk : k ≤ zs.length) : (backUpto zs k).map (fun x => x.2.1) = (zs.map (·.1)).reverse.take k := by
  apply List.ext_getElem
  · simp [backUpto, hk]
  · intro i h1 h2
    have hi : i < k := by simpa [backUpto] using h1
    have e : zs.length - 1 - i < zs.length := by omega
    simp [backUpto, backAt, List.getElem_reverse, List.getElem?_eq_getElem e]
theorem find_none {zs : List SmallS} (h : ∀ p ∈ backUpto zs zs.length, snapX p = true) : relV (zs.map (·.1)) = ⟨#[]⟩ := by
  have e := backUpto_texts zs zs.length (Nat.le_refl _)
  rw [List.take_of_length_le (by simp)] at e
  unfold relV
  rw [← e, List.find?_map]
  rw [List.find?_eq_none.2 (fun p hp => by have := h p hp; unfold snapX at this; simp [this])]
  rfl
theorem find_some {zs : List SmallS} {k : Nat} (hk : k ≤ zs.length) {ini : List (Nat × SmallS)} {last : Nat × SmallS} (e : backUpto zs k = ini ++ [last]) (h : ∀ p ∈ ini, snapX p = true) (hl : snapX last = false) : relV (zs.map (·.1)) = last.2.1 := by
  have e1 := backUpto_texts zs k hk
  rw [e, List.map_append] at e1
  unfold relV
  rw [← List.take_append_drop k (zs.map (·.1)).reverse, ← e1, List.find?_append, List.find?_append, List.find?_eq_none.2 (fun s hs => by
    obtain ⟨p, hp, rfl⟩ := List.mem_map.1 hs
    have := h p hp
    unfold snapX at this; simp [this])]
  unfold snapX at hl
  simp [hl]
set_option maxRecDepth 100000 in
set_option maxHeartbeats 2000000 in
theorem release_any (zs : List SmallS) (ao : Option Addr) (cap : Nat) (w : World) (hS : SliceOf 1 strC w (.slice ao zs.length cap) (zs.map (·.1))) (hlen : zs.length ≤ 1000000) :
    Calls Tryd.prog 35 #[.slice ao zs.length cap] w fun e w' => e = .returned (.string (relV (zs.map (·.1)))) ∧ Below w.heap.size w w' := by
  have hI : SmallIn w.heap.size w ao zs := fun j hj => by
    obtain ⟨ao', cap', h1, h2, hm, h3, h4⟩ := hS
    rw [List.length_map] at h1
    cases h1
    obtain ⟨b, o, e1, e2, e3⟩ := h4 j zs[j].1 (by simp [hj])
    exact ⟨b, o, e1, e2, by simpa using e3 0 _ rfl⟩
  clear hS
  refine (callsIn_wide (n := 3)).1 ?_
  refine callsIn_of_wp_marks Tryd.func35 rfl trivial ?_ rfl
  simp only [Tryd.ntmps35, List.size_toArray, List.length_cons, List.length_nil, Nat.reduceAdd, Nat.reduceSub, Array.replicate_succ, Array.replicate_zero, List.push_toArray, List.append_toArray, List.nil_append, List.cons_append]
  gi_wp2_with (refine ⟨trivial, ?_⟩; gi_at_call 65; refine (backward_in Fence.wide 2 trivial rfl _ _ _ _).mono ?_; rintro e w' ⟨rfl, rfl⟩)
  have bS := Boxed.new w 9 (.string ⟨#[]⟩)
  have bN := Boxed.new (w.alloc (.cells #[.string ⟨#[]⟩] 9)) 29 (.slice ao zs.length cap)
  rw [World.size_alloc] at bN
  have hB0 : Below w.heap.size w ((w.alloc (.cells #[.string ⟨#[]⟩] 9)).alloc (.cells #[.slice ao zs.length cap] 29)) := ((Below.refl _ w).alloc (Nat.le_refl _) _).alloc (by simp) _
  have hI2 : SmallIn (w.heap.size + 1 + 1) ((w.alloc (.cells #[.string ⟨#[]⟩] 9)).alloc (.cells #[.slice ao zs.length cap] 29)) ao zs := fun j hj => by
    obtain ⟨b, o, e1, e2, e3⟩ := (hI.below hB0) j hj
    exact ⟨b, o, e1, by omega, e3⟩
  refine wpIn_rangeFunc_ownG rfl (by decide) (gf := 84) (lb := #[.pointer (some ⟨w.heap.size + 1, 0, none⟩)]) rfl trivial (enters_of Tryd.func84 (by kernel_rfl) rfl)
    (back_stops Fence.wide 2 trivial rfl (by decide) (w.heap.size + 1) (w.heap.size + 1 + 1) cap ao zs hlen _ (by omega) (by simp) bN.cell hI2) belowK_t (belowK_b (by simp)) (Below.refl _ _) (fun _ => rfl)
    (fun pre W => ((∀ p ∈ pre, snapX p = true) ∧ W.cell? ⟨w.heap.size, 0, none⟩ = some (.string ⟨#[]⟩) ∧ W.frozen? ⟨w.heap.size, 0, none⟩ = false) ∧ (Below w.heap.size w W ∧ w.heap.size + 2 ≤ W.heap.size))
    (fun c pre W => (c = .ret ∧ ∃ ini last, pre = ini ++ [last] ∧ (∀ p ∈ ini, snapX p = true) ∧ snapX last = false ∧ W.cell? ⟨w.heap.size, 0, none⟩ = some (.string last.2.1)) ∧ Below w.heap.size w W)
    (OwnFrom.and (Own.from (fun s A B row hs hg hr => ⟨hs.1, cell_kept hs.2.1 hg hr, (frozen_kept hs.2.1 hg hr).trans hs.2.2⟩) _) (OwnFrom.and (ownFrom_below (Nat.le_refl _) (by simp; omega)) (Own.from (fun s A B row hs hg hr => Nat.le_trans hs hg.size) _)))
    (fun c => OwnFrom.and (Own.from (fun s A B row hs hg hr => by obtain ⟨hc, ini, last, e1, e2, e3, e4⟩ := hs; exact ⟨hc, ini, last, e1, e2, e3, cell_kept e4 hg hr⟩) _) (ownFrom_below (Nat.le_refl _) (by simp; omega)))
    ⟨⟨by simp, (bS.alloc _).cell, (bS.alloc _).frozen⟩, hB0, by simp⟩
    (fun x => { tmps := #[.slice ao zs.length cap, undef, .pointer (some ⟨w.heap.size, 0, none⟩), undef, .string x.2.1, .slice ao zs.length cap, .func (.func 84) #[] #[.pointer (some ⟨w.heap.size + 1, 0, none⟩)], .int .i64 (x.1 : Int), .string x.2.1, undef, undef, undef, undef], defers := [] }) ?assign ?body ?done ?stop
  case assign =>
    intro l x W K hK
    gi_wp2
    exact hK
  case body =>
    rintro l pre x W ⟨⟨hp, hcr, hfr⟩, hB, hsz⟩ _
    have HS : ∀ V : World, Calls Tryd.prog 19 #[.string x.2.1] V fun e w' => e = .returned (.bool (snapX x)) ∧ Below V.heap.size V w' := fun V => isSnapshot_any x.2.1 V x.2.2
    have HSN := Lib.hid HS
    clear HS
    cases hq : snapX x with
    | true =>
      rw [hq] at HSN
      have HQ := Lib.hid hq
      clear hq
      gi_wp2_with (refine ⟨trivial, ?_⟩; gi_at_call 19; refine (CallsIn.inRound l (callsIn_wide.2 (HSN.out _))).mono ?_; rintro e w' ⟨rfl, hb⟩)
      have hg : W.grownBy w' none := ⟨hb.os, hb.tape, hb.output, hb.size, fun k hk _ => hb.block k hk⟩
      refine ⟨(KeepsOthers.of_grownBy hg (fun j o ej hj => by cases ej)).from _, hb.mono (by omega), ⟨fun p hp' => (List.mem_append.1 hp').elim (hp p) (fun e => by rw [List.mem_singleton.1 e]; exact HQ.out), (hb.cell (p := ⟨w.heap.size, 0, none⟩) (by show w.heap.size < _; omega)).trans hcr, (hb.frozen (p := ⟨w.heap.size, 0, none⟩) (by show w.heap.size < _; omega)).trans hfr⟩, hB.trans (hb.mono hB.size), Nat.le_trans hsz hb.size⟩
    | false =>
      rw [hq] at HSN
      have HQ := Lib.hid hq
      clear hq
      gi_wp2_with (refine ⟨trivial, ?_⟩; gi_at_call 19; refine (CallsIn.inRound l (callsIn_wide.2 (HSN.out _))).mono ?_; rintro e w' ⟨rfl, hb⟩; have hcr' := (hb.cell (p := ⟨w.heap.size, 0, none⟩) (by show w.heap.size < _; omega)).trans hcr; have hfr' := (hb.frozen (p := ⟨w.heap.size, 0, none⟩) (by show w.heap.size < _; omega)).trans hfr)
      have hg : W.grownBy w' none := ⟨hb.os, hb.tape, hb.output, hb.size, fun k hk _ => hb.block k hk⟩
      exact ⟨((KeepsOthers.of_grownBy hg (fun j o ej hj => by cases ej)).trans (KeepsOthers.setCell _ _ _)).from _, ⟨rfl, pre, x, rfl, hp, HQ.out, World.cell?_setCell_same' _ _ _ (by rw [hcr']; rfl)⟩, (hB.trans (hb.mono hB.size)).setCell (p := ⟨w.heap.size, 0, none⟩) (Nat.le_refl _) _⟩
  case done =>
    rintro D ys W hD rfl ⟨⟨hne, hcr, hfr⟩, hB, hsz⟩ hK
    gi_wp2
    have hK' := (KeepsOthers.setCell W ⟨w.heap.size, 0, none⟩ (.string ⟨#[]⟩)).same D _ hK rfl
    refine ⟨by simp, .inl ⟨_, _, rfl, run_takeDeferred hK', ?_⟩⟩
    have hc5 := cell_kept (World.cell?_setCell_same' W ⟨w.heap.size, 0, none⟩ (.string ⟨#[]⟩) (by rw [hcr]; rfl)) (grownBy_putObj' _ D (.deferred none)) (fun r e => by cases e; exact ⟨_, hK', rfl⟩)
    refine ⟨.string ⟨#[]⟩, ?_, by rw [find_none hne], (hB.setCell (p := ⟨w.heap.size, 0, none⟩) (Nat.le_refl _) _).trans (belowK_b (w := w) (Nat.le_refl _) _ D _ _ (by simp at hD; omega) hK' rfl rfl)⟩
    simp [results, Tryd.f35, go_sem, hc5]
  case stop =>
    rintro D c pre W hD ⟨k, hk, rfl⟩ ⟨⟨rfl, ini, last, e1, e2, e3, hcr⟩, hB⟩ hK
    gi_wp2
    refine ⟨by simp, .inl ⟨_, _, rfl, run_takeDeferred hK, ?_⟩⟩
    have hc5 := cell_kept hcr (grownBy_putObj' _ D (.deferred none)) (fun r e => by cases e; exact ⟨_, hK, rfl⟩)
    refine ⟨.string last.2.1, ?_, by rw [find_some hk e1 e2 e3], hB.trans (belowK_b (w := w) (Nat.le_refl _) W D _ _ (by simp at hD; omega) hK rfl rfl)⟩
    simp [results, Tryd.f35, go_sem, hc5]

end Go.Proofs.YtecffghcpknmjaaDoor

/- What a Meta is in memory; the walks of meta.Same and of the document's; the conditions stand in the theorems. -/
namespace Go.Proofs.YtecffghcpknmjaaDoor
open Go Go.RowKit

structure MetaD where
  id : Id
  vers : List S
  latest : S
  rel : S
  deriving DecidableEq
def metaC (m : MetaD) (v : Value) : List Value := [.string m.id.group, .string m.id.artifact, v, .string m.latest, .string m.rel]
def metaAg (m : MetaD) (v : Value) : Value := .agg (metaC m v).toArray
theorem str_beqV (a b : S) : (a.toList == b.toList) = decide (a = b) := by
  rw [Bool.eq_iff_iff, beq_iff_eq, decide_eq_true_iff, ByteArray.toList_eq, ByteArray.toList_eq]
  constructor
  · intro h
    obtain ⟨⟨x⟩⟩ := a
    obtain ⟨⟨y⟩⟩ := b
    simpa using h
  · rintro rfl; rfl
theorem eqg_idV : Tryd.prog.eqGuardType Tryd.prog.depth 24 = false := by kernel_rfl
theorem eqs_idV : Tryd.prog.stoodInHeld 24 = false := by kernel_rfl
theorem eql_idV (a0 a1 b0 b1 : S) (w : World) : (binOp .eql 24 (.agg #[.string a0, .string a1]) (.agg #[.string b0, .string b1])).run Tryd.prog w = .ok (.bool (decide (a0 = b0) && decide (a1 = b1))) w := by
  have h := eqs_idV
  by_cases h0 : a0 = b0 <;> by_cases h1 : a1 = b1 <;> simp [go_sem, h, h0, h1, str_beqV]
theorem neq_idV (a0 a1 b0 b1 : S) (w : World) : (binOp .neq 24 (.agg #[.string a0, .string a1]) (.agg #[.string b0, .string b1])).run Tryd.prog w = .ok (.bool (!(decide (a0 = b0) && decide (a1 = b1)))) w := by
  have h := eqs_idV
  by_cases h0 : a0 = b0 <;> by_cases h1 : a1 = b1 <;> simp [go_sem, h, h0, h1, str_beqV]
theorem belowDrew (w : World) (n : Nat) : Below w.heap.size w (w.drewN n) := ⟨rfl, rfl, rfl, Nat.le_refl _, fun _ _ => rfl⟩
theorem cellsOf {w : World} {b o n cap : Nat} {l : List S} (h : SliceOf 1 strC w (.slice (some ⟨b, o, none⟩) n cap) l) : ∀ j, j < l.length → w.cell? ⟨b, o + j, none⟩ = some (.string (l.getD j ByteArray.empty)) := fun j hj => by
  obtain ⟨ao', cap', h1, h2, hm, h3, h4⟩ := h
  cases h1
  obtain ⟨b', o', e, _, hc'⟩ := h4 j l[j] (List.getElem?_eq_getElem hj)
  cases e
  have := hc' 0 _ rfl
  rw [Nat.mul_one, Nat.add_zero] at this
  rw [this, List.getD_eq_getElem?_getD, List.getElem?_eq_getElem hj]; rfl
/-- slices.Equal of texts that two slices read as. -/
theorem equalV_any {w : World} {v u : Value} {l m : List S} (h : SliceOf 1 strC w v l) (g : SliceOf 1 strC w u m) (hl : l.length ≤ 1000000) (hm : m.length ≤ 1000000) :
    Calls Tryd.prog 45 #[v, u] w fun e w' => e = .returned (.bool (decide (l = m))) ∧ Below w.heap.size w w' := by
  obtain ⟨ao, ac, rfl⟩ := h.shape
  obtain ⟨bo, bc, rfl⟩ := g.shape
  by_cases hlm : l.length = m.length
  · cases l with
    | nil =>
      obtain rfl : m = [] := List.eq_nil_of_length_eq_zero hlm.symm
      exact (Tryd.slices_Equal_string_empty ao bo ac 0 bc w (by decide)).mono fun e w' ⟨h1, h2⟩ => by subst h2; exact ⟨h1, Below.refl _ _⟩
    | cons x r =>
      cases m with
      | nil => cases hlm
      | cons y t =>
        obtain ⟨ao', c', e1, _, _, _, h4⟩ := h
        obtain ⟨bo', d', e2, _, _, _, g4⟩ := g
        cases e1
        cases e2
        obtain ⟨b1, o1, rfl, _, _⟩ := h4 0 x rfl
        obtain ⟨b2, o2, rfl, _, _⟩ := g4 0 y rfl
        refine (Tryd.slices_Equal_string b1 o1 (x :: r).length ac b2 o2 (y :: t).length bc (x :: r) (y :: t) w (Nat.le_refl _) (Nat.le_refl _) (by omega) (by omega) (cellsOf ⟨_, _, rfl, by assumption, by assumption, by assumption, h4⟩) (cellsOf ⟨_, _, rfl, by assumption, by assumption, by assumption, g4⟩)).mono ?_
        rintro e w' ⟨h1, q, rfl⟩
        rw [List.take_length, List.take_length] at h1
        exact ⟨h1, belowDrew _ _⟩
  · refine (Tryd.slices_Equal_string_lens ao bo l.length ac m.length bc w hlm).mono fun e w' ⟨h1, h2⟩ => ?_
    subst h2
    refine ⟨by rw [h1, decide_eq_false]; intro e; exact hlm (by rw [e]), Below.refl _ _⟩
theorem metaD_eq (a b : MetaD) : decide (a = b) = (((decide (a.id.group = b.id.group) && decide (a.id.artifact = b.id.artifact)) && decide (a.vers = b.vers)) && decide (a.latest = b.latest) && decide (a.rel = b.rel)) := by
  obtain ⟨⟨ag, aa⟩, av, al, ar⟩ := a
  obtain ⟨⟨bg, ba⟩, bv, bl, br⟩ := b
  rw [Bool.eq_iff_iff]
  simp [and_assoc]
attribute [local go_sem ↓] eqg_idV eql_idV neq_idV str_beqV in
set_option maxRecDepth 100000 in
set_option maxHeartbeats 4000000 in
theorem metaSame_any (a b : MetaD) (va vb : Value) (w : World) (ha : SliceOf 1 strC w va a.vers) (hb : SliceOf 1 strC w vb b.vers) (la : a.vers.length ≤ 1000000) (lb : b.vers.length ≤ 1000000) :
    Calls Tryd.prog 21 #[metaAg a va, metaAg b vb] w fun e w' => e = .returned (.bool (decide (a = b))) ∧ Below w.heap.size w w' := by
  have HD := Lib.hid (metaD_eq a b)
  obtain ⟨ao, ac, rfl⟩ := ha.shape
  obtain ⟨bo, bc, rfl⟩ := hb.shape
  have HE : Hid (∀ W, Below w.heap.size w W → Calls Tryd.prog 45 #[.slice ao a.vers.length ac, .slice bo b.vers.length bc] W fun e w' => e = .returned (.bool (decide (a.vers = b.vers))) ∧ Below W.heap.size W w') := fun W h => equalV_any (ha.below h) (hb.below h) la lb
  clear ha hb la lb
  obtain ⟨⟨ag, aa⟩, av, al, ar⟩ := a
  obtain ⟨⟨bg, ba⟩, bv, bl, br⟩ := b
  unfold metaAg metaC
  simp only at HD HE ⊢
  generalize h1 : decide (ag = bg) = q1 at *
  generalize h2 : decide (aa = ba) = q2 at *
  generalize decide (av = bv) = q3 at *
  generalize h4 : decide (al = bl) = q4 at *
  generalize h5 : decide (ar = br) = q5 at *
  go_enter Tryd.func21, Tryd.ntmps21
  go_upto_region 1 with fail
  refine wp_world ?_
  intro W hW
  have x1 : Box W w.heap.size [.string ag, .string aa, .slice ao av.length ac, .string al, .string ar] := by rw [hW]; exact (Box.new w [.string ag, .string aa, .slice ao av.length ac, .string al, .string ar] _ _ rfl).alloc _
  have y1 : Box W (w.heap.size + 1) [.string bg, .string ba, .slice bo bv.length bc, .string bl, .string br] := by rw [hW]; exact Box.new _ [.string bg, .string ba, .slice bo bv.length bc, .string bl, .string br] _ _ (by simp)
  have hb : Below w.heap.size w W := by rw [hW]; exact ((Below.refl _ w).alloc (Nat.le_refl _) _).alloc (by simp) _
  clear hW
  have HX := Lib.hid x1
  have HY := Lib.hid y1
  have HB := Lib.hid hb
  have x0 := x1.cell 0 _ rfl
  have x1' := x1.cell 1 _ rfl
  have x2 := x1.cell 2 _ rfl
  have x3 := x1.cell 3 _ rfl
  have x4 := x1.cell 4 _ rfl
  have xl := x1.lt
  have y0 := y1.cell 0 _ rfl
  have y1' := y1.cell 1 _ rfl
  have y2 := y1.cell 2 _ rfl
  have y3 := y1.cell 3 _ rfl
  have y4 := y1.cell 4 _ rfl
  have yl := y1.lt
  clear x1 y1 hb
  cases hq : (q1 && q2) with
  | false =>
    rw [hq] at HD
    go_wp2
    go_ret
    exact ⟨by rw [HD.out]; simp, HB.out⟩
  | true =>
    rw [hq] at HD
    go_wp2_with fail
    refine (HE.out _ HB.out).mono ?_
    rintro e W2 ⟨rfl, hb2⟩
    have HX2 := Lib.hid (HX.out.below hb2 HX.out.lt)
    have HY2 := Lib.hid (HY.out.below hb2 HY.out.lt)
    have HB2 := Lib.hid (HB.out.trans (hb2.mono HB.out.size))
    clear hb2 HE x0 x1' x2 x3 x4 xl y0 y1' y2 y3 y4 yl HX HY HB
    have x3 := HX2.out.cell 3 _ rfl
    have x4 := HX2.out.cell 4 _ rfl
    have xl := HX2.out.lt
    have y3 := HY2.out.cell 3 _ rfl
    have y4 := HY2.out.cell 4 _ rfl
    have yl := HY2.out.lt
    cases q3
    · go_wp2
      go_ret
      exact ⟨by rw [HD.out]; simp, HB2.out⟩
    · cases q4
      · go_wp2
        go_ret
        exact ⟨by rw [HD.out]; simp, HB2.out⟩
      · go_wp2
        go_ret
        exact ⟨by rw [HD.out]; simp, HB2.out⟩
/-- Rows of the same length, compared from one place on. -/
theorem eq_drop {l m : List S} (h : l.length = m.length) (k : Nat) (hk : k < l.length) : (l.drop k = m.drop k) ↔ (l[k] = m[k]'(h ▸ hk) ∧ l.drop (k + 1) = m.drop (k + 1)) := by
  have e2 : m.drop k = m[k]'(h ▸ hk) :: m.drop (k + 1) := drop_cons' _
  rw [drop_cons' hk, e2, List.cons.injEq]
attribute [local go_sem ↓] eqg_idV eql_idV neq_idV str_beqV in
set_option maxRecDepth 100000 in
set_option maxHeartbeats 4000000 in
theorem refMetaSame_any (a b : MetaD) (va vb : Value) (w : World) (ha : SliceOf 1 strC w va a.vers) (hb : SliceOf 1 strC w vb b.vers) (la : a.vers.length ≤ 1000000) :
    Calls Tryd.prog 10 #[metaAg a va, metaAg b vb] w fun e w' => e = .returned (.bool (decide (a = b))) ∧ Below w.heap.size w w' := by
  have HD := Lib.hid (metaD_eq a b)
  obtain ⟨ao, ac, rfl⟩ := ha.shape
  obtain ⟨bo, bc, rfl⟩ := hb.shape
  have HA := Lib.hid ha
  have HBB := Lib.hid hb
  have HLA := Lib.hid la
  clear ha hb la
  obtain ⟨⟨ag, aa⟩, av, al, ar⟩ := a
  obtain ⟨⟨bg, ba⟩, bv, bl, br⟩ := b
  unfold metaAg metaC
  simp only at HD HA HBB HLA ⊢
  generalize h1 : decide (ag = bg) = q1 at *
  generalize h2 : decide (aa = ba) = q2 at *
  generalize h4 : decide (al = bl) = q4 at *
  generalize h5 : decide (ar = br) = q5 at *
  go_enter Tryd.func10, Tryd.ntmps10
  go_upto_region 1 with fail
  refine wp_world ?_
  intro W hW
  have x1 : Box W w.heap.size [.string ag, .string aa, .slice ao av.length ac, .string al, .string ar] := by rw [hW]; exact (Box.new w [.string ag, .string aa, .slice ao av.length ac, .string al, .string ar] _ _ rfl).alloc _
  have y1 : Box W (w.heap.size + 1) [.string bg, .string ba, .slice bo bv.length bc, .string bl, .string br] := by rw [hW]; exact Box.new _ [.string bg, .string ba, .slice bo bv.length bc, .string bl, .string br] _ _ (by simp)
  have hb : Below w.heap.size w W := by rw [hW]; exact ((Below.refl _ w).alloc (Nat.le_refl _) _).alloc (by simp) _
  clear hW
  have HB := Lib.hid hb
  have HSA := Lib.hid (HA.out.below hb)
  have HSB := Lib.hid (HBB.out.below hb)
  have x0 := x1.cell 0 _ rfl
  have x1' := x1.cell 1 _ rfl
  have x2 := x1.cell 2 _ rfl
  have x3 := x1.cell 3 _ rfl
  have x4 := x1.cell 4 _ rfl
  have xl := x1.lt
  have y0 := y1.cell 0 _ rfl
  have y1' := y1.cell 1 _ rfl
  have y2 := y1.cell 2 _ rfl
  have y3 := y1.cell 3 _ rfl
  have y4 := y1.cell 4 _ rfl
  have yl := y1.lt
  clear x1 y1 hb HA HBB
  cases hq : (q1 && q2) with
  | false =>
    rw [hq] at HD
    go_wp2
    go_ret
    exact ⟨by rw [HD.out]; simp, HB.out⟩
  | true =>
    rw [hq] at HD
    cases q4 with
    | false =>
      go_wp2
      go_ret
      exact ⟨by rw [HD.out]; simp, HB.out⟩
    | true =>
      cases q5 with
      | false =>
        go_wp2
        go_ret
        exact ⟨by rw [HD.out]; simp, HB.out⟩
      | true =>
        by_cases hlm : av.length = bv.length
        · have e1 : ((av.length : Int) == (bv.length : Int)) = true := by rw [beq_iff_eq]; omega
          have e1n : (av.length == bv.length) = true := by rw [beq_iff_eq]; exact hlm
          have HL := Lib.hid hlm
          have hbl : ∀ k : Nat, k < av.length → (k : Int) < (bv.length : Int) := fun k hk => by omega
          clear hlm
          go_wp2
          go_loopw [37] (fun i wr => ∃ k : Nat, i = .int .i64 k ∧ k ≤ av.length ∧ Hid (Below W.heap.size W wr) ∧ Hid (decide (av = bv) = decide (av.drop k = bv.drop k))) (fun i _ => av.length - (intOf i).toNat)
          case atStart => exact ⟨0, rfl, Nat.zero_le _, Below.refl _ _, rfl⟩
          case round =>
            obtain ⟨k, rfl, hk, HBr, HE⟩ := hrel
            by_cases hlt : k < av.length
            · obtain ⟨b1, o1, ha1, hl1, hc1⟩ := (HSA.out.below HBr.out).at1 hlt
              obtain ⟨b2, o2, ha2, hl2, hc2⟩ := (HSB.out.below HBr.out).at1 (show k < bv.length from HL.out ▸ hlt)
              cases ha1
              cases ha2
              have d1 : (k : Int) < (av.length : Int) := by omega
              have d2 := hbl k hlt
              have wk : IntKind.i64.wrap ((k : Int) + 1) = (k : Int) + 1 := IntWalk.i64_in _ (by have := HLA.out; change _ ≤ _ at this; omega)
              have z2 := (HBr.out.cell (p := ⟨w.heap.size, 2, none⟩) xl).trans x2
              have t2 := (HBr.out.cell (p := ⟨w.heap.size + 1, 2, none⟩) yl).trans y2
              have HDD := Lib.hid (eq_drop HL.out k hlt)
              generalize av[k] = x at *
              generalize bv[k]'(HL.out ▸ hlt) = y at *
              generalize hxy : decide (x = y) = q at *
              cases q with
              | true =>
                have HE2 : Hid (decide (av = bv) = decide (av.drop (k + 1) = bv.drop (k + 1))) := by
                  show _ = _
                  rw [HE.out, decide_eq_decide, HDD.out]
                  simp [of_decide_eq_true hxy]
                clear HDD HE
                have xw := Nat.lt_of_lt_of_le xl HBr.out.size
                have yw := Nat.lt_of_lt_of_le yl HBr.out.size
                go_wp2_with fail
                have hLL := @Later.cells wr
                refine region_later (by kernel_rfl) (by kernel_rfl) ?_
                repeat (go_big_quiet_step (fail))
                refine wpQuiet_nil ?_
                rintro _ ⟨nx, rfl⟩
                have HBn := Lib.hid (HBr.out.trans (nx.below.mono HBr.out.size))
                clear hLL xw yw
                generalize nx.at_ = wn at *
                go_wp2
                go_roundw
                case rel => exact ⟨k + 1, by first | rfl | go_num, hlt, HBn, HE2⟩
                case measure => simp [intOf]; omega
              | false =>
                have HE2 : Hid (decide (av = bv) = false) := by
                  show _ = _
                  rw [HE.out, decide_eq_false_iff_not, HDD.out]
                  simp [of_decide_eq_false hxy]
                clear HDD HE
                have xw := Nat.lt_of_lt_of_le xl HBr.out.size
                have yw := Nat.lt_of_lt_of_le yl HBr.out.size
                go_wp2_with fail
                have hLL := @Later.cells wr
                refine region_later (by kernel_rfl) (by kernel_rfl) ?_
                repeat (go_big_quiet_step (fail))
                refine wpQuiet_nil ?_
                rintro _ ⟨nx, rfl⟩
                have HBn := Lib.hid (HBr.out.trans (nx.below.mono HBr.out.size))
                clear hLL xw yw
                generalize nx.at_ = wn at *
                go_wp2
                go_ret
                exact ⟨by rw [HD.out, HE2.out]; simp, HB.out.trans (HBn.out.mono HB.out.size)⟩
            · obtain rfl : k = av.length := by omega
              have d1 : ¬ (av.length : Int) < (av.length : Int) := by omega
              have HE2 : Hid (decide (av = bv) = true) := by show _ = _; rw [HE.out, List.drop_length, HL.out, List.drop_length]; simp
              clear HE
              go_wp2
              go_ret
              exact ⟨by first | (rw [HD.out, HE2.out]; simp) | (rw [HE2.out]; rfl), HB.out.trans (HBr.out.mono HB.out.size)⟩
        · have e1 : ((av.length : Int) == (bv.length : Int)) = false := by rw [beq_eq_false_iff_ne]; omega
          have e1n : (av.length == bv.length) = false := by rw [beq_eq_false_iff_ne]; exact hlm
          have HN : Hid (decide (av = bv) = false) := by show _ = _; rw [decide_eq_false_iff_not]; intro e; exact hlm (by rw [e])
          clear hlm
          go_wp2
          go_ret
          exact ⟨by rw [HD.out, HN.out]; simp, HB.out⟩

end Go.Proofs.YtecffghcpknmjaaDoor

/- A drawn region whose first operations read and call what only makes memory, and whose last ones write, each waiting for all ahead of it: one walk serves every order; no program in sight. -/
namespace Go.Proofs.YtecffghcpknmjaaDoor
open Go Go.RowKit

variable {P : Program} {ops : Array Oper} {md : Region.Mode} {C : World → Prop}
def anyQL (P : Program) (md : Region.Mode) (ops : Array Oper) (C : World → Prop) (n : Nat) (L : Array Bool → Act → Prop) : Nat → Array Bool → Act → Prop
  | 0, listed, a => L listed a
  | f + 1, listed, a => Region.ready md ops listed ≠ [] ∧ ∀ i ∈ Region.ready md ops listed, i < n ∧ qOp P ops C i (anyQL P md ops C n L f (listed.setIfInBounds i true)) a
theorem any_of_head {n g : Nat} {L : Array Bool → Act → Prop} {Q' : Exit → Act → World → Prop} (hL : ∀ listed a w, C w → L listed a → wpAny P md ops Q' g listed a w) :
    ∀ (f : Nat) (listed : Array Bool) (a : Act) (w : World), C w → anyQL P md ops C n L f listed a → wpAny P md ops Q' (f + g) listed a w
  | 0, listed, a, w, hw, h => by rw [Nat.zero_add]; exact hL _ _ _ hw h
  | f + 1, listed, a, w, hw, h => by
    rw [show f + 1 + g = (f + g) + 1 by omega]
    exact ⟨fun h0 => absurd h0 h.1, fun i hi => wpOp_of_qOp hw (fun a' w' hw' h' => any_of_head hL f _ a' w' hw' h') (h.2 i hi).2⟩
theorem anyQL_first {n i : Nat} {oi : Oper} {v : Value} {L : Array Bool → Act → Prop} (hi : ops[i]? = some oi) (hsel : ∀ (j : Nat) (o : Oper) cs b, ops[j]? = some o → o.op ≠ .select cs b)
    (hs : Region.sinkB md ops n = true) (hc : Region.chainB md ops n = true) (hn : n < ops.size) (hin : i < n) (hdone : ∀ listed a, L listed a → ∀ j ∈ Region.ready md ops listed, n ≤ j) :
    ∀ (f : Nat) (listed : Array Bool) (a : Act), HeadInv md ops n listed →
      (∀ j oj, ops[j]? = some oj → j ≠ i → listed.getD j true = false → (∀ e ∈ oj.after, Region.binds md e = true → e.on ≠ i) → oi.apart ops oj = true) →
      i ∈ Region.ready md ops listed → YieldsIn P ops C oi v a → anyQL P md ops C n L f (listed.setIfInBounds i true) (a.put oi.dst v) → anyQL P md ops C n L (f + 1) listed a := by
  intro f
  induction f with
  | zero =>
    intro listed a inv _ hr hy H
    have hun := (mem_ready.1 hr).1
    refine ⟨fun h => (by rw [h] at hr; cases hr), fun j hj => ?_⟩
    have hjn : j < n := by
      rcases Nat.lt_or_ge j n with h | h
      · exact h
      · exact absurd hj (tail_waits hs hc hn inv _ i rfl hin hun j h)
    refine ⟨hjn, ?_⟩
    by_cases hji : j = i
    · subst hji; exact hy.qOp hi H
    · have := hdone _ _ H j (ready_mono hj hji)
      omega
  | succ f ih =>
    intro listed a inv hfree hr hy H
    have hun := (mem_ready.1 hr).1
    refine ⟨fun h => (by rw [h] at hr; cases hr), fun j hj => ?_⟩
    have hjn : j < n := by
      rcases Nat.lt_or_ge j n with h | h
      · exact h
      · exact absurd hj (tail_waits hs hc hn inv _ i rfl hin hun j h)
    refine ⟨hjn, ?_⟩
    by_cases hji : j = i
    · subst hji; exact hy.qOp hi H
    · have h1 := (H.2 j (ready_mono hj hji)).2
      obtain ⟨hjun, oj, hoj, hall⟩ := mem_ready.1 hj
      have hnot : ∀ e ∈ oj.after, Region.binds md e = true → e.on ≠ i := fun e he hb heq => by
        have h1 := hall e he hb
        rw [heq, getD_both hun] at h1
        cases h1
      have h2 := qOp_put hoj (hfree j oj hoj hji hjun hnot) (fun cs b => hsel i oi cs b hi) (fun cs b => hsel j oj cs b hoj) hy h1
      have hfree' : ∀ k ok, ops[k]? = some ok → k ≠ i → (listed.setIfInBounds j true).getD k true = false →
          (∀ e ∈ ok.after, Region.binds md e = true → e.on ≠ i) → oi.apart ops ok = true := fun k ok hk hki hun hno => by
        refine hfree k ok hk hki ?_ hno
        by_cases hjk : j = k
        · subst hjk; exact hjun
        · rw [getD_set_ne true hjk] at hun; exact hun
      refine qOp_mono (fun a' h3 => ih (listed.setIfInBounds j true) a' (inv.set hj hjn) hfree' (ready_mono hr (Ne.symm hji)) h3.1 ?_) h2
      rw [Array.setIfInBounds_comm _ _ hji]
      exact h3.2
theorem anyQL_lex {n g : Nat} {Lq : Act → Prop} (hsel : Region.noSelect ops = true) (hs : Region.sinkB md ops n = true) (hc : Region.chainB md ops n = true) (hn : n < ops.size) :
    ∀ (l : List Oper) (k : Nat) (listed : Array Bool) (a : Act), (∀ j, j < l.length → l[j]? = ops[k + j]?) → k + l.length = n → HeadInv md ops n listed →
    Region.lexHead md ops g l.length k listed = true → wpQuiet P ops C Lq l a → anyQL P md ops C n (fun listed' a' => Region.seqB md ops g n listed' = true ∧ Lq a') l.length listed a
  | [], k, listed, a, _, hk, _, hB, h => by
    have : k = n := by simpa using hk
    subst this
    exact ⟨by simpa [Region.lexHead] using hB, h⟩
  | o :: l, k, listed, a, hl, hk, inv, hB, h => by
    have h0 : ops[k]? = some o := by simpa using (hl 0 (by simp)).symm
    simp only [List.length_cons, Region.lexHead, Bool.and_eq_true] at hB
    obtain ⟨⟨hr, hf⟩, hB'⟩ := hB
    have hkn : k < n := by simp only [List.length_cons] at hk; omega
    have hr' : k ∈ Region.ready md ops listed := by simpa using hr
    have hst : qOp P ops C k (wpQuiet P ops C Lq l) a := by unfold qOp; simp only [h0]; exact h
    obtain ⟨v, hy, hK⟩ := yieldsIn_of_qOp h0 hst
    exact anyQL_first h0 (Region.noSelect_spec hsel) hs hc hn hkn (fun listed' a' hL => seqB_ready hL.1) l.length listed a inv (Region.free_spec h0 hf) hr' hy
      (anyQL_lex hsel hs hc hn l (k + 1) _ _ (fun j hj => by have := hl (j + 1) (by simp; omega); simpa [Nat.add_assoc, Nat.add_comm 1 j] using this) (by simp only [List.length_cons] at hk; omega) (inv.set hr' hkn) hB' hK)
theorem region_quiet_tail {id : Nat} {Q : Exit → Act → World → Prop} {a : Act} {w : World} {l : List Oper} (n : Nat) (hm : P.follows .mixedOrders = true) (hB : Region.lexTailB .any l.toArray n = true) (hC : C { w with drawn := w.drawn + 1 })
    (h : wpQuiet P l.toArray C (fun a' => ∀ w', C w' → wpList P l.toArray Q (l.drop n) a' w') (l.take n) a) : (Code.region id l.toArray true).wp P Q a w := by
  simp only [Region.lexTailB, Bool.and_eq_true, decide_eq_true_eq] at hB
  obtain ⟨⟨⟨⟨hsel, hn⟩, hs⟩, hc⟩, hlex⟩ := hB
  have hn' : n < l.length := by simpa using hn
  have htl : (l.take n).length = n := by simp; omega
  have hdl : (l.drop n).length = l.toArray.size - n := by simp
  have inv0 : HeadInv .any l.toArray n (Array.replicate l.toArray.size false) :=
    ⟨by simp, fun j oj _ hl => (by rw [getD_replicate_false] at hl; cases hl), fun t _ ht => getD_in (by simpa using ht) (getD_replicate_false _ _)⟩
  have H := anyQL_lex (md := .any) (g := l.toArray.size - n) hsel hs hc hn (l.take n) 0 _ a (fun j hj => by
    have hj' : j < n := by rw [htl] at hj; exact hj
    simp [hj']) (by simpa using htl) inv0 (by rw [htl]; exact hlex) h
  refine wp_region_any hm ?_
  have := any_of_head (Q' := Q) (g := l.toArray.size - n) (fun listed a' w' hw' hL => by
    have := wpAny_of_seq (md := .any) (Q' := Q) (l.drop n) n listed a' w' (fun j => by simp [List.getElem?_drop]) (by rw [hdl]; exact hL.1) (hL.2 w' hw')
    rwa [hdl] at this) _ _ _ _ hC H
  rw [htl, show n + (l.toArray.size - n) = l.toArray.size by omega] at this
  exact this
/-- At the class of later worlds. -/
theorem region_later_tail {id : Nat} {Q : Exit → Act → World → Prop} {a : Act} {w : World} {l : List Oper} (n : Nat) (hm : P.follows .mixedOrders = true) (hB : Region.lexTailB .any l.toArray n = true)
    (h : wpQuiet P l.toArray (fun w' => ∃ x : Later w, w' = x.at_) (fun a' => ∀ w', (∃ x : Later w, w' = x.at_) → wpList P l.toArray Q (l.drop n) a' w') (l.take n) a) : (Code.region id l.toArray true).wp P Q a w :=
  region_quiet_tail n hm hB ⟨⟨{ w with drawn := w.drawn + 1 }, ⟨rfl, rfl, rfl, Nat.le_refl _, fun _ _ => rfl⟩⟩, rfl⟩ h

end Go.Proofs.YtecffghcpknmjaaDoor

/- A row of texts that is sorted in its place: what stays, what turns; slices.swapRangeCmpFunc; the conditions stand in the theorems. -/
namespace Go.Proofs.YtecffghcpknmjaaDoor
open Go Go.RowKit

theorem strC_lV (x : S) : (strC x).length = 1 := rfl
/-- The row of texts l at block g, in a world that has turned in that row alone since w0. -/
structure SF (B g cap N : Nat) (w0 W : World) (l : List S) : Prop where
  len : l.length = N
  own : Owns B 9 1 strC W (.slice (some ⟨g, 0, none⟩) l.length cap) l
  grown : w0.grownBy W (some g)
section
variable {B g cap N : Nat} {w0 W W' : World} {l : List S}
theorem SF.cell (h : SF B g cap N w0 W l) {k : Nat} {x : S} (hk : l[k]? = some x) : W.cell? ⟨g, k, none⟩ = some (.string x) ∧ W.frozen? ⟨g, k, none⟩ = false ∧ g < W.heap.size := by
  obtain ⟨g', e, -, h2, h3, h4, h5, -⟩ := own_store strC_lV h.own hk (j := 0) (by decide)
  cases e
  rw [Nat.mul_one, Nat.add_zero] at h3 h4
  exact ⟨h3, h4, h2⟩
theorem SF.set (h : SF B g cap N w0 W l) {k : Nat} {x : S} (hk : l[k]? = some x) (y : S) : SF B g cap N w0 (W.setCell ⟨g, k, none⟩ (.string y)) (l.set k y) := by
  obtain ⟨g', e, -, h2, h3, h4, h5, h6⟩ := own_store strC_lV h.own hk (j := 0) (by decide)
  cases e
  have h7 := h6 (.string y) y rfl
  rw [Nat.mul_one, Nat.add_zero] at h7
  exact ⟨by rw [List.length_set]; exact h.len, by rw [List.length_set]; exact h7, h.grown.trans (setCell_grown _ _ _ _)⟩
theorem SF.drew (h : SF B g cap N w0 W l) : SF B g cap N w0 W.drew l := ⟨h.len, h.own.below ⟨rfl, rfl, rfl, Nat.le_refl _, fun _ _ => rfl⟩, h.grown.trans ⟨rfl, rfl, rfl, Nat.le_refl _, fun _ _ _ => rfl⟩⟩
theorem SF.swap (h : SF B g cap N w0 W l) {i j : Nat} {x y : S} (hi : l[i]? = some x) (hj : l[j]? = some y) (hne : i ≠ j) :
    SF B g cap N w0 ((W.setCell ⟨g, i, none⟩ (.string y)).setCell ⟨g, j, none⟩ (.string x)).drew ((l.set i y).set j x) :=
  ((h.set hi y).set (x := y) (by rw [List.getElem?_set_ne hne]; exact hj) x).drew
theorem SF.later (h : SF B g cap N w0 W l) (hb : Below W.heap.size W W') : SF B g cap N w0 W' l :=
  ⟨h.len, h.own.below hb, h.grown.trans ⟨hb.os, hb.tape, hb.output, hb.size, fun k hk _ => hb.block k hk⟩⟩
theorem SF.from (h : SF B g cap N w0 W l) {l' : List S} (h' : SF B g cap N W W' l') : SF B g cap N w0 W' l' := ⟨h'.len, h'.own, h.grown.trans h'.grown⟩
theorem SF.self (h : SF B g cap N w0 W l) : SF B g cap N W W l := ⟨h.len, h.own, World.grownBy.refl _ _⟩
end
theorem swap_mid {α : Type} (p : List α) (x : α) (y : List α) (z : α) (q : List α) : ((p ++ x :: (y ++ z :: q)).set p.length z).set (p.length + 1 + y.length) x = p ++ z :: (y ++ x :: q) := by
  rw [List.set_append_right _ _ (Nat.le_refl _), Nat.sub_self, List.set_cons_zero, List.set_append_right _ _ (by omega), show p.length + 1 + y.length - p.length = y.length + 1 by omega, List.set_cons_succ, List.set_append_right _ _ (Nat.le_refl _), Nat.sub_self, List.set_cons_zero]
theorem at_mid {α : Type} (p : List α) (x : α) (q : List α) {k : Nat} (hk : k = p.length) : (p ++ x :: q)[k]? = some x := by rw [hk, List.getElem?_append_right (Nat.le_refl _), Nat.sub_self]; rfl
theorem at_mid2 {α : Type} (p : List α) (x : α) (y : List α) (z : α) (q : List α) {k : Nat} (hk : k = p.length + 1 + y.length) : (p ++ x :: (y ++ z :: q))[k]? = some z := by
  rw [show p ++ x :: (y ++ z :: q) = (p ++ x :: y) ++ z :: q by simp]
  exact at_mid _ _ _ (by simp; omega)
set_option maxRecDepth 100000 in
set_option maxHeartbeats 4000000 in
/-- n texts from a on change places with the n from b on. -/
theorem swapRange_any {B g cap N a b n : Nat} {w0 : World} (cm : Value) (P X Y Z Q : List S) (hN : N ≤ 1000000) (ha : a = P.length) (hx : X.length = n) (hz : Z.length = n) (hb : b = P.length + n + Y.length) (w : World) (h : SF B g cap N w0 w (P ++ (X ++ (Y ++ (Z ++ Q))))) :
    Calls Tryd.prog 113 #[.slice (some ⟨g, 0, none⟩) N cap, .int .i64 a, .int .i64 b, .int .i64 n, cm] w fun e w' => e = .returned (.tuple #[]) ∧ SF B g cap N w0 w' (P ++ (Z ++ (Y ++ (X ++ Q)))) := by
  have hlen := h.len
  simp only [List.length_append] at hlen
  have hlt : b + n ≤ N := by omega
  have HA := Lib.hid ha
  have HB := Lib.hid hb
  have HX := Lib.hid hx
  have HZ := Lib.hid hz
  have hab : a + n ≤ b := by omega
  have HS := Lib.hid h
  clear h hlen ha hb hx hz
  go_enter Tryd.func113, Tryd.ntmps113
  go_wp2
  go_loopw [10] (fun vi wr => ∃ (i : Nat) (X1 X2 Z1 Z2 : List S), vi = .int .i64 i ∧ i ≤ n ∧ Hid (X = X1 ++ X2) ∧ Hid (Z = Z1 ++ Z2) ∧ Hid (X1.length = i) ∧ Hid (Z1.length = i) ∧ Hid (SF B g cap N w0 wr (P ++ (Z1 ++ (X2 ++ (Y ++ (X1 ++ (Z2 ++ Q)))))))) (fun vi _ => n - (intOf vi).toNat)
  case atStart => exact ⟨0, [], X, [], Z, rfl, Nat.zero_le _, rfl, rfl, rfl, rfl, (by show SF _ _ _ _ _ _ _; simpa using HS.out)⟩
  case round =>
    clear HS
    obtain ⟨i, X1, X2, Z1, Z2, rfl, hi, HX2, HZ2, HX1, HZ1, HR⟩ := hrel
    by_cases hlti : i < n
    · obtain ⟨x, X3, rfl⟩ : ∃ x X3, X2 = x :: X3 := by
        cases X2 with
        | nil => have := HX.out; rw [HX2.out] at this; have := HX1.out; simp at *; omega
        | cons x X3 => exact ⟨x, X3, rfl⟩
      obtain ⟨z, Z3, rfl⟩ : ∃ z Z3, Z2 = z :: Z3 := by
        cases Z2 with
        | nil => have := HZ.out; rw [HZ2.out] at this; have := HZ1.out; simp at *; omega
        | cons z Z3 => exact ⟨z, Z3, rfl⟩
      have HR' : Hid (SF B g cap N w0 wr ((P ++ Z1) ++ x :: ((X3 ++ (Y ++ X1)) ++ z :: (Z3 ++ Q)))) := by show SF _ _ _ _ _ _ _; have := HR.out; simpa using this
      have hXl : X3.length + i + 1 = n := by have := HX.out; rw [HX2.out] at this; have := HX1.out; simp at *; omega
      have hp1 : Hid (a + i = (P ++ Z1).length) := by show _ = _; have := HA.out; have := HZ1.out; simp at *; omega
      have hp2 : Hid (b + i = (P ++ Z1).length + 1 + (X3 ++ (Y ++ X1)).length) := by show _ = _; have := HB.out; have := HZ1.out; have := HX1.out; simp at *; omega
      have g1 := at_mid (P ++ Z1) x ((X3 ++ (Y ++ X1)) ++ z :: (Z3 ++ Q)) hp1.out
      have g2 := at_mid2 (P ++ Z1) x (X3 ++ (Y ++ X1)) z (Z3 ++ Q) hp2.out
      have c1 := (HR'.out.cell g1).1
      have f1 := (HR'.out.cell g1).2.1
      have c2 := (HR'.out.cell g2).1
      have f2 := (HR'.out.cell g2).2.1
      have HS2 : Hid (SF B g cap N w0 ((wr.setCell ⟨g, a + i, none⟩ (.string z)).setCell ⟨g, b + i, none⟩ (.string x)).drew (P ++ (Z1 ++ [z] ++ (X3 ++ (Y ++ (X1 ++ [x] ++ (Z3 ++ Q))))))) := by
        have := HR'.out.swap g1 g2 (by omega)
        rw [hp1.out, hp2.out, swap_mid] at this
        show SF _ _ _ _ _ _ _
        rw [hp1.out, hp2.out]
        simpa using this
      have c3 : (wr.setCell ⟨g, a + i, none⟩ (.string z)).cell? ⟨g, b + i, none⟩ = some (.string z) := by rw [World.cell?_setCell_other _ _ _ _ (by simp only [Addr.mk.injEq, not_and, ne_eq]; omega)]; exact c2
      clear g1 g2 HR HR' hXl hp1 hp2
      have ra : IntKind.i64.wrap ((a : Int) + (i : Int)) = (a : Int) + (i : Int) := IntWalk.i64_in _ (by omega)
      have rb : IntKind.i64.wrap ((b : Int) + (i : Int)) = (b : Int) + (i : Int) := IntWalk.i64_in _ (by omega)
      have ri : IntKind.i64.wrap ((i : Int) + 1) = (i : Int) + 1 := IntWalk.i64_in _ (by omega)
      have pa : (0 : Int) ≤ (a : Int) + (i : Int) := by omega
      have pb : (0 : Int) ≤ (b : Int) + (i : Int) := by omega
      have la : (a : Int) + (i : Int) < (N : Int) := by omega
      have lb : (b : Int) + (i : Int) < (N : Int) := by omega
      have ta : ((a : Int) + (i : Int)).toNat = a + i := by omega
      have tb : ((b : Int) + (i : Int)).toNat = b + i := by omega
      go_wp2_with fail
      go_big_region
      clear c1 c2 c3 f1 f2
      generalize ((wr.setCell ⟨g, a + i, none⟩ (.string z)).setCell ⟨g, b + i, none⟩ (.string x)).drew = w3 at *
      go_wp2
      go_roundw
      case rel => exact ⟨i + 1, X1 ++ [x], X3, Z1 ++ [z], Z3, by go_num, hlti, by show _ = _; rw [HX2.out]; simp, by show _ = _; rw [HZ2.out]; simp, by show _ = _; rw [List.length_append, HX1.out]; rfl, by show _ = _; rw [List.length_append, HZ1.out]; rfl, by show SF _ _ _ _ _ _ _; simpa using HS2.out⟩
      case measure => simp [intOf]; omega
    · obtain rfl : i = n := by omega
      have hX2 : X2 = [] := List.eq_nil_of_length_eq_zero (by have h1 := HX.out; have h2 := HX1.out; rw [show X = _ from HX2.out, List.length_append] at h1; change _ = _ at h2; omega)
      have hZ2 : Z2 = [] := List.eq_nil_of_length_eq_zero (by have h1 := HZ.out; have h2 := HZ1.out; rw [show Z = _ from HZ2.out, List.length_append] at h1; change _ = _ at h2; omega)
      have HE : Hid (SF B g cap N w0 wr (P ++ (Z ++ (Y ++ (X ++ Q))))) := by
        show SF _ _ _ _ _ _ _
        have := HR.out
        rw [HX2.out, HZ2.out, hX2, hZ2]
        rw [hX2, hZ2] at this
        simpa using this
      clear HR HX2 HZ2 hX2 hZ2
      go_wp2
      go_end0
      exact ⟨rfl, HE.out⟩

end Go.Proofs.YtecffghcpknmjaaDoor
