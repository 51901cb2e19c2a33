/- Walks: the document's Keys; the conditions stand in the theorems. -/
import Derived.Test.YtmcjpmogjmnfpaaL9
import Derived.Test.YtmcjpmogjmnfpaaL7
import Derived.Test.YtmcjpmogjmnfpaaL11
namespace Go.Proofs.Ytmcjpmogjmnfpaa
open Go Go.RowKit

theorem SliceOf.take {α : Type} {n : Nat} {C : α → List Value} {w : World} {ao : Option Addr} {len cap : Nat} {l : List α} (h : SliceOf n C w (.slice ao len cap) l) {k : Nat} (hk : k ≤ l.length) : SliceOf n C w (.slice ao k cap) (l.take k) := by
  obtain ⟨ao', cap', h1, h2, hm, h3, h4⟩ := h
  cases h1
  refine ⟨ao, cap, by rw [List.length_take, Nat.min_eq_left hk], by rw [List.length_take]; omega, hm, h3, fun i x hx => h4 i x ?_⟩
  rw [List.getElem?_take] at hx
  split at hx
  · exact hx
  · cases hx


theorem neq_keyB (p q : Key) (w : World) : (binOp .neq 42 (.agg #[.string p.group, .string p.artifact, .string p.type, .string p.classifier]) (.agg #[.string q.group, .string q.artifact, .string q.type, .string q.classifier])).run Try.prog w = .ok (.bool (!keyEq p q)) w := by
  have h := eqs_keyE
  obtain ⟨a0, a1, a2, a3⟩ := p
  obtain ⟨b0, b1, b2, b3⟩ := q
  unfold keyEq
  simp [go_sem, h, toList_iff]
  by_cases h0 : a0 = b0 <;> by_cases h1 : a1 = b1 <;> by_cases h2 : a2 = b2 <;> by_cases h3 : a3 = b3 <;> simp [h0, h1, h2, h3]
theorem refCompare_c {W : World} (a b : Key) (x : Later W) (c : Int) (hc : cmpK a b = c) : Calls Try.prog 37 #[.agg #[.string a.group, .string a.artifact, .string a.type, .string a.classifier], .agg #[.string b.group, .string b.artifact, .string b.type, .string b.classifier]] x.at_ fun e w'' => e = .returned (.int .i64 c) ∧ ∃ y : Later W, w'' = y.at_ := by
  subst hc; exact Later.call (refCompare_any a b x.at_)
theorem ahead_step {key : Key} {out : List Key} {k : Nat} (hk : k < out.length) (h : aheadK key out = k + aheadK key (out.drop k)) (hc : cmpK out[k] key = -1) : aheadK key out = (k + 1) + aheadK key (out.drop (k + 1)) := by
  rw [h, List.drop_eq_getElem_cons hk, aheadK, if_pos hc]; omega
theorem ahead_stop {key : Key} {out : List Key} {k : Nat} (hk : k < out.length) (h : aheadK key out = k + aheadK key (out.drop k)) (hc : cmpK out[k] key ≠ -1) : aheadK key out = k := by
  rw [h, List.drop_eq_getElem_cons hk, aheadK, if_neg hc]; rfl
theorem ahead_end {key : Key} {out : List Key} {k : Nat} (hk : k = out.length) (h : aheadK key out = k + aheadK key (out.drop k)) : aheadK key out = k := by
  rw [h, hk, List.drop_length]; rfl
theorem insK_new {key : Key} {out : List Key} {k : Nat} (h : aheadK key out = k) (hn : out[k]? ≠ some key) : insK out key = out.take k ++ key :: out.drop k := by
  unfold insK; rw [h, if_neg hn]
theorem insK_old {key : Key} {out : List Key} {k : Nat} (h : aheadK key out = k) (hn : out[k]? = some key) : insK out key = out := by
  unfold insK; rw [h, if_pos hn]
theorem keysP_step {l : List Pin} {i : Nat} (hi : i < l.length) : keysP (l.take (i + 1)) = insK (keysP (l.take i)) l[i].key := by
  unfold keysP
  rw [List.take_succ_eq_append_getElem hi, List.foldl_append]; rfl
theorem insK_len (out : List Key) (k : Key) : (insK out k).length ≤ out.length + 1 := by
  unfold insK
  split
  · omega
  · simp; omega
theorem SliceOf.takeCap {α : Type} {n : Nat} {C : α → List Value} {w : World} {ao : Option Addr} {len cap : Nat} {l : List α} (h : SliceOf n C w (.slice ao len cap) l) {k : Nat} (hk : k ≤ l.length) : SliceOf n C w (.slice ao k k) (l.take k) := by
  obtain ⟨ao', cap', h1, h2, hm, h3, h4⟩ := h
  cases h1
  refine ⟨ao, k, by rw [List.length_take, Nat.min_eq_left hk], by rw [List.length_take]; omega, by omega, fun h0 => by have := h3 h0; omega, fun i x hx => h4 i x ?_⟩
  rw [List.getElem?_take] at hx
  split at hx
  · exact hx
  · cases hx
theorem keyLit (w : World) (k : Key) (base : Nat) (hb : base ≤ w.heap.size) (N : Nat) (hN : w.heap.size = N) : Owns base 42 4 keyC (w.alloc (.cells (keyC k).toArray 42)) (.slice (some ⟨N, 0, none⟩) 1 1) [k] := by
  subst hN
  exact ⟨by simp [keyC], .inr ⟨w.heap.size, 1, (keyC k).toArray, rfl, hb, heap_alloc_new w _, Nat.le_refl _, by decide, by simp [keyC], by simp [keyC]⟩⟩
theorem info_keyE : (Try.prog.info? 42).map (fun i => (i.zero, i.size, i.bytes)) = some (some (.agg #[.string ⟨#[]⟩, .string ⟨#[]⟩, .string ⟨#[]⟩, .string ⟨#[]⟩]), 4, 64) := by kernel_rfl
theorem below_grown0 {w w' : World} (h : w.grownBy w' none) : Below w.heap.size w w' := ⟨h.os, h.tape, h.output, h.size, fun k hk => h.block k hk (by simp)⟩
def KeysOut (w : World) (l : List Key) (e : Ending) (w' : World) : Prop := ∃ v, e = .returned v ∧ Owns w.heap.size 42 4 keyC w' v l ∧ Below w.heap.size w w'

attribute [local go_sem ↓] sliced_cut cut_zero eqg_keyE neq_keyB in
set_option maxRecDepth 100000 in
set_option maxHeartbeats 8000000 in
theorem keys_any (l : List Pin) (v : Value) (w : World) (hv : SliceOf 6 pinC w v l) (hl : l.length ≤ 1000) : Calls Try.prog 28 #[v] w (KeysOut w (keysP l)) := by
  have hlm : l.length ≤ 9223372036854775807 := by omega
  obtain ⟨ao, cap, rfl⟩ := hv.shape
  have HV := Lib.hid hv
  have HLL := Lib.hid hl
  clear hv hl
  go_enter Try.func28, Try.ntmps28
  go_wp2_with fail
  go_loopw [3, 9] (fun ov iv wr => ∃ (i : Nat) (out : List Key), i ≤ l.length ∧ iv = .int .i64 i ∧ Hid (keysP (l.take i) = out) ∧ Hid (out.length ≤ i) ∧ Owns w.heap.size 42 4 keyC wr ov out ∧ Below w.heap.size w wr) (fun _ iv _ => l.length - (intOf iv).toNat)
  case atStart => exact ⟨0, [], Nat.zero_le _, rfl, rfl, by show _ ≤ _; simp, Owns.nil, Below.refl _ _⟩
  case round =>
    obtain ⟨wo, rfl⟩ : ∃ wo : World, wo = wr := ⟨_, rfl⟩
    obtain ⟨i, out, hi, rfl, HK, HOL, ho, hb⟩ := hrel
    obtain ⟨oo, oc, rfl⟩ := ho.shape
    have HB := Lib.hid hb
    have hs := hb.size
    have HO := Lib.hid (ho.slice keyC_len)
    have HOO := Lib.hid ho
    have hoc : out.length ≤ oc ∧ oc ≤ maxLen := by obtain ⟨a, c, e, h2, h3, -⟩ := ho.slice keyC_len; cases e; exact ⟨h2, h3⟩
    by_cases hlt : i < l.length
    · have hltI : (i : Int) < (l.length : Int) := by omega
      obtain ⟨g, o, rfl, hg, hc⟩ := (HV.out.below hb).pinAtF hlt
      have c0 := hc 0 _ rfl
      have c1 := hc 1 _ rfl
      have c2 := hc 2 _ rfl
      have c3 := hc 3 _ rfl
      have c4 := hc 4 _ rfl
      have c5 := hc 5 _ rfl
      rw [Nat.add_zero] at c0
      have HST := Lib.hid (keysP_step hlt)
      clear hc ho hb
      generalize l[i] = p at *
      go_wp2_with fail
      refine wp_world ?_
      intro W hW
      have x5 : Box W wo.heap.size [.string p.key.group, .string p.key.artifact, .string p.key.type, .string p.key.classifier, .string p.version, .int .i64 p.scope] := by rw [hW]; exact Box.new wo _ _ _ rfl
      have hbW : Below wo.heap.size wo W := by rw [hW]; exact (Below.refl _ _).alloc (Nat.le_refl _) _
      clear hW c0 c1 c2 c3 c4 c5 hg
      have X5 := Lib.hid x5
      have HBW := Lib.hid hbW
      have HOW := Lib.hid (HO.out.below hbW)
      have hsW := hbW.size
      clear x5 hbW
      have hol : out.length ≤ 9223372036854775807 := by have h1 := HOL.out; omega
      go_loopw [6] (fun kv wk => ∃ k : Nat, k ≤ out.length ∧ kv = .int .i64 k ∧ Hid (aheadK p.key out = k + aheadK p.key (out.drop k)) ∧ Below W.heap.size W wk) (fun kv _ => out.length - (intOf kv).toNat)
      case atStart => exact ⟨0, Nat.zero_le _, rfl, by show _ = _; simp, Below.refl _ _⟩
      case round =>
        obtain ⟨k, hk, rfl, HA, hb⟩ := hrel
        have x5 := X5.out.below hb X5.out.lt
        have X5R := Lib.hid x5
        have HOR := Lib.hid (HOW.out.below hb)
        have HORO := Lib.hid ((HOO.out.below HBW.out).below hb)
        have HBR : Hid (Below w.heap.size w wr) := HB.out.trans ((HBW.out.mono hs).trans (hb.mono (Nat.le_trans hs hsW)))
        have HBI := Lib.hid hb
        clear hb
        have hkc : k ≤ oc := Nat.le_trans hk hoc.1
        have hkI : (k : Int) ≤ (out.length : Int) := by omega
        have hkcI : (k : Int) ≤ (oc : Int) := by omega
        have d0 := x5.cell 0 _ rfl
        have d1 := x5.cell 1 _ rfl
        have d2 := x5.cell 2 _ rfl
        have d3 := x5.cell 3 _ rfl
        have l5 := x5.lt
        have hLC := @Later.cells wr
        clear x5
        by_cases hlk : k < out.length
        · have hlkI : (k : Int) < (out.length : Int) := by omega
          have dk : decide ((k : Int) < (out.length : Int)) = true := decide_eq_true hlkI
          have dkN : decide (k < out.length) = true := decide_eq_true hlk
          obtain ⟨g', o', rfl, hg', hc⟩ := HOR.out.at hlk
          have e0 : wr.cell? ⟨g', o' + k * 4, none⟩ = some (.string out[k].group) := by simpa using hc 0 _ rfl
          have e1 : wr.cell? ⟨g', o' + k * 4 + 1, none⟩ = some (.string out[k].artifact) := hc 1 _ rfl
          have e2 : wr.cell? ⟨g', o' + k * 4 + 2, none⟩ = some (.string out[k].type) := hc 2 _ rfl
          have e3 : wr.cell? ⟨g', o' + k * 4 + 3, none⟩ = some (.string out[k].classifier) := hc 3 _ rfl
          have HQ : Hid (out[k]? = some out[k]) := List.getElem?_eq_getElem hlk
          have HS1 : Hid (cmpK out[k] p.key = -1 → aheadK p.key out = (k + 1) + aheadK p.key (out.drop (k + 1))) := fun h => ahead_step hlk HA.out h
          have HS2 : Hid (cmpK out[k] p.key ≠ -1 → aheadK p.key out = k) := fun h => ahead_stop hlk HA.out h
          clear hc
          generalize out[k] = q at *
          obtain ⟨c, hc⟩ : ∃ c, c = cmpK q p.key := ⟨_, rfl⟩
          have HC := Lib.hid (fun (x : Later wr) => refCompare_c q p.key x c hc.symm)
          have hcr : c = -1 ∨ c = 0 ∨ c = 1 := by rw [hc]; exact cmpK_range _ _
          rw [← hc] at HS1 HS2
          clear hc
          by_cases hc1 : c = -1
          · have dc : decide (c < (0 : Int)) = true := decide_eq_true (by omega)
            have HSA := Lib.hid (HS1.out hc1)
            clear hcr hc1
            go_wp2_with fail
            refine region_later (by kernel_rfl) (by kernel_rfl) ?_
            repeat (go_big_quiet_step ((go_at_call 37; exact HC.out _)))
            refine wpQuiet_nil ?_
            rintro _ ⟨nx, rfl⟩
            have HZ : Hid (Below W.heap.size W nx.at_) := HBI.out.trans (nx.below.mono HBI.out.size)
            clear hLC d0 d1 d2 d3 e0 e1 e2 e3 hg' l5
            generalize nx.at_ = wn at *
            go_wp2
            go_roundw
            case rel => exact ⟨k + 1, hlk, by go_num, HSA.out, HZ.out⟩
            case measure => simp [intOf]; omega
          · have dc : decide (c < (0 : Int)) = false := decide_eq_false (by omega)
            have HAK := Lib.hid (HS2.out hc1)
            clear hcr hc1
            go_wp2_with fail
            refine region_later (by kernel_rfl) (by kernel_rfl) ?_
            repeat (go_big_quiet_step ((go_at_call 37; exact HC.out _)))
            refine wpQuiet_nil ?_
            rintro _ ⟨nx, rfl⟩
            have HZ : Hid (Below wr.heap.size wr nx.at_) := nx.below
            have HZQ : Hid (∀ o u, wr.cell? ⟨g', o, none⟩ = some u → nx.at_.cell? ⟨g', o, none⟩ = some u) := fun o u h => (nx.below.cell (by exact hg')).trans h
            have h0 := HZQ.out _ _ e0
            have h1 := HZQ.out _ _ e1
            have h2 := HZQ.out _ _ e2
            have h3 := HZQ.out _ _ e3
            clear hLC d0 d1 d2 d3 e0 e1 e2 e3 hg' l5 dc HZQ
            generalize nx.at_ = wn at *
            have X5N := Lib.hid (X5R.out.below HZ.out X5R.out.lt)
            have d0 := X5N.out.cell 0 _ rfl
            have d1 := X5N.out.cell 1 _ rfl
            have d2 := X5N.out.cell 2 _ rfl
            have d3 := X5N.out.cell 3 _ rfl
            have f1 : ((k : Int) == (out.length : Int)) = false := by rw [beq_eq_false_iff_ne]; omega
            have f2 : (k == out.length) = false := by rw [beq_eq_false_iff_ne]; omega
            go_wp2_with fail
            by_cases hq : q = p.key
            · have hd : keyEq q p.key = true := decide_eq_true hq
              have HIO : Hid (keysP (l.take (i + 1)) = out) := by show _ = _; rw [HST.out, HK.out]; exact insK_old HAK.out (by rw [HQ.out, hq])
              clear hq
              go_quiet (fail)
              clear h0 h1 h2 h3 d0 d1 d2 d3
              go_wp2
              go_roundw
              case rel => exact ⟨i + 1, out, hlt, by go_num, HIO.out, by (have h1 := HOL.out; show _ ≤ _; omega), HORO.out.below (belowN HZ.out _), belowN (HBR.out.trans (HZ.out.mono HBR.out.size)) _⟩
              case measure => simp [intOf]; omega
            · have hd : keyEq q p.key = false := decide_eq_false hq
              have HNE : Hid (out[k]? ≠ some p.key) := by show _ ≠ _; rw [HQ.out]; simpa using hq
              clear hq
              go_quiet (fail)
              clear h0 h1 h2 h3 d0 d1 d2 d3
              go_wp2_with fail
              refine wp_world ?_
              intro V hV
              have HOV : Hid (SliceOf 4 keyC V (.slice (some ⟨g', o', none⟩) out.length oc) out) := by rw [hV]; exact HOR.out.below (belowN HZ.out _)
              have X5V : Hid (Box V wo.heap.size [.string p.key.group, .string p.key.artifact, .string p.key.type, .string p.key.classifier, .string p.version, .int .i64 p.scope]) := by rw [hV]; exact X5N.out.drewN _
              have HBV : Hid (Below w.heap.size w V) := by rw [hV]; exact belowN (HBR.out.trans (HZ.out.mono HBR.out.size)) _
              clear hV
              have HIN : Hid (keysP (l.take (i + 1)) = out.take k ++ p.key :: out.drop k) := by show _ = _; rw [HST.out, HK.out]; exact insK_new HAK.out (HNE.out)
              have HT : Hid (∀ w1, Below V.heap.size V w1 → SliceOf 4 keyC w1 (.slice (some ⟨g', o', none⟩) k k) (out.take k)) := fun w1 h1 => (HOV.out.below h1).takeCap hk
              have HD : Hid (∀ w1, Below V.heap.size V w1 → SliceOf 4 keyC w1 (.slice (cut (some ⟨g', o', none⟩) k oc 4) (out.length - k) (oc - k)) (out.drop k)) := fun w1 h1 => (HOV.out.below h1).cut hk
              have HTL : Hid ((out.take k).length = k) := by show _ = _; rw [List.length_take, Nat.min_eq_left hk]
              have HDL : Hid ((out.drop k).length = out.length - k) := List.length_drop
              have HBY : Hid (out.length ≤ 1000) := by have h1 := HOL.out; have h2 := HLL.out; show _ ≤ _; omega
              have d0 := X5V.out.cell 0 _ rfl
              have d1 := X5V.out.cell 1 _ rfl
              have d2 := X5V.out.cell 2 _ rfl
              have d3 := X5V.out.cell 3 _ rfl
              have HAL : Hid (Below V.heap.size V (V.drew.alloc (.cells (keyC p.key).toArray 42))) := (belowN (Below.refl _ V) 1).trans ((Below.refl _ V.drew).alloc (Nat.le_refl _) _)
              have HIL := Lib.hid (keyLit V.drew p.key V.heap.size (Nat.le_refl _) V.heap.size rfl)
              go_region_law (first | (refine step_append_slice _ rfl (.tmp 48) (.tmp 51) 58 rfl V.heap.size 42 Try.underlying58 info_keyE rfl (by decide) keyC_len (.slice (some ⟨V.heap.size, 0, none⟩) 1 1) [p.key] (by simp [Act.eval]) HIL.out (.slice (cut (some ⟨g', o', none⟩) k oc 4) (out.length - k) (oc - k)) (out.drop k) (by simp [Act.eval]) (HD.out _ HAL.out) (fun _ _ => keyC_one) (by have h1 := HBY.out; have h2 := HDL.out; simp only [List.length_cons, List.length_nil]; omega) (by decide) (by simp) ?_; intro a8 n8 c8 w8 ho8 hg8; have HO8 := Lib.hid ho8; have HG8 : Hid (Below V.heap.size V w8) := HAL.out.trans (below_grown hg8 (by simp) |>.mono (Nat.le_refl _)); clear ho8 hg8) | (refine step_append_full _ rfl (.tmp 45) (.tmp 52) 58 rfl 42 Try.underlying58 info_keyE rfl (by decide) keyC_len (some ⟨g', o', none⟩) k k (out.take k) (by simp [Act.eval]) (HT.out _ HG8.out) (.slice a8 n8 c8) ([p.key] ++ out.drop k) (by simp [Act.eval]) (HO8.out.slice keyC_len) (fun _ _ => keyC_one) (by rw [HTL.out]; simp only [List.length_append, List.length_cons, List.length_nil]; omega) (by simp) (by rw [HTL.out]; have h1 := HBY.out; have h2 := HDL.out; simp only [List.length_append, List.length_cons, List.length_nil]; omega) (by decide) ?_; intro a9 n9 c9 w9 ho9 hg9; have HO9 := Lib.hid ho9; have HG9 : Hid (Below V.heap.size V w9) := HG8.out.trans (below_grown0 hg9 |>.mono HG8.out.size); clear ho9 hg9))
              all_goals
                go_wp2
                go_roundw
                case rel => exact ⟨i + 1, out.take k ++ ([p.key] ++ out.drop k), hlt, by go_num, HIN.out, by (show _ ≤ _; simp only [List.length_append, List.length_cons, List.length_nil]; have h1 := HTL.out; have h2 := HDL.out; have h3 := HOL.out; omega), HO9.out.base_mono (Nat.le_trans HBV.out.size HG8.out.size), HBV.out.trans (HG9.out.mono HBV.out.size)⟩
                case measure => simp [intOf]; omega
        · obtain rfl : k = out.length := by omega
          have dk : decide ((out.length : Int) < (out.length : Int)) = false := decide_eq_false (by omega)
          have dkN : decide (out.length < out.length) = false := decide_eq_false (by omega)
          have HAK := Lib.hid (ahead_end rfl HA.out)
          have HNE : Hid (out[out.length]? ≠ some p.key) := by show _ ≠ _; simp
          go_wp2_with fail
          refine region_later (by kernel_rfl) (by kernel_rfl) ?_
          repeat (go_big_quiet_step (fail))
          refine wpQuiet_nil ?_
          rintro _ ⟨nx, rfl⟩
          have HZ : Hid (Below wr.heap.size wr nx.at_) := nx.below
          clear hLC d0 d1 d2 d3 l5 hlk
          generalize nx.at_ = wn at *
          have X5N := Lib.hid (X5R.out.below HZ.out X5R.out.lt)
          have f1 : ((out.length : Int) == (out.length : Int)) = true := by simp
          have f2 : (out.length == out.length) = true := by simp
          go_wp2_with fail
          go_quiet (fail)
          go_wp2_with fail
          refine wp_world ?_
          intro V hV
          have HOV : Hid (SliceOf 4 keyC V (.slice oo out.length oc) out) := by rw [hV]; exact HOR.out.below (belowN HZ.out _)
          have X5V : Hid (Box V wo.heap.size [.string p.key.group, .string p.key.artifact, .string p.key.type, .string p.key.classifier, .string p.version, .int .i64 p.scope]) := by rw [hV]; exact X5N.out.drewN _
          have HBV : Hid (Below w.heap.size w V) := by rw [hV]; exact belowN (HBR.out.trans (HZ.out.mono HBR.out.size)) _
          clear hV
          have HIN : Hid (keysP (l.take (i + 1)) = out.take out.length ++ p.key :: out.drop out.length) := by show _ = _; rw [HST.out, HK.out]; exact insK_new HAK.out (HNE.out)
          have HT : Hid (∀ w1, Below V.heap.size V w1 → SliceOf 4 keyC w1 (.slice oo out.length out.length) (out.take out.length)) := fun w1 h1 => (HOV.out.below h1).takeCap hk
          have HD : Hid (∀ w1, Below V.heap.size V w1 → SliceOf 4 keyC w1 (.slice (cut oo out.length oc 4) (out.length - out.length) (oc - out.length)) (out.drop out.length)) := fun w1 h1 => (HOV.out.below h1).cut hk
          have HTL : Hid ((out.take out.length).length = out.length) := by show _ = _; rw [List.length_take, Nat.min_eq_left hk]
          have HDL : Hid ((out.drop out.length).length = out.length - out.length) := List.length_drop
          have HBY : Hid (out.length ≤ 1000) := by have h1 := HOL.out; have h2 := HLL.out; show _ ≤ _; omega
          have d0 := X5V.out.cell 0 _ rfl
          have d1 := X5V.out.cell 1 _ rfl
          have d2 := X5V.out.cell 2 _ rfl
          have d3 := X5V.out.cell 3 _ rfl
          have HAL : Hid (Below V.heap.size V (V.drew.alloc (.cells (keyC p.key).toArray 42))) := (belowN (Below.refl _ V) 1).trans ((Below.refl _ V.drew).alloc (Nat.le_refl _) _)
          have HIL := Lib.hid (keyLit V.drew p.key V.heap.size (Nat.le_refl _) V.heap.size rfl)
          go_region_law (first | (refine step_append_slice _ rfl (.tmp 48) (.tmp 51) 58 rfl V.heap.size 42 Try.underlying58 info_keyE rfl (by decide) keyC_len (.slice (some ⟨V.heap.size, 0, none⟩) 1 1) [p.key] (by simp [Act.eval]) HIL.out (.slice (cut oo out.length oc 4) (out.length - out.length) (oc - out.length)) (out.drop out.length) (by simp [Act.eval]) (HD.out _ HAL.out) (fun _ _ => keyC_one) (by have h1 := HBY.out; have h2 := HDL.out; simp only [List.length_cons, List.length_nil]; omega) (by decide) (by simp) ?_; intro a8 n8 c8 w8 ho8 hg8; have HO8 := Lib.hid ho8; have HG8 : Hid (Below V.heap.size V w8) := HAL.out.trans (below_grown hg8 (by simp) |>.mono (Nat.le_refl _)); clear ho8 hg8) | (refine step_append_full _ rfl (.tmp 45) (.tmp 52) 58 rfl 42 Try.underlying58 info_keyE rfl (by decide) keyC_len oo out.length out.length (out.take out.length) (by simp [Act.eval]) (HT.out _ HG8.out) (.slice a8 n8 c8) ([p.key] ++ out.drop out.length) (by simp [Act.eval]) (HO8.out.slice keyC_len) (fun _ _ => keyC_one) (by rw [HTL.out]; simp only [List.length_append, List.length_cons, List.length_nil]; omega) (by simp) (by rw [HTL.out]; have h1 := HBY.out; have h2 := HDL.out; simp only [List.length_append, List.length_cons, List.length_nil]; omega) (by decide) ?_; intro a9 n9 c9 w9 ho9 hg9; have HO9 := Lib.hid ho9; have HG9 : Hid (Below V.heap.size V w9) := HG8.out.trans (below_grown0 hg9 |>.mono HG8.out.size); clear ho9 hg9))
          all_goals
            go_wp2
            go_roundw
            case rel => exact ⟨i + 1, out.take out.length ++ ([p.key] ++ out.drop out.length), hlt, by go_num, HIN.out, by (show _ ≤ _; simp only [List.length_append, List.length_cons, List.length_nil]; have h1 := HTL.out; have h2 := HDL.out; have h3 := HOL.out; omega), HO9.out.base_mono (Nat.le_trans HBV.out.size HG8.out.size), HBV.out.trans (HG9.out.mono HBV.out.size)⟩
            case measure => simp [intOf]; omega
    · obtain rfl : i = l.length := by omega
      have HF : Hid (keysP l = out) := by have := HK.out; rwa [List.take_length] at this
      clear hlt
      go_wp2
      go_ret
      rw [HF.out]
      exact ⟨_, rfl, HOO.out, HB.out⟩

end Go.Proofs.Ytmcjpmogjmnfpaa
