/- Walks: the document's Apply; the conditions stand in the theorem. -/
import Derived.Test.YtmcjpmogjmnfpaaL22
import Derived.Test.YtmcjpmogjmnfpaaL24
import Derived.Test.YtmcjpmogjmnfpaaLOpen2
import Derived.Test.YtmcjpmogjmnfpaaLA
namespace Go.Proofs.Ytmcjpmogjmnfpaa
open Go Go.RowKit

def fitB (a : List Pin) (e : Edit) : Bool := ((findP a e.key).isSome == e.had) && pinEq ((findP a e.key).getD noPin) e.old
def fitsB (a : List Pin) (l : List Edit) : Bool := l.all (fitB a)
def noLock : Lock := ⟨noGav, []⟩
def outL (a : Lock) (l : List Edit) : Lock := ⟨a.root, refRow (refPins a.pins l)⟩
def applyR (a : Lock) (l : List Edit) : Option Lock := if lockMay a && mayE l && fitsB a.pins l && lockMay (outL a l) then some (outL a l) else none
def ApplyOut (w : World) (r : Lock) (ok : Value) (e : Ending) (w' : World) : Prop := ∃ v, e = .returned (.tuple #[.agg (lockC r v).toArray, ok]) ∧ SliceOf 6 pinC w' v r.pins ∧ Below w.heap.size w w'
theorem ApplyOut.no {w w' : World} {ok : Value} (hb : Below w.heap.size w w') : ApplyOut w noLock ok (.returned (.tuple #[.agg #[.string ⟨#[]⟩, .string ⟨#[]⟩, .string ⟨#[]⟩, .slice none 0 0], ok])) w' := ⟨.slice none 0 0, rfl, SliceOf.nil, hb⟩
theorem size_lock : (Try.prog.info? 26).map (·.size) = some 4 := by kernel_rfl
theorem refPins_succ {a : List Pin} {l : List Edit} {i : Nat} (hi : i < l.length) : refPins a (l.take (i + 1)) = stepP (refPins a (l.take i)) l[i] := by
  unfold refPins
  rw [List.take_succ_eq_append_getElem hi, List.foldl_append]; rfl
theorem stepP_len (pins : List Pin) (e : Edit) : (stepP pins e).length ≤ pins.length + 1 := by
  unfold stepP
  rw [List.length_append]
  have h1 := List.length_filter_le (fun p : Pin => decide (p.key ≠ e.key)) pins
  split
  · simp only [List.length_cons, List.length_nil]; omega
  · simp only [List.length_nil]; omega
theorem fits_succ {a : List Pin} {l : List Edit} {i : Nat} (hi : i < l.length) (h : fitsB a (l.take i) = true) (he : fitB a l[i] = true) : fitsB a (l.take (i + 1)) = true := by
  unfold fitsB at h ⊢
  rw [List.take_succ_eq_append_getElem hi, List.all_append, h]
  simpa using he
theorem fits_no {a : List Pin} {l : List Edit} {i : Nat} (hi : i < l.length) (he : fitB a l[i] = false) : fitsB a l = false := by
  unfold fitsB
  rw [List.all_eq_false]
  exact ⟨l[i], List.getElem_mem hi, by rw [he]; simp⟩
theorem refPins_sm : ∀ (l : List Edit) (a : List Pin), (∀ p ∈ a, pinSm p) → (∀ e ∈ l, editSm e) → ∀ p ∈ refPins a l, pinSm p
  | [], a, h, _, p, hp => h p hp
  | e :: l, a, h, h', p, hp => by
    refine refPins_sm l (stepP a e) (fun q hq => ?_) (fun f hf => h' f (List.mem_cons_of_mem _ hf)) p hp
    unfold stepP at hq
    rcases List.mem_append.1 hq with hq | hq
    · exact h q (List.mem_filter.1 hq).1
    · split at hq
      · simp only [List.mem_cons, List.not_mem_nil, or_false] at hq
        subst hq
        exact (h' e (List.mem_cons_self ..)).2.2
      · simp at hq
theorem noPin_sm : pinSm noPin := ⟨⟨by decide, by decide, by decide, by decide⟩, by decide⟩
theorem getD_sm {ps : List Pin} (h : ∀ p ∈ ps, pinSm p) (k : Key) : pinSm ((findP ps k).getD noPin) := by
  cases hf : findP ps k with
  | none => exact noPin_sm
  | some p =>
    unfold findP at hf
    exact h p (List.mem_of_find?_eq_some hf)
theorem outL_sm {a : Lock} {l : List Edit} (ha : lockSm a) (hl : ∀ e ∈ l, editSm e) : lockSm (outL a l) := by
  refine ⟨ha.1, fun p hp => ?_⟩
  obtain ⟨k, -, rfl⟩ := List.mem_map.1 hp
  exact getD_sm (refPins_sm l a.pins ha.2 hl) k
theorem pinLit (w : World) (p : Pin) (N : Nat) (hN : w.heap.size = N) : SliceOf 6 pinC (w.alloc (.cells #[.string p.key.group, .string p.key.artifact, .string p.key.type, .string p.key.classifier, .string p.version, .int .i64 p.scope] 44)) (.slice (some ⟨N, 0, none⟩) 1 1) [p] :=
  sliceLit pinC_len w [p] 44 N 1 hN rfl (by simp [maxLen])
theorem filt_succ {ps : List Pin} {k : Key} {j : Nat} (hj : j < ps.length) : (ps.take (j + 1)).filter (fun q => decide (q.key ≠ k)) = (ps.take j).filter (fun q => decide (q.key ≠ k)) ++ (if ps[j].key = k then [] else [ps[j]]) := by
  rw [List.take_succ_eq_append_getElem hj, List.filter_append]
  congr 1
  by_cases h : ps[j].key = k <;> simp [h]
theorem own_ne {α : Type} {base N : Nat} {E n : Nat} {C : α → List Value} {w : World} {v : Value} {l : List α} (h : Owns base E n C w v l) (hN : N < base) : some N ≠ v.ownBlock := fun e => by
  have := (h.lt N e.symm).1
  omega
theorem SliceOf.grownN {α : Type} {n : Nat} {C : α → List Value} {w w' : World} {ao : Option Addr} {len cap : Nat} {l : List α} (h : SliceOf n C w (.slice ao len cap) l) {N : Nat} (hg : w.grownBy w' (some N)) (hne : ∀ b o s, ao = some ⟨b, o, s⟩ → b ≠ N) : SliceOf n C w' (.slice ao len cap) l := by
  obtain ⟨ao', cap', h1, h2, hm, h3, h4⟩ := h
  cases h1
  refine ⟨_, _, rfl, h2, hm, h3, fun i x hx => ?_⟩
  obtain ⟨b, o, e, hlt, hc⟩ := h4 i x hx
  refine ⟨b, o, e, Nat.lt_of_lt_of_le hlt hg.size, fun j u hu => ?_⟩
  rw [← hc j u hu]
  exact World.cell?_of_block (by exact hg.block b hlt (by simpa using hne b o none e))

attribute [local go_sem ↓] eqg_pinE neq_pinB eqg_keyE neq_keyB in
set_option maxRecDepth 100000 in
set_option maxHeartbeats 16000000 in
theorem refApply_any (a : Lock) (l : List Edit) (av lv : Value) (w : World) (hav : SliceOf 6 pinC w av a.pins) (hlv : SliceOf 18 editC w lv l) (hsa : lockSm a) (hsl : ∀ e ∈ l, editSm e) (hl : a.pins.length + l.length ≤ 500) :
    Calls Try.prog 15 #[.agg (lockC a av).toArray, lv] w (ApplyOut w ((applyR a l).getD noLock) (.bool (applyR a l).isSome)) := by
  obtain ⟨ao, ac, rfl⟩ := hav.shape
  obtain ⟨lo, lc, rfl⟩ := hlv.shape
  have hlm : l.length ≤ 9223372036854775807 := by omega
  have HA := Lib.hid hav
  have HV := Lib.hid hlv
  have HSA := Lib.hid hsa
  have HSL := Lib.hid hsl
  have HL := Lib.hid hl
  clear hav hlv hsa hsl hl
  unfold lockC
  go_enter Try.func15, Try.ntmps15
  go_upto_region 1 with fail
  refine wp_world ?_
  intro W hW
  have x2 : Box W w.heap.size [.string a.root.group, .string a.root.artifact, .string a.root.version, .slice ao a.pins.length ac] := by rw [hW]; exact ((Box.new w _ _ _ rfl).alloc _)
  have x4 : Box W (w.heap.size + 1) [.string ⟨#[]⟩, .string ⟨#[]⟩, .string ⟨#[]⟩, .slice none 0 0] := by rw [hW]; exact (Box.new _ _ _ _ (by simp))
  have hB : Below w.heap.size w W := by rw [hW]; exact ((Below.refl _ w).alloc (Nat.le_refl _) _).alloc (by simp) _
  clear hW
  have HX2 := Lib.hid x2
  have HX4 := Lib.hid x4
  have HBW := Lib.hid hB
  have hs := hB.size
  have y0 := x2.cell 0 _ rfl
  have y1 := x2.cell 1 _ rfl
  have y2 := x2.cell 2 _ rfl
  have y3 := x2.cell 3 _ rfl
  clear x2 x4 hB
  have HM1 := Lib.hid (refLockMay_any a (.slice ao a.pins.length ac) W (HA.out.below HBW.out) HSA.out)
  go_wp2_with fail
  refine HM1.out.mono ?_
  rintro e w1 ⟨rfl, hb1⟩
  have HX2' := Lib.hid (HX2.out.below hb1 HX2.out.lt)
  have HX4' := Lib.hid (HX4.out.below hb1 HX4.out.lt)
  have HB1 := Lib.hid (HBW.out.trans (hb1.mono hs))
  have s1 := HB1.out.size
  clear hb1 y0 y1 y2 y3 HX2 HX4 HM1
  obtain ⟨ma, hma⟩ : ∃ m, m = lockMay a := ⟨_, rfl⟩
  have HMA := Lib.hid hma
  rw [← hma]
  clear hma
  cases ma with
  | false =>
    have HE : Hid (applyR a l = none) := by show _ = _; unfold applyR; rw [← HMA.out]; rfl
    go_wp2_with ((with_reducible show wpList _ _ _ (Oper.mk none (Op.store 26 (.tmp 4) (.tmp 27)) _ _ _ _ :: _) _ _); refine wpList_store_box rfl 26 (.tmp 4) (.tmp 27) rfl (w.heap.size + 1) [.string ⟨#[]⟩, .string ⟨#[]⟩, .string ⟨#[]⟩, .slice none 0 0] [.string ⟨#[]⟩, .string ⟨#[]⟩, .string ⟨#[]⟩, .slice none 0 0] rfl rfl HX4'.out rfl size_lock (by simp [Value.oneCell']) ?_; intro W9 v9 hg9; have z0 := v9.cell 0 _ rfl; have z1 := v9.cell 1 _ rfl; have z2 := v9.cell 2 _ rfl; have z3 := v9.cell 3 _ rfl; have HG9 := Lib.hid (HB1.out.trans ((below_grown hg9 (by have := HX4'.out.lt; omega)).mono (by omega))); clear hg9 v9)
    refine bodyPost_ret (v := .tuple #[.agg #[.string ⟨#[]⟩, .string ⟨#[]⟩, .string ⟨#[]⟩, .slice none 0 0], .bool false]) (by simp [results, Try.results15, go_sem, z0, z1, z2, z3]) rfl ?_
    rw [HE.out]
    exact ApplyOut.no HG9.out
  | true =>
  have HM2 := Lib.hid (refMay_any l (.slice lo l.length lc) w1 (HV.out.below HB1.out))
  go_wp2_with fail
  refine HM2.out.mono ?_
  rintro e w2 ⟨rfl, hb2⟩
  have HX2 := Lib.hid (HX2'.out.below hb2 HX2'.out.lt)
  have HX4 := Lib.hid (HX4'.out.below hb2 HX4'.out.lt)
  have HB2 := Lib.hid (HB1.out.trans (hb2.mono s1))
  have s2 := HB2.out.size
  clear hb2 HX2' HX4' HM2
  obtain ⟨mb, hmb⟩ : ∃ m, m = mayE l := ⟨_, rfl⟩
  have HMB := Lib.hid hmb
  rw [← hmb]
  clear hmb
  cases mb with
  | false =>
    have HE : Hid (applyR a l = none) := by show _ = _; unfold applyR; rw [← HMA.out, ← HMB.out]; rfl
    go_wp2_with ((with_reducible show wpList _ _ _ (Oper.mk none (Op.store 26 (.tmp 4) (.tmp 27)) _ _ _ _ :: _) _ _); refine wpList_store_box rfl 26 (.tmp 4) (.tmp 27) rfl (w.heap.size + 1) [.string ⟨#[]⟩, .string ⟨#[]⟩, .string ⟨#[]⟩, .slice none 0 0] [.string ⟨#[]⟩, .string ⟨#[]⟩, .string ⟨#[]⟩, .slice none 0 0] rfl rfl HX4.out rfl size_lock (by simp [Value.oneCell']) ?_; intro W9 v9 hg9; have z0 := v9.cell 0 _ rfl; have z1 := v9.cell 1 _ rfl; have z2 := v9.cell 2 _ rfl; have z3 := v9.cell 3 _ rfl; have HG9 := Lib.hid (HB2.out.trans ((below_grown hg9 (by have := HX4.out.lt; omega)).mono (by omega))); clear hg9 v9)
    refine bodyPost_ret (v := .tuple #[.agg #[.string ⟨#[]⟩, .string ⟨#[]⟩, .string ⟨#[]⟩, .slice none 0 0], .bool false]) (by simp [results, Try.results15, go_sem, z0, z1, z2, z3]) rfl ?_
    rw [HE.out]
    exact ApplyOut.no HG9.out
  | true =>
  have y3 := HX2.out.cell 3 _ rfl
  have l2 := HX2.out.lt
  have HOE : Hid (Owns w2.heap.size 44 6 pinC (w2.alloc (.cells #[] 44)) (.slice (some ⟨w2.heap.size, 0, none⟩) 0 0) []) := Owns.empty rfl (Nat.le_refl _)
  have HAL : Hid (Below w2.heap.size w2 (w2.alloc (.cells #[] 44))) := (Below.refl _ w2).alloc (Nat.le_refl _) _
  go_wp2_with (at_builtin; refine wpList_append_slice _ rfl _ _ 24 rfl w2.heap.size 44 Try.underlying24 info_pinE rfl (by decide) pinC_len (.slice (some ⟨w2.heap.size, 0, none⟩) 0 0) [] rfl HOE.out (.slice ao a.pins.length ac) a.pins rfl (HA.out.below (HB2.out.trans (HAL.out.mono s2))) (fun _ _ => pinC_one) (by have h1 := HL.out; simp only [List.length_nil]; omega) (by decide) (by simp) ?_; intro v8 w8 hown8 hgrow8 hloc8; obtain ⟨po0, pc0, rfl⟩ := hown8.shape; have HO8 := Lib.hid hown8; have HB8 := Lib.hid (own_below HAL.out HOE.out hgrow8 (by simp)); clear hown8 hgrow8 hloc8)
  have HX2c := Lib.hid (HX2.out.below HB8.out HX2.out.lt)
  have HX4c := Lib.hid (HX4.out.below HB8.out HX4.out.lt)
  have HB9 := Lib.hid (HB2.out.trans (HB8.out.mono s2))
  have HS8 : Hid (SliceOf 6 pinC w8 (.slice po0 ([] ++ a.pins).length pc0) ([] ++ a.pins)) := HO8.out.slice pinC_len
  have s9 := HB9.out.size
  clear y3 l2 HOE HAL HX2 HX4 HO8 HB8
  go_loopw [6, 34] (fun pv iv wr => ∃ (i : Nat) (pins : List Pin), i ≤ l.length ∧ iv = .int .i64 i ∧ Hid (refPins a.pins (l.take i) = pins) ∧ SliceOf 6 pinC wr pv pins ∧ Hid (fitsB a.pins (l.take i) = true) ∧ Hid (pins.length ≤ a.pins.length + i) ∧ Below w8.heap.size w8 wr) (fun _ iv _ => l.length - (intOf iv).toNat)
  case atStart => exact ⟨0, a.pins, Nat.zero_le _, rfl, rfl, HS8.out, rfl, by show _ ≤ _; omega, Below.refl _ _⟩
  case round =>
    obtain ⟨wo, rfl⟩ : ∃ wo : World, wo = wr := ⟨_, rfl⟩
    obtain ⟨i, pins, hi, rfl, HPI, hps, HFI, HPL, hb⟩ := hrel
    obtain ⟨po, pc, rfl⟩ := hps.shape
    have HPS := Lib.hid hps
    have HBI := Lib.hid hb
    have HBO := Lib.hid (HB9.out.trans (hb.mono s9))
    have so := HBO.out.size
    have si := HBI.out.size
    have hpl : pins.length ≤ 9223372036854775807 := by have h1 := HPL.out; have h2 := HL.out; omega
    have HXA := Lib.hid (HX2c.out.below hb HX2c.out.lt)
    have HXR := Lib.hid (HX4c.out.below hb HX4c.out.lt)
    by_cases hlt : i < l.length
    · have hltI : (i : Int) < (l.length : Int) := by omega
      obtain ⟨g, o, rfl, hg, hc⟩ := (HV.out.below HBO.out).at hlt
      have HRG : Hid (wo.rangeAt g (o + i * 18) (editC l[i])) := fun q u h => hc q u h
      have hx8 : Hid (Box (wo.alloc (.cells #[.string ⟨#[]⟩, .string ⟨#[]⟩, .string ⟨#[]⟩, .string ⟨#[]⟩, .bool false, .bool false, .string ⟨#[]⟩, .string ⟨#[]⟩, .string ⟨#[]⟩, .string ⟨#[]⟩, .string ⟨#[]⟩, .int .i64 0, .string ⟨#[]⟩, .string ⟨#[]⟩, .string ⟨#[]⟩, .string ⟨#[]⟩, .string ⟨#[]⟩, .int .i64 0] 46)) wo.heap.size [.string ⟨#[]⟩, .string ⟨#[]⟩, .string ⟨#[]⟩, .string ⟨#[]⟩, .bool false, .bool false, .string ⟨#[]⟩, .string ⟨#[]⟩, .string ⟨#[]⟩, .string ⟨#[]⟩, .string ⟨#[]⟩, .int .i64 0, .string ⟨#[]⟩, .string ⟨#[]⟩, .string ⟨#[]⟩, .string ⟨#[]⟩, .string ⟨#[]⟩, .int .i64 0]) := Box.new wo _ _ _ rfl
      have HSTP : Hid (refPins a.pins (l.take (i + 1)) = stepP pins l[i]) := by show _ = _; rw [← HPI.out]; exact refPins_succ hlt
      have HFY : Hid (fitB a.pins l[i] = true → fitsB a.pins (l.take (i + 1)) = true) := fun h => fits_succ hlt HFI.out h
      have HFN : Hid (fitB a.pins l[i] = false → fitsB a.pins l = false) := fun h => fits_no hlt h
      have HSLN : Hid (stepP pins l[i] = pins.filter (fun q => decide (q.key ≠ l[i].key)) ++ (if l[i].has then [l[i].new] else [])) := rfl
      have HSPL := Lib.hid (stepP_len pins l[i])
      clear hc hb hps
      generalize l[i] = e at *
      go_upto_region 7 with (first | ((with_reducible show wpList _ _ _ (Oper.mk _ (Op.load 46 (.tmp 36)) _ _ _ _ :: _) _ _); refine wpList_load_mid rfl 46 (.tmp 36) rfl g (o + i * 18) rfl (editC e) _ HRG.out Try.underlying46 rfl size_edit ?_) | ((with_reducible show wpList _ _ _ (Oper.mk none (Op.store 46 (.tmp 8) (.tmp 37)) _ _ _ _ :: _) _ _); refine wpList_store_box rfl 46 (.tmp 8) (.tmp 37) rfl wo.heap.size [.string ⟨#[]⟩, .string ⟨#[]⟩, .string ⟨#[]⟩, .string ⟨#[]⟩, .bool false, .bool false, .string ⟨#[]⟩, .string ⟨#[]⟩, .string ⟨#[]⟩, .string ⟨#[]⟩, .string ⟨#[]⟩, .int .i64 0, .string ⟨#[]⟩, .string ⟨#[]⟩, .string ⟨#[]⟩, .string ⟨#[]⟩, .string ⟨#[]⟩, .int .i64 0] (editC e) rfl rfl hx8.out rfl size_edit editC_one ?_; intro W5 v0 hg0))
      have X8 := Lib.hid v0
      have HB5 := Lib.hid (((Below.refl _ wo).alloc (Nat.le_refl _) _).trans (below_grown hg0 (by simp) |>.mono (by omega)))
      have s5 := HB5.out.size
      clear hx8 v0 hg0 HRG hg
      obtain ⟨k, had, has, old, new⟩ := e
      obtain ⟨p, sf, hp, hsf, HF1⟩ := refFind_f a.pins k
      have HFB : Hid (fitB a.pins ⟨k, had, has, old, new⟩ = ((sf == had) && pinEq p old)) := by show _ = _; unfold fitB; rw [hp, hsf]
      have HFF := Lib.hid HF1
      clear hp hsf HF1
      have n0 := X8.out.cell 0 _ rfl
      have n1 := X8.out.cell 1 _ rfl
      have n2 := X8.out.cell 2 _ rfl
      have n3 := X8.out.cell 3 _ rfl
      have y3 := (HXA.out.below HB5.out HXA.out.lt).cell 3 _ rfl
      simp only [Act.put]
      go_wp2_with fail
      refine (HFF.out _ W5 (HA.out.below (HBO.out.trans (HB5.out.mono so)))).mono ?_
      rintro e w6 ⟨rfl, hb6⟩
      have X8b := Lib.hid (X8.out.below hb6 X8.out.lt)
      have HB6 := Lib.hid (HB5.out.trans (hb6.mono s5))
      have s6 := HB6.out.size
      clear n0 n1 n2 n3 y3 hb6 HFF
      go_upto_region 8 with fail
      refine wp_world ?_
      intro W7 hW7
      have x9 : Box W7 w6.heap.size [.string p.key.group, .string p.key.artifact, .string p.key.type, .string p.key.classifier, .string p.version, .int .i64 p.scope] := by rw [hW7]; exact Box.new w6 [.string p.key.group, .string p.key.artifact, .string p.key.type, .string p.key.classifier, .string p.version, .int .i64 p.scope] _ _ rfl
      have hb7 : Below w6.heap.size w6 W7 := by rw [hW7]; exact (Below.refl _ _).alloc (Nat.le_refl _) _
      clear hW7
      have X8c := Lib.hid (X8b.out.below hb7 X8b.out.lt)
      have HB7 := Lib.hid (HB6.out.trans (hb7.mono s6))
      have s7 := HB7.out.size
      have n0 := x9.cell 0 _ rfl
      have n1 := x9.cell 1 _ rfl
      have n2 := x9.cell 2 _ rfl
      have n3 := x9.cell 3 _ rfl
      have n4 := x9.cell 4 _ rfl
      have n5 := x9.cell 5 _ rfl
      have m4 := X8c.out.cell 4 _ rfl
      have m6 := X8c.out.cell 6 _ rfl
      have m7 := X8c.out.cell 7 _ rfl
      have m8 := X8c.out.cell 8 _ rfl
      have m9 := X8c.out.cell 9 _ rfl
      have m10 := X8c.out.cell 10 _ rfl
      have m11 := X8c.out.cell 11 _ rfl
      have HXR7 := Lib.hid (HXR.out.below HB7.out HXR.out.lt)
      have HBZ : Hid (Below w.heap.size w W7) := HBO.out.trans (HB7.out.mono so)
      clear x9 hb7 X8 X8b
      by_cases hsh : sf = had
      rotate_left
      · have hs1 : (sf != had) = true := by simpa using hsh
        have hs2 : (sf == had) = false := by simpa using hsh
        have HNO := Lib.hid (HFN.out (by rw [HFB.out, hs2]; rfl))
        clear hsh
        have HE : Hid (applyR a l = none) := by show _ = _; unfold applyR; rw [HNO.out]; simp
        go_wp2_with ((with_reducible show wpList _ _ _ (Oper.mk none (Op.store 26 (.tmp 4) (.tmp 56)) _ _ _ _ :: _) _ _); refine wpList_store_box rfl 26 (.tmp 4) (.tmp 56) rfl (w.heap.size + 1) [.string ⟨#[]⟩, .string ⟨#[]⟩, .string ⟨#[]⟩, .slice none 0 0] [.string ⟨#[]⟩, .string ⟨#[]⟩, .string ⟨#[]⟩, .slice none 0 0] rfl rfl HXR7.out rfl size_lock (by simp [Value.oneCell']) ?_; intro W9 v9 hg9; have z0 := v9.cell 0 _ rfl; have z1 := v9.cell 1 _ rfl; have z2 := v9.cell 2 _ rfl; have z3 := v9.cell 3 _ rfl; have HG9 := Lib.hid (HBZ.out.trans ((below_grown hg9 (by have := HXR7.out.lt; omega)).mono (by omega))); clear hg9 v9)
        refine bodyPost_ret (v := .tuple #[.agg #[.string ⟨#[]⟩, .string ⟨#[]⟩, .string ⟨#[]⟩, .slice none 0 0], .bool false]) (by simp [results, Try.results15, go_sem, z0, z1, z2, z3]) rfl ?_
        rw [HE.out]
        exact ApplyOut.no HG9.out
      · subst hsh
        have hs1 : (sf != sf) = false := by simp
        obtain ⟨d, hd⟩ : ∃ d, d = pinEq p old := ⟨_, rfl⟩
        have hd2 := hd.symm
        have HD := Lib.hid hd2
        clear hd
        cases d with
        | false =>
          have HNO := Lib.hid (HFN.out (by rw [HFB.out, HD.out]; simp))
          have HE : Hid (applyR a l = none) := by show _ = _; unfold applyR; rw [HNO.out]; simp
          go_wp2_with ((with_reducible show wpList _ _ _ (Oper.mk none (Op.store 26 (.tmp 4) (.tmp 56)) _ _ _ _ :: _) _ _); refine wpList_store_box rfl 26 (.tmp 4) (.tmp 56) rfl (w.heap.size + 1) [.string ⟨#[]⟩, .string ⟨#[]⟩, .string ⟨#[]⟩, .slice none 0 0] [.string ⟨#[]⟩, .string ⟨#[]⟩, .string ⟨#[]⟩, .slice none 0 0] rfl rfl HXR7.out rfl size_lock (by simp [Value.oneCell']) ?_; intro W9 v9 hg9; have z0 := v9.cell 0 _ rfl; have z1 := v9.cell 1 _ rfl; have z2 := v9.cell 2 _ rfl; have z3 := v9.cell 3 _ rfl; have HG9 := Lib.hid (HBZ.out.trans ((below_grown hg9 (by have := HXR7.out.lt; omega)).mono (by omega))); clear hg9 v9)
          refine bodyPost_ret (v := .tuple #[.agg #[.string ⟨#[]⟩, .string ⟨#[]⟩, .string ⟨#[]⟩, .slice none 0 0], .bool false]) (by simp [results, Try.results15, go_sem, z0, z1, z2, z3]) rfl ?_
          rw [HE.out]
          exact ApplyOut.no HG9.out
        | true =>
          have HFO := Lib.hid (HFY.out (by rw [HFB.out, HD.out]; simp))
          have HPV := Lib.hid (HPS.out.below HB7.out)
          go_wp2_with fail
          clear n0 n1 n2 n3 n4 n5 m4 m6 m7 m8 m9 m10 m11 hd2 hs1
          go_loopw [11, 59] (fun lv jv wk => ∃ j : Nat, j ≤ pins.length ∧ jv = .int .i64 j ∧ Owns W7.heap.size 44 6 pinC wk lv ((pins.take j).filter (fun q => decide (q.key ≠ k))) ∧ Below W7.heap.size W7 wk) (fun _ jv _ => pins.length - (intOf jv).toNat)
          case atStart => exact ⟨0, Nat.zero_le _, rfl, Owns.nil, Below.refl _ _⟩
          case round =>
            obtain ⟨j, hj, rfl, ho, hb⟩ := hrel
            obtain ⟨qo, qc, rfl⟩ := ho.shape
            have HO := Lib.hid ho
            have HBK := Lib.hid hb
            have sk := hb.size
            have X8k := Lib.hid (X8c.out.below hb X8c.out.lt)
            have n0 := X8k.out.cell 0 _ rfl
            have n1 := X8k.out.cell 1 _ rfl
            have n2 := X8k.out.cell 2 _ rfl
            have n3 := X8k.out.cell 3 _ rfl
            have l8 := X8k.out.lt
            by_cases hjl : j < pins.length
            · have hjI : (j : Int) < (pins.length : Int) := by omega
              obtain ⟨g', o', rfl, hg', hc⟩ := (HPV.out.below hb).pinAtF hjl
              have HFS := Lib.hid (filt_succ (k := k) hjl)
              have HLN : Hid (((pins.take j).filter (fun q => decide (q.key ≠ k))).length ≤ 1000) := by have h1 := List.length_filter_le (fun q : Pin => decide (q.key ≠ k)) (pins.take j); have h2 := HPL.out; have h3 := HL.out; rw [List.length_take] at h1; show _ ≤ _; omega
              have c0 := hc 0 _ rfl
              have c1 := hc 1 _ rfl
              have c2 := hc 2 _ rfl
              have c3 := hc 3 _ rfl
              have c4 := hc 4 _ rfl
              have c5 := hc 5 _ rfl
              rw [Nat.add_zero] at c0
              clear hc hb ho
              generalize (pins.take j).filter (fun q => decide (q.key ≠ k)) = left at *
              generalize pins[j] = q at *
              by_cases hqk : q.key = k
              · have hd : keyEq q.key k = true := decide_eq_true hqk
                rw [if_pos hqk, List.append_nil] at HFS
                clear hqk
                go_wp2
                go_roundw
                case rel => exact ⟨j + 1, hjl, by go_num, by rw [HFS.out]; exact HO.out.alloc _, HBK.out.alloc sk _⟩
                case measure => simp [intOf]; omega
              · have hd : keyEq q.key k = false := decide_eq_false hqk
                rw [if_neg hqk] at HFS
                clear hqk
                have HLQ2 : Hid (SliceOf 6 pinC ((wr.alloc (.cells #[.string q.key.group, .string q.key.artifact, .string q.key.type, .string q.key.classifier, .string q.version, .int .i64 q.scope] 44)).alloc (.cells #[.string q.key.group, .string q.key.artifact, .string q.key.type, .string q.key.classifier, .string q.version, .int .i64 q.scope] 44)) (.slice (some ⟨wr.heap.size + 1, 0, none⟩) 1 1) [q]) := pinLit (wr.alloc (.cells #[.string q.key.group, .string q.key.artifact, .string q.key.type, .string q.key.classifier, .string q.version, .int .i64 q.scope] 44)) q (wr.heap.size + 1) (by simp)
                go_wp2_with (at_builtin; refine wpList_append_slice _ rfl _ _ 24 rfl W7.heap.size 44 Try.underlying24 info_pinE rfl (by decide) pinC_len (.slice qo left.length qc) left rfl ((HO.out.alloc _).alloc _) _ [q] rfl HLQ2.out (fun _ _ => pinC_one) (by have h1 := HLN.out; simp only [List.length_cons, List.length_nil]; omega) (by decide) (by simp; omega) ?_; intro v9 w9 hown9 hgrow9 hloc9; have HO9 := Lib.hid hown9; have HB9' := Lib.hid (own_below ((HBK.out.alloc sk _).alloc (by simp; omega) _) ((HO.out.alloc _).alloc _) hgrow9 (by simp; omega)); clear hown9 hgrow9 hloc9)
                go_roundw
                case rel => exact ⟨j + 1, hjl, by go_num, by rw [HFS.out]; exact HO9.out, HB9'.out⟩
                case measure => simp [intOf]; omega
            · obtain rfl : j = pins.length := by omega
              have HOF : Hid (Owns W7.heap.size 44 6 pinC wr (.slice qo ((pins.take pins.length).filter (fun q => decide (q.key ≠ k))).length qc) (pins.filter (fun q => decide (q.key ≠ k)))) := by
                have h := ho
                simp only [List.take_length] at h ⊢
                exact h
              have HLF : Hid ((pins.filter (fun q => decide (q.key ≠ k))).length ≤ pins.length) := List.length_filter_le _ _
              have HBW8 : Hid (Below w8.heap.size w8 wr) := HBI.out.trans ((HB7.out.mono si).trans (hb.mono (Nat.le_trans si HB7.out.size)))
              have sw := HBW8.out.size
              have HREF := Lib.hid (HSTP.out.trans HSLN.out)
              clear hjl ho hb HO n0 n1 n2 n3
              generalize ((pins.take pins.length).filter (fun q => decide (q.key ≠ k))).length = nq at *
              have n5 := X8k.out.cell 5 _ rfl
              cases has with
              | false =>
                go_wp2
                go_roundw
                case rel => exact ⟨i + 1, pins.filter (fun q => decide (q.key ≠ k)), hlt, by go_num, by (show _ = _; rw [HREF.out]; simp), HOF.out.slice pinC_len, HFO.out, by (have h1 := HLF.out; have h2 := HPL.out; show _ ≤ _; omega), HBW8.out⟩
                case measure => simp [intOf]; omega
              | true =>
                have HLT := Lib.hid (pinLit wr new wr.heap.size rfl)
                have n12 := X8k.out.cell 12 _ rfl
                have n13 := X8k.out.cell 13 _ rfl
                have n14 := X8k.out.cell 14 _ rfl
                have n15 := X8k.out.cell 15 _ rfl
                have n16 := X8k.out.cell 16 _ rfl
                have n17 := X8k.out.cell 17 _ rfl
                go_wp2_with (at_builtin; refine wpList_append_slice _ rfl _ _ 24 rfl W7.heap.size 44 Try.underlying24 info_pinE rfl (by decide) pinC_len (.slice qo nq qc) (pins.filter (fun q => decide (q.key ≠ k))) rfl (HOF.out.alloc _) _ [new] rfl HLT.out (fun _ _ => pinC_one) (by have h1 := HLF.out; have h2 := HPL.out; have h3 := HL.out; simp only [List.length_cons, List.length_nil]; omega) (by decide) (by simp; omega) ?_; intro v9 w9 hown9 hgrow9 hloc9; have HO9 := Lib.hid (hown9.slice pinC_len); have HB9' := Lib.hid (own_below ((Below.refl w8.heap.size wr).alloc sw _) ((HOF.out.alloc _).base_mono (Nat.le_trans si HB7.out.size)) hgrow9 (by simp; omega)); clear hown9 hgrow9 hloc9)
                go_roundw
                case rel => exact ⟨i + 1, pins.filter (fun q => decide (q.key ≠ k)) ++ [new], hlt, by go_num, by (show _ = _; rw [HREF.out]; simp), HO9.out, HFO.out, by (have h1 := HLF.out; have h2 := HPL.out; show _ ≤ _; simp only [List.length_append, List.length_cons, List.length_nil]; omega), HBW8.out.trans HB9'.out⟩
                case measure => simp [intOf]; omega
    · obtain rfl : i = l.length := by omega
      have HREF : Hid (refPins a.pins l = pins) := by have h := HPI.out; rwa [List.take_length] at h
      have HFIT : Hid (fitsB a.pins l = true) := by have h := HFI.out; rwa [List.take_length] at h
      have y0 := HXA.out.cell 0 _ rfl
      have y1 := HXA.out.cell 1 _ rfl
      have y2 := HXA.out.cell 2 _ rfl
      have la := HXA.out.lt
      clear hlt hb hps
      go_upto_region 22 with fail
      refine wp_world ?_
      intro V hV
      have x14 : Box V wo.heap.size [.string a.root.group, .string a.root.artifact, .string a.root.version, .slice none 0 0] := by rw [hV]; exact Box.new wo _ _ _ rfl
      have hbV : Below wo.heap.size wo V := by rw [hV]; exact (Below.refl _ _).alloc (Nat.le_refl _) _
      clear hV y0 y1 y2 la
      have HX14 := Lib.hid x14
      have HBV := Lib.hid hbV
      have sV := hbV.size
      have HPV := Lib.hid (HPS.out.below hbV)
      clear x14 hbV
      go_wp2_with fail
      refine (keys_any pins (.slice po pins.length pc) V HPV.out (by have h1 := HPL.out; have h2 := HL.out; omega)).mono ?_
      rintro e w10 ⟨kv, rfl, hk10, hb10⟩
      obtain ⟨ko, kc, rfl⟩ := hk10.shape
      have HKO := Lib.hid hk10
      have HXB := Lib.hid (HX14.out.below hb10 HX14.out.lt)
      have HVW := Lib.hid hb10
      have HBT := Lib.hid (HBV.out.trans (hb10.mono sV))
      have st := HBT.out.size
      have hNV : wo.heap.size < V.heap.size := HX14.out.lt
      have hNW : wo.heap.size < w10.heap.size := HXB.out.lt
      have hVW := hb10.size
      have HKL : Hid ((keysP pins).length ≤ 1000) := by have h1 := keysP_len pins; have h2 := HPL.out; have h3 := HL.out; show _ ≤ _; omega
      have HROW : Hid (outL a l = ⟨a.root, (keysP pins).map fun k => (findP pins k).getD noPin⟩) := by show _ = _; unfold outL refRow; rw [HREF.out]
      clear hk10 hb10
      generalize keysP pins = keys at *
      have hkl : keys.length ≤ 9223372036854775807 := by have h1 := HKL.out; omega
      go_wp2_with fail
      go_loopw [88] (fun iv wr => ∃ (i : Nat) (v : Value), i ≤ keys.length ∧ iv = .int .i64 i ∧ Box wr wo.heap.size [.string a.root.group, .string a.root.artifact, .string a.root.version, v] ∧ Owns w10.heap.size 44 6 pinC wr v ((keys.take i).map fun k => (findP pins k).getD noPin) ∧ w10.grownBy wr (some wo.heap.size)) (fun iv _ => keys.length - (intOf iv).toNat)
      case atStart => exact ⟨0, .slice none 0 0, Nat.zero_le _, rfl, HXB.out, Owns.nil, World.grownBy.refl _ _⟩
      case round =>
        obtain ⟨i, v, hi, rfl, hbx, hown, hgr⟩ := hrel
        obtain ⟨vo, vc, rfl⟩ := hown.shape
        have HBX := Lib.hid hbx
        have HOW := Lib.hid hown
        have HGR := Lib.hid hgr
        have HBN : Hid (Below wo.heap.size wo wr) := HBT.out.trans (below_grown hgr (Nat.le_of_lt hNW))
        have sn := HBN.out.size
        have sg := hgr.size
        have HKS := Lib.hid ((HKO.out.keptR hgr hNV).slice keyC_len)
        by_cases hlt : i < keys.length
        · have hltI : (i : Int) < (keys.length : Int) := by omega
          have HRL : Hid (((keys.take i).map fun k => (findP pins k).getD noPin).length ≤ 1000) := by have h1 := HKL.out; show _ ≤ _; rw [List.length_map, List.length_take]; omega
          obtain ⟨kb, kf, rfl, hkb, hc⟩ := HKS.out.at hlt
          have g0 : wr.cell? ⟨kb, kf + i * 4, none⟩ = some (.string keys[i].group) := by simpa using hc 0 _ rfl
          have g1 : wr.cell? ⟨kb, kf + i * 4 + 1, none⟩ = some (.string keys[i].artifact) := hc 1 _ rfl
          have g2 : wr.cell? ⟨kb, kf + i * 4 + 2, none⟩ = some (.string keys[i].type) := hc 2 _ rfl
          have g3 : wr.cell? ⟨kb, kf + i * 4 + 3, none⟩ = some (.string keys[i].classifier) := hc 3 _ rfl
          have HST : Hid ((keys.take (i + 1)).map (fun k => (findP pins k).getD noPin) = (keys.take i).map (fun k => (findP pins k).getD noPin) ++ [(findP pins keys[i]).getD noPin]) := by
            show _ = _
            rw [List.take_succ_eq_append_getElem hlt, List.map_append]; rfl
          clear hc hbx hown hgr
          generalize (keys.take i).map (fun k => (findP pins k).getD noPin) = rows at *
          generalize keys[i] = k at *
          obtain ⟨p, sf, hp, -, HF1⟩ := refFind_f pins k
          have HFF := Lib.hid HF1
          rw [hp] at HST
          clear hp HF1
          go_wp2_with fail
          refine (HFF.out _ _ (HPS.out.below (HBN.out.alloc sn _))).mono ?_
          rintro e w6 ⟨rfl, hb6⟩
          have HB6 := Lib.hid ((HBX.out.alloc _).below hb6 (HBX.out.alloc _).lt)
          have HO6 := Lib.hid ((HOW.out.alloc _).below hb6)
          have HG6 := Lib.hid (grown_below HGR.out (((Below.refl _ wr).alloc (Nat.le_refl _) _).trans (hb6.mono (by simp))) sg)
          have s6 := HG6.out.size
          have c3 := HB6.out.cell 3 _ rfl
          have l14 := HB6.out.lt
          have HLP : Hid (SliceOf 6 pinC ((w6.alloc (.cells #[.string p.key.group, .string p.key.artifact, .string p.key.type, .string p.key.classifier, .string p.version, .int .i64 p.scope] 44)).alloc (.cells #[.string p.key.group, .string p.key.artifact, .string p.key.type, .string p.key.classifier, .string p.version, .int .i64 p.scope] 44)) (.slice (some ⟨w6.heap.size + 1, 0, none⟩) 1 1) [p]) := pinLit (w6.alloc (.cells #[.string p.key.group, .string p.key.artifact, .string p.key.type, .string p.key.classifier, .string p.version, .int .i64 p.scope] 44)) p (w6.heap.size + 1) (by simp)
          clear g0 g1 g2 g3 hkb hb6 HFF
          go_wp2_with (at_builtin; refine wpList_append_slice _ rfl _ _ 24 rfl w10.heap.size 44 Try.underlying24 info_pinE rfl (by decide) pinC_len (.slice vo rows.length vc) rows rfl ((HO6.out.alloc _).alloc _) _ [p] rfl HLP.out (fun _ _ => pinC_one) (by have h1 := HRL.out; simp only [List.length_cons, List.length_nil]; omega) (by decide) (by simp; omega) ?_; intro v9 w9 hown9 hgrow9 hloc9; obtain ⟨ro, rc, rfl⟩ := hown9.shape; have b9 := ((HB6.out.alloc _).alloc _).grown hgrow9 (own_ne HO6.out hNW); have c9 := b9.cell 3 _ rfl; have f9 := b9.free 3; have l9 := b9.lt; have HB9x := Lib.hid b9; have HO9 : Hid (Owns w10.heap.size 44 6 pinC w9 (.slice ro (rows.length + 1) rc) (rows ++ [p])) := (by have h := hown9; rw [List.length_append] at h; exact h); have HG9 := Lib.hid (grown_below HG6.out (own_below (((Below.refl w10.heap.size w6).alloc s6 _).alloc (by simp; omega) _) ((HO6.out.alloc _).alloc _) hgrow9 (by simp; omega)) (Nat.le_refl _)); clear hown9 hgrow9 hloc9 b9)
          go_roundw
          case rel => exact ⟨i + 1, .slice ro (rows.length + 1) rc, hlt, by go_num, HB9x.out.set 3 _, by rw [HST.out]; exact HO9.out.keptR (setCell_grown _ _ _ _) hNW, HG9.out.trans (setCell_grown _ _ _ _)⟩
          case measure => simp [intOf]; omega
        · obtain rfl : i = keys.length := by omega
          have HOF : Hid (Owns w10.heap.size 44 6 pinC wr (.slice vo ((keys.take keys.length).map fun k => (findP pins k).getD noPin).length vc) (keys.map fun k => (findP pins k).getD noPin)) := by
            have h := hown
            simp only [List.take_length] at h ⊢
            exact h
          clear hlt hbx hown hgr HOW
          generalize ((keys.take keys.length).map fun k => (findP pins k).getD noPin).length = nr at *
          have HSO : Hid (SliceOf 6 pinC wr (.slice vo nr vc) (outL a l).pins) := by rw [HROW.out]; exact HOF.out.slice pinC_len
          have HM3 : Calls Try.prog 17 #[.agg #[.string a.root.group, .string a.root.artifact, .string a.root.version, .slice vo nr vc]] wr _ := refLockMay_any (outL a l) (.slice vo nr vc) wr HSO.out (outL_sm HSA.out HSL.out)
          have HM3' := Lib.hid HM3
          clear HM3
          have c0 := HBX.out.cell 0 _ rfl
          have c1 := HBX.out.cell 1 _ rfl
          have c2 := HBX.out.cell 2 _ rfl
          have c3 := HBX.out.cell 3 _ rfl
          go_wp2_with fail
          refine HM3'.out.mono ?_
          rintro e w11 ⟨rfl, hb11⟩
          have HB11 := Lib.hid (HBO.out.trans ((HBN.out.trans (hb11.mono sn)).mono so))
          have s11 := HB11.out.size
          have HXR11 := Lib.hid (HXR.out.below (HBN.out.trans (hb11.mono sn)) HXR.out.lt)
          have HX11 := Lib.hid (HBX.out.below hb11 HBX.out.lt)
          have HO11 := Lib.hid (HOF.out.below hb11)
          have hN1 : w.heap.size + 1 < w10.heap.size := Nat.lt_trans HXR.out.lt hNW
          clear c0 c1 c2 c3 hb11 HM3'
          have c0 := HX11.out.cell 0 _ rfl
          have c1 := HX11.out.cell 1 _ rfl
          have c2 := HX11.out.cell 2 _ rfl
          have c3 := HX11.out.cell 3 _ rfl
          obtain ⟨mc, hmc⟩ : ∃ m, m = lockMay (outL a l) := ⟨_, rfl⟩
          have HMC := Lib.hid hmc
          rw [← hmc]
          clear hmc
          cases mc with
          | false =>
            have HE : Hid (applyR a l = none) := by show _ = _; unfold applyR; rw [← HMA.out, ← HMB.out, HFIT.out, ← HMC.out]; rfl
            go_wp2_with ((with_reducible show wpList _ _ _ (Oper.mk none (Op.store 26 (.tmp 4) (.tmp 108)) _ _ _ _ :: _) _ _); refine wpList_store_box rfl 26 (.tmp 4) (.tmp 108) rfl (w.heap.size + 1) [.string ⟨#[]⟩, .string ⟨#[]⟩, .string ⟨#[]⟩, .slice none 0 0] [.string ⟨#[]⟩, .string ⟨#[]⟩, .string ⟨#[]⟩, .slice none 0 0] rfl rfl HXR11.out rfl size_lock (by simp [Value.oneCell']) ?_; intro W9 v9 hg9; have z0 := v9.cell 0 _ rfl; have z1 := v9.cell 1 _ rfl; have z2 := v9.cell 2 _ rfl; have z3 := v9.cell 3 _ rfl; have HG9 := Lib.hid (HB11.out.trans ((below_grown hg9 (by have := HXR11.out.lt; omega)).mono (by omega))); clear hg9 v9)
            refine bodyPost_ret (v := .tuple #[.agg #[.string ⟨#[]⟩, .string ⟨#[]⟩, .string ⟨#[]⟩, .slice none 0 0], .bool false]) (by simp [results, Try.results15, go_sem, z0, z1, z2, z3]) rfl ?_
            rw [HE.out]
            exact ApplyOut.no HG9.out
          | true =>
            have HE : Hid (applyR a l = some (outL a l)) := by show _ = _; unfold applyR; rw [← HMA.out, ← HMB.out, HFIT.out, ← HMC.out]; rfl
            go_wp2_with ((with_reducible show wpList _ _ _ (Oper.mk none (Op.store 26 (.tmp 4) (.tmp 109)) _ _ _ _ :: _) _ _); refine wpList_store_box rfl 26 (.tmp 4) (.tmp 109) rfl (w.heap.size + 1) [.string ⟨#[]⟩, .string ⟨#[]⟩, .string ⟨#[]⟩, .slice none 0 0] [.string a.root.group, .string a.root.artifact, .string a.root.version, .slice vo nr vc] rfl rfl HXR11.out rfl size_lock (by simp [Value.oneCell']) ?_; intro W9 v9 hg9; have z0 := v9.cell 0 _ rfl; have z1 := v9.cell 1 _ rfl; have z2 := v9.cell 2 _ rfl; have z3 := v9.cell 3 _ rfl; have HG9 := Lib.hid (HB11.out.trans ((below_grown hg9 (by have := HXR11.out.lt; omega)).mono (by omega))); have HO9 := Lib.hid (HO11.out.keptR hg9 hN1); clear hg9 v9)
            refine bodyPost_ret (v := .tuple #[.agg #[.string a.root.group, .string a.root.artifact, .string a.root.version, .slice vo nr vc], .bool true]) (by simp [results, Try.results15, go_sem, z0, z1, z2, z3]) rfl ?_
            rw [HE.out]
            refine ⟨.slice vo nr vc, rfl, ?_, HG9.out⟩
            show SliceOf 6 pinC W9 _ (outL a l).pins
            rw [HROW.out]
            exact HO9.out.slice pinC_len

end Go.Proofs.Ytmcjpmogjmnfpaa
