/- The walks of the store's Versions and of meta.Of; the example of the Metas' statements; the conditions stand in the theorems. -/
import Derived.Test.YtecffghcpknmjaaDoorJM05
import Derived.Test.YtecffghcpknmjaaDoorJM07
import Derived.Test.YtecffghcpknmjaaDoorSB
import Derived.Deep.AppendLies
import Derived.Deep.RegionWith
namespace Go.Proofs.YtecffghcpknmjaaDoor
open Go Go.RowKit

/-- What Versions answers: the versions of an id in the stable order, in a row of its own. -/
def VersOut (l : List S) (w : World) (e : Ending) (w' : World) : Prop := ∃ v' M, e = .returned v' ∧ Owns w.heap.size 9 1 strC w' v' M ∧ Srt ltSV M ∧ SameE ltSV l M ∧ Below w.heap.size w w'
set_option maxRecDepth 100000 in
theorem versions_any (x : Id) (w : World) {F : Nat → Prop} {b : Nat} {es : List (SEnt × Nat)} {r a : Int} (h : StoreAt F w b es r a) (hl : (versOf es x).length ≤ 1000000) (hs : AllSmall (versOf es x)) :
    Calls Tryd.prog 28 #[ptr b, .agg #[.string x.group, .string x.artifact]] w (VersOut (versOf es x) w) := by
  obtain ⟨me, mv, L, cl, V, cv, h⟩ := h
  have hrow := (h.rowV_owns x).slice strC_lV
  have hlt := h.box.lt
  have HS := Lib.hid h
  have HR := Lib.hid hrow
  have HL := Lib.hid hl
  have HSM := Lib.hid hs
  clear h hrow hl hs
  generalize versOf es x = l at *
  unfold ptr
  go_enter Tryd.func28, Tryd.ntmps28
  go_upto_region 1 with fail
  refine wp_world ?_
  intro W hW
  have hx : Box W w.heap.size [.string x.group, .string x.artifact] := by rw [hW]; exact Box.new w [.string x.group, .string x.artifact] _ _ rfl
  have hb : Below w.heap.size w W := by rw [hW]; exact (Below.refl _ _).alloc (Nat.le_refl _) _
  clear hW
  have HB := Lib.hid hb
  have x0 := hx.cell 0 _ rfl
  have x1 := hx.cell 1 _ rfl
  have lx := hx.lt
  have b1 := (HS.out.box.below hb hlt).cell 1 _ rfl
  have lb := (HS.out.box.below hb hlt).lt
  have hm := HS.out.vers.below hb HS.out.vers.lt
  have hlk : ∀ z : Later W, (Instr.lookup 88 (.map (some mv)) (.agg #[.string x.group, .string x.artifact]) false).run Tryd.prog z.at_ = .ok (rowV V x) z.at_ := fun z => look_row x (hm.below z.below hm.lt)
  have HRW := Lib.hid (HR.out.below hb)
  clear hx hb hm hlt HR HS
  have hLC := @Later.cells W
  go_wp2_with fail
  refine region_later_tail 6 (by kernel_rfl) (by kernel_rfl) ?_
  simp only [List.take_succ_cons, List.take_zero, List.drop_succ_cons, List.drop_zero]
  repeat (go_big_quiet_step (fail))
  refine wpQuiet_nil ?_
  rintro _ ⟨nx, rfl⟩
  have HRN := Lib.hid (HRW.out.below nx.below)
  have HBN := Lib.hid (HB.out.trans (nx.below.mono HB.out.size))
  clear hlk hLC x0 x1 lx b1 lb HRW HB
  generalize nx.at_ = wn at *
  have HSO := Lib.hid (sort_any HRN.out HL.out HSM.out)
  generalize rowV V x = rv at *
  go_wp2_with fail
  refine HSO.out.mono ?_
  rintro e w2 ⟨v', M, rfl, h1, h2, h3, h4⟩
  have H1 := Lib.hid (h1.base_mono HBN.out.size)
  have H2 := Lib.hid h2
  have H3 := Lib.hid h3
  have H4 := Lib.hid (HBN.out.trans (h4.mono HBN.out.size))
  clear h1 h2 h3 h4
  go_wp2
  go_ret
  exact ⟨_, M, rfl, H1.out, H2.out, H3.out, H4.out⟩

theorem small_same {l M : List S} (h : SameE ltSV l M) (hs : AllSmall l) : AllSmall M := fun x hx => hs x (h.symm.mem ltSV_weak hx)
theorem len_same {l M : List S} (h : SameE ltSV l M) : M.length = l.length := (h.perm ltSV_weak).length_eq.symm
/-- What meta.Of answers. -/
def MetaOut (d : Id) (l : List S) (w : World) (e : Ending) (w' : World) : Prop := ∃ v' M, Owns w.heap.size 9 1 strC w' v' M ∧ Srt ltSV M ∧ SameE ltSV l M ∧ Below w.heap.size w w' ∧
  e = .returned (.tuple (if l = [] then #[.agg metaZ.toArray, .bool false] else #[metaAg ⟨d, M, lastV M, relV M⟩ v', .bool true]))
set_option maxRecDepth 100000 in
set_option maxHeartbeats 4000000 in
theorem metaOfS_any (x : Id) (w : World) {F : Nat → Prop} {b : Nat} {es : List (SEnt × Nat)} {r a : Int} (h : StoreAt F w b es r a) (hl : (versOf es x).length ≤ 1000000) (hs : AllSmall (versOf es x)) :
    Calls Tryd.prog 8 #[ptr b, .agg #[.string x.group, .string x.artifact]] w (MetaOut x (versOf es x) w) := by
  have HV : Hid (∀ W, Below w.heap.size w W → Calls Tryd.prog 28 #[ptr b, .agg #[.string x.group, .string x.artifact]] W (VersOut (versOf es x) W)) := fun W hb => versions_any x W (h.below hb) hl hs
  have HL := Lib.hid hl
  have HSM := Lib.hid hs
  clear h hl hs
  generalize versOf es x = l at *
  unfold ptr at *
  go_enter Tryd.func8, Tryd.ntmps8
  go_upto_region 1 with fail
  refine wp_world ?_
  intro W hW
  have x1 : Box W w.heap.size [.string x.group, .string x.artifact] := by rw [hW]; exact (Box.new w [.string x.group, .string x.artifact] _ _ rfl).alloc _
  have y1 : Box W (w.heap.size + 1) metaZ := by rw [hW]; exact Box.new _ metaZ _ _ (by simp)
  have hb : Below w.heap.size w W := by rw [hW]; exact ((Below.refl _ w).alloc (Nat.le_refl _) _).alloc (by simp) _
  clear hW
  have HX := Lib.hid x1
  have HY := Lib.hid y1
  have HB := Lib.hid hb
  have x0 := x1.cell 0 _ rfl
  have x1' := x1.cell 1 _ rfl
  have xl := x1.lt
  clear x1 y1 hb
  go_wp2_with fail
  refine (HV.out W HB.out).mono ?_
  rintro e w1 ⟨v', M, rfl, h1, h2, h3, h4⟩
  have HO1 := Lib.hid h1
  have HWS := Lib.hid HY.out.lt
  have HWB := Lib.hid HB.out.size
  have HSL1 := Lib.hid (h1.slice strC_lV)
  have H2 := Lib.hid h2
  have H3 := Lib.hid h3
  have HX1 := Lib.hid (HX.out.below h4 HX.out.lt)
  have HY1 := Lib.hid (HY.out.below h4 HY.out.lt)
  have HB1 := Lib.hid (HB.out.trans (h4.mono HB.out.size))
  obtain ⟨ao, c, rfl⟩ := h1.shape
  have HLM := Lib.hid (len_same h3)
  have HSS := Lib.hid (small_same h3 HSM.out)
  clear h1 h2 h3 h4 x0 x1' xl HX HY HB HV
  by_cases h0 : l = []
  · have hm0 : M = [] := List.eq_nil_of_length_eq_zero (by have := HLM.out; rw [h0] at this; exact this)
    subst h0 hm0
    go_wp2_with ((with_reducible show wpList _ _ _ (Oper.mk none (Op.store 31 (.tmp 4) (.tmp 13)) _ _ _ _ :: _) _ _); refine wpList_store_box rfl 31 (.tmp 4) (.tmp 13) rfl (w.heap.size + 1) _ metaZ rfl rfl HY1.out rfl (by kernel_rfl) (by simp [metaZ, Value.oneCell']) ?_; intro W7 v7 hg7; have HV7 := Lib.hid v7; have HB7 := Lib.hid (gr_belowV HB1.out hg7 (by omega) (Nat.le_refl _)); have HO7 := Lib.hid ((HO1.out.keptR hg7 HWS.out).base_mono HWB.out); clear v7 hg7)
    have z0 := HV7.out.cell 0 _ rfl
    have z1 := HV7.out.cell 1 _ rfl
    have z2 := HV7.out.cell 2 _ rfl
    have z3 := HV7.out.cell 3 _ rfl
    have z4 := HV7.out.cell 4 _ rfl
    have zl := HV7.out.lt
    clear HY1 HX1 HB1
    go_wp2
    refine bodyPost_ret (v := .tuple #[.agg metaZ.toArray, .bool false]) (by simp [results, Tryd.results8, go_sem, z0, z1, z2, z3, z4, metaZ]) rfl ?_
    exact ⟨_, [], HO7.out, H2.out, H3.out, HB7.out, by rw [if_pos rfl]⟩
  · have hne : M ≠ [] := fun e => h0 (List.eq_nil_of_length_eq_zero (by rw [← show M.length = _ from HLM.out, e]; rfl))
    have hm1 : 1 ≤ M.length := by have := List.length_pos_iff.2 hne; omega
    have e0 : ((M.length : Int) == 0) = false := by rw [beq_eq_false_iff_ne]; omega
    have e0n : (M.length == 0) = false := by rw [beq_eq_false_iff_ne]; omega
    have HOF : Hid (Calls Tryd.prog 29 #[.agg #[.string x.group, .string x.artifact], .slice ao M.length c] w1 fun e w' => e = .returned (.agg #[.string x.group, .string x.artifact, .slice ao M.length c, .string (lastV M), .string (relV M)]) ∧ Below w1.heap.size w1 w') := metaOf_any x M _ w1 HSL1.out (by have := HLM.out; have := HL.out; omega) HSS.out hne
    have HR : Hid (MetaOut x l w = fun e w' => ∃ v' M, Owns w.heap.size 9 1 strC w' v' M ∧ Srt ltSV M ∧ SameE ltSV l M ∧ Below w.heap.size w w' ∧ e = .returned (.tuple #[metaAg ⟨x, M, lastV M, relV M⟩ v', .bool true])) := by show _ = _; unfold MetaOut; simp only [if_neg h0]
    obtain ⟨la, hla⟩ : ∃ y, lastV M = y := ⟨_, rfl⟩
    obtain ⟨re, hre⟩ : ∃ y, relV M = y := ⟨_, rfl⟩
    rw [hla, hre] at HOF
    have HLA := Lib.hid hla
    have HRE := Lib.hid hre
    have x0 := HX1.out.cell 0 _ rfl
    have x1' := HX1.out.cell 1 _ rfl
    have xl := HX1.out.lt
    clear h0 hne hla hre HSS HSL1 hm1
    go_wp2_with fail
    refine HOF.out.mono ?_
    rintro e w2 ⟨rfl, hb2⟩
    have HY2 := Lib.hid (HY1.out.below hb2 HY1.out.lt)
    have HB2 := Lib.hid (HB1.out.trans (hb2.mono HB1.out.size))
    have HO2 := Lib.hid (HO1.out.below hb2)
    clear hb2 x0 x1' xl HX1 HY1 HB1 HO1 HOF
    go_wp2_with ((with_reducible show wpList _ _ _ (Oper.mk none (Op.store 31 (.tmp 4) (.tmp 16)) _ _ _ _ :: _) _ _); refine wpList_store_box rfl 31 (.tmp 4) (.tmp 16) rfl (w.heap.size + 1) _ [.string x.group, .string x.artifact, .slice ao M.length c, .string la, .string re] rfl rfl HY2.out rfl (by kernel_rfl) (by simp [Value.oneCell']) ?_; intro W7 v7 hg7; have HV7 := Lib.hid v7; have HB7 := Lib.hid (gr_belowV HB2.out hg7 (by omega) (Nat.le_refl _)); have HO7 := Lib.hid ((HO2.out.keptR hg7 HWS.out).base_mono HWB.out); clear v7 hg7)
    have z0 := HV7.out.cell 0 _ rfl
    have z1 := HV7.out.cell 1 _ rfl
    have z2 := HV7.out.cell 2 _ rfl
    have z3 := HV7.out.cell 3 _ rfl
    have z4 := HV7.out.cell 4 _ rfl
    have zl := HV7.out.lt
    clear HY2 HB2 HO2
    go_wp2
    refine bodyPost_ret (v := .tuple #[.agg #[.string x.group, .string x.artifact, .slice ao M.length c, .string la, .string re], .bool true]) (by simp [results, Tryd.results8, go_sem, z0, z1, z2, z3, z4]) rfl ?_
    rw [HR.out]
    exact ⟨_, M, HO7.out, H2.out, H3.out, HB7.out, by rw [HLA.out, HRE.out]; rfl⟩

end Go.Proofs.YtecffghcpknmjaaDoor

/- The walk of meta.Merge; the conditions stand in the theorem. -/
namespace Go.Proofs.YtecffghcpknmjaaDoor
open Go Go.RowKit

def restM (l m : List S) : List S := m.filter fun v => !memB l v
def mergeB (a b : MetaD) : Bool := mayM a && mayM b && (decide (a.id.group = b.id.group) && decide (a.id.artifact = b.id.artifact))
/-- What meta.Merge answers. -/
def MergeOut (a b : MetaD) (w : World) (e : Ending) (w' : World) : Prop := ∃ v' M, Owns w.heap.size 9 1 strC w' v' M ∧ (mergeB a b = true → Srt ltSV M ∧ SameE ltSV (a.vers ++ restM a.vers b.vers) M) ∧ (mergeB a b = false → M = []) ∧ Below w.heap.size w w' ∧
  e = .returned (.tuple (if mergeB a b = true then #[metaAg ⟨a.id, M, lastV M, relV M⟩ v', .bool true] else #[.agg metaZ.toArray, .bool false]))
theorem restM_take {l m : List S} {k : Nat} (h : k < m.length) : restM l (m.take (k + 1)) = restM l (m.take k) ++ (if memB l m[k] = true then [] else [m[k]]) := by
  unfold restM
  rw [take_snoc h, List.filter_append]
  congr 1
  cases hq : memB l m[k] <;> simp [hq]
theorem restM_len (l m : List S) : (restM l m).length ≤ m.length := List.length_filter_le _ _
theorem restM_small {l m : List S} (h : AllSmall m) : AllSmall (restM l m) := fun x hx => h x ((List.mem_filter.1 hx).1)
/-- The machine in the midst of meta.Merge: the three variables, and the row that grows. -/
structure MergeAt (w wr : World) (B : Nat) (ca cb cz : List Value) (v : Value) (l : List S) : Prop where
  base : w.heap.size + 3 ≤ B
  size : B ≤ wr.heap.size
  below : Below w.heap.size w wr
  x : Box wr w.heap.size ca
  y : Box wr (w.heap.size + 1) cb
  z : Box wr (w.heap.size + 2) cz
  own : Owns B 9 1 strC wr v l
theorem MergeAt.later {w wr W : World} {B : Nat} {ca cb cz : List Value} {v : Value} {l : List S} (h : MergeAt w wr B ca cb cz v l) (hb : Below wr.heap.size wr W) : MergeAt w W B ca cb cz v l :=
  have hs := h.size
  have hB := h.base
  ⟨h.base, Nat.le_trans h.size hb.size, h.below.trans (hb.mono (by omega)), h.x.below hb (by omega), h.y.below hb (by omega), h.z.below hb (by omega), h.own.below hb⟩
theorem MergeAt.put {w wr W : World} {B : Nat} {ca cb cz : List Value} {v v' : Value} {l l' : List S} (h : MergeAt w wr B ca cb cz v l) (hO : Owns B 9 1 strC W v' l') (hg : wr.grownBy W v.ownBlock) : MergeAt w W B ca cb cz v' l' :=
  have hs := h.size
  have hB := h.base
  have hl := fun j hj => (h.own.lt j hj).1
  ⟨h.base, Nat.le_trans h.size hg.size, h.below.grown hg (by omega) (fun j hj => by have := hl j hj; omega), h.x.grown hg (fun e => by have := hl _ e.symm; omega), h.y.grown hg (fun e => by have := hl _ e.symm; omega), h.z.grown hg (fun e => by have := hl _ e.symm; omega), hO⟩
theorem strC_onesV (l : List S) : ∀ y ∈ l, ∀ u ∈ strC y, u.oneCell' = true := by
  intro y _ u hu
  simp [strC] at hu
  subst hu
  rfl
theorem step_store_boxV {P : Program} {ops : Array Oper} {E : Prop} {o : Oper} {a : Act} {w : World} {K : Act → World → Prop} {Q : Exit → Act → World → Prop} (hgd : o.guard = none) (ty : TypeId) (x y : Operand) (ho : o.op = .store ty x y)
    (b : Nat) (old cs : List Value) (hx : a.eval x = .pointer (some ⟨b, 0, none⟩)) (hy : a.eval y = .agg cs.toArray) (hb : Box w b old) (hl : old.length = cs.length)
    (hi : (P.info? ty).map (·.size) = some cs.length) (h1 : ∀ v ∈ cs, v.oneCell' = true) (h : ∀ W', Box W' b cs → w.grownBy W' (some b) → K (a.put o.dst undef) W') :
    if Region.wanted o (yielded ops a.tmps) = true then Oper.wp P o a w K Q else E := by
  have hw : Region.wanted o (yielded ops a.tmps) = true := by simp [Region.wanted, hgd]
  rw [if_pos hw]
  exact wp_store_box ty x y ho b old cs hx hy hb hl hi h1 h
theorem box5 {w : World} {b : Nat} {p0 p1 p2 p3 p4 v0 v1 v2 v3 v4 : Value} (h : Box w b [p0, p1, p2, p3, p4]) : Box (((((w.setCell ⟨b, 0, none⟩ v0).setCell ⟨b, 1, none⟩ v1).setCell ⟨b, 2, none⟩ v2).setCell ⟨b, 3, none⟩ v3).setCell ⟨b, 4, none⟩ v4) b [v0, v1, v2, v3, v4] ∧ w.grownBy (((((w.setCell ⟨b, 0, none⟩ v0).setCell ⟨b, 1, none⟩ v1).setCell ⟨b, 2, none⟩ v2).setCell ⟨b, 3, none⟩ v3).setCell ⟨b, 4, none⟩ v4) (some b) :=
  ⟨((((h.set 0 v0).set 1 v1).set 2 v2).set 3 v3).set 4 v4, ((((setCell_grown _ _ _ _).trans (setCell_grown _ _ _ _)).trans (setCell_grown _ _ _ _)).trans (setCell_grown _ _ _ _)).trans (setCell_grown _ _ _ _)⟩
theorem belowDrew1 (w : World) : Below w.heap.size w w.drew := ⟨rfl, rfl, rfl, Nat.le_refl _, fun _ _ => rfl⟩
attribute [local go_sem ↓] neq_idV in
set_option maxRecDepth 100000 in
set_option maxHeartbeats 8000000 in
theorem metaMerge_any (a b : MetaD) (va vb : Value) (w : World) (ha : SliceOf 1 strC w va a.vers) (hb : SliceOf 1 strC w vb b.vers) (sa : MetaSm a) (sb : MetaSm b) (la : a.vers.length ≤ 400000) (lb : b.vers.length ≤ 400000) :
    Calls Tryd.prog 15 #[metaAg a va, metaAg b vb] w (MergeOut a b w) := by
  obtain ⟨ao, ac, rfl⟩ := ha.shape
  obtain ⟨bo, bc, rfl⟩ := hb.shape
  have HA0 := Lib.hid ha
  have HB0 := Lib.hid hb
  have HMA : Hid (∀ W, Below w.heap.size w W → Calls Tryd.prog 13 #[metaAg a (.slice ao a.vers.length ac)] W fun e w' => e = .returned (.bool (mayM a)) ∧ Below W.heap.size W w') := fun W h => metaMay_any a _ W (ha.below h) sa
  have HMB : Hid (∀ W, Below w.heap.size w W → Calls Tryd.prog 13 #[metaAg b (.slice bo b.vers.length bc)] W fun e w' => e = .returned (.bool (mayM b)) ∧ Below W.heap.size W w') := fun W h => metaMay_any b _ W (hb.below h) sb
  have HCL : Hid (∀ W, Below w.heap.size w W → Calls Tryd.prog 36 #[.slice ao a.vers.length ac] W fun e w' => ∃ v', e = .returned v' ∧ Owns W.heap.size 9 1 strC w' v' a.vers ∧ Below W.heap.size W w') := fun W h => clone_any (ha.below h) sa.n
  have HMG : Hid (mergeB a b = (mayM a && mayM b && (decide (a.id.group = b.id.group) && decide (a.id.artifact = b.id.artifact)))) := rfl
  have HNE : Hid (mayM a = true → a.vers ≠ []) := fun h e => by unfold mayM at h; rw [e] at h; simp at h
  have HSA := Lib.hid sa.v
  have HSB := Lib.hid sb.v
  have HLA := Lib.hid la
  have HLB := Lib.hid lb
  have containsA : ∀ (W : World) (x : S), SliceOf 1 strC W (.slice ao a.vers.length ac) a.vers → a.vers ≠ [] → Calls Tryd.prog 33 #[.slice ao a.vers.length ac, .string x] W fun e w' => e = .returned (.bool (memB a.vers x)) ∧ W = w' := fun W x h hne => by
    obtain ⟨b0, o0, rfl, -, -⟩ := h.at1 (k := 0) (List.length_pos_iff.2 hne)
    have := containsV_any x h (Nat.le_refl _) sa.n ac
    rwa [List.take_length] at this
  have HCON := Lib.hid containsA
  clear containsA ha hb sa sb la lb
  obtain ⟨qa, hqa⟩ : ∃ q, mayM a = q := ⟨_, rfl⟩
  obtain ⟨qb, hqb⟩ : ∃ q, mayM b = q := ⟨_, rfl⟩
  rw [hqa] at HMA HMG HNE
  rw [hqb] at HMB HMG
  clear hqa hqb
  unfold metaAg metaC at HMA HMB ⊢
  obtain ⟨⟨ag, aa⟩, al, at', ar⟩ := a
  obtain ⟨⟨bg, ba⟩, bl, bt, br⟩ := b
  simp only at HMA HMB HCL HMG HNE HSA HSB HLA HLB HCON HA0 HB0 ⊢
  go_enter Tryd.func15, Tryd.ntmps15
  go_upto_region 1 with fail
  refine wp_world ?_
  intro W hW
  have x1 : Box W w.heap.size [.string ag, .string aa, .slice ao al.length ac, .string at', .string ar] := by rw [hW]; exact ((Box.new w [.string ag, .string aa, .slice ao al.length ac, .string at', .string ar] _ _ rfl).alloc _).alloc _
  have y1 : Box W (w.heap.size + 1) [.string bg, .string ba, .slice bo bl.length bc, .string bt, .string br] := by rw [hW]; exact (Box.new _ [.string bg, .string ba, .slice bo bl.length bc, .string bt, .string br] _ _ (by simp)).alloc _
  have z1 : Box W (w.heap.size + 2) metaZ := by rw [hW]; exact Box.new _ metaZ _ _ (by simp)
  have hb : Below w.heap.size w W := by rw [hW]; exact (((Below.refl _ w).alloc (Nat.le_refl _) _).alloc (by simp) _).alloc (by simp; omega) _
  clear hW
  have HX := Lib.hid x1
  have HY := Lib.hid y1
  have HZ := Lib.hid z1
  have HB := Lib.hid hb
  clear x1 y1 z1 hb
  have x0 := HX.out.cell 0 _ rfl
  have x1 := HX.out.cell 1 _ rfl
  have x2 := HX.out.cell 2 _ rfl
  have x3 := HX.out.cell 3 _ rfl
  have x4 := HX.out.cell 4 _ rfl
  have xl := HX.out.lt
  go_wp2_with fail
  refine (HMA.out W HB.out).mono ?_
  rintro e w1 ⟨rfl, hb1⟩
  have HX' := Lib.hid (HX.out.below hb1 HX.out.lt)
  have HY' := Lib.hid (HY.out.below hb1 HY.out.lt)
  have HZ' := Lib.hid (HZ.out.below hb1 HZ.out.lt)
  have HB' := Lib.hid (HB.out.trans (hb1.mono HB.out.size))
  clear hb1 HX HY HZ HB x0 x1 x2 x3 x4 xl
  have HX := HX'
  have HY := HY'
  have HZ := HZ'
  have HB := HB'
  clear HX' HY' HZ' HB'
  cases qa with
  | false =>
    have HQ : Hid (mergeB (⟨⟨ag, aa⟩, al, at', ar⟩ : MetaD) (⟨⟨bg, ba⟩, bl, bt, br⟩ : MetaD) = false) := by show _ = _; rw [HMG.out]; rfl
    go_wp2_with ((with_reducible show wpList _ _ _ (Oper.mk none (Op.store 31 (.tmp 4) (.tmp 24)) _ _ _ _ :: _) _ _); refine wpList_store_box rfl 31 (.tmp 4) (.tmp 24) rfl (w.heap.size + 2) _ metaZ rfl rfl HZ.out rfl (by kernel_rfl) (by simp [metaZ, Value.oneCell']) ?_; intro W7 v7 hg7; have HV7 := Lib.hid v7; have HB7 := Lib.hid (gr_belowV HB.out hg7 (by omega) (Nat.le_refl _)); clear v7 hg7)
    have z0 := HV7.out.cell 0 _ rfl
    have z1 := HV7.out.cell 1 _ rfl
    have z2 := HV7.out.cell 2 _ rfl
    have z3 := HV7.out.cell 3 _ rfl
    have z4 := HV7.out.cell 4 _ rfl
    have zl := HV7.out.lt
    go_wp2
    refine bodyPost_ret (v := .tuple #[.agg metaZ.toArray, .bool false]) (by simp [results, Tryd.results15, go_sem, z0, z1, z2, z3, z4, metaZ]) rfl ?_
    unfold MergeOut
    exact ⟨.slice none 0 0, [], Owns.nil, fun h => absurd (HQ.out.symm.trans h) (by decide), fun _ => rfl, HB7.out, by rw [if_neg (by rw [HQ.out]; decide)]⟩
  | true =>
    have y0 := HY.out.cell 0 _ rfl
    have y1 := HY.out.cell 1 _ rfl
    have y2 := HY.out.cell 2 _ rfl
    have y3 := HY.out.cell 3 _ rfl
    have y4 := HY.out.cell 4 _ rfl
    have yl := HY.out.lt
    go_wp2_with fail
    refine (HMB.out w1 HB.out).mono ?_
    rintro e w2 ⟨rfl, hb1⟩
    have HX' := Lib.hid (HX.out.below hb1 HX.out.lt)
    have HY' := Lib.hid (HY.out.below hb1 HY.out.lt)
    have HZ' := Lib.hid (HZ.out.below hb1 HZ.out.lt)
    have HB' := Lib.hid (HB.out.trans (hb1.mono HB.out.size))
    clear hb1 HX HY HZ HB y0 y1 y2 y3 y4 yl
    have HX := HX'
    have HY := HY'
    have HZ := HZ'
    have HB := HB'
    clear HX' HY' HZ' HB'
    cases qb with
    | false =>
      have HQ : Hid (mergeB (⟨⟨ag, aa⟩, al, at', ar⟩ : MetaD) (⟨⟨bg, ba⟩, bl, bt, br⟩ : MetaD) = false) := by show _ = _; rw [HMG.out]; rfl
      go_wp2_with ((with_reducible show wpList _ _ _ (Oper.mk none (Op.store 31 (.tmp 4) (.tmp 24)) _ _ _ _ :: _) _ _); refine wpList_store_box rfl 31 (.tmp 4) (.tmp 24) rfl (w.heap.size + 2) _ metaZ rfl rfl HZ.out rfl (by kernel_rfl) (by simp [metaZ, Value.oneCell']) ?_; intro W7 v7 hg7; have HV7 := Lib.hid v7; have HB7 := Lib.hid (gr_belowV HB.out hg7 (by omega) (Nat.le_refl _)); clear v7 hg7)
      have z0 := HV7.out.cell 0 _ rfl
      have z1 := HV7.out.cell 1 _ rfl
      have z2 := HV7.out.cell 2 _ rfl
      have z3 := HV7.out.cell 3 _ rfl
      have z4 := HV7.out.cell 4 _ rfl
      have zl := HV7.out.lt
      go_wp2
      refine bodyPost_ret (v := .tuple #[.agg metaZ.toArray, .bool false]) (by simp [results, Tryd.results15, go_sem, z0, z1, z2, z3, z4, metaZ]) rfl ?_
      unfold MergeOut
      exact ⟨.slice none 0 0, [], Owns.nil, fun h => absurd (HQ.out.symm.trans h) (by decide), fun _ => rfl, HB7.out, by rw [if_neg (by rw [HQ.out]; decide)]⟩
    | true =>
      have x0 := HX.out.cell 0 _ rfl
      have x1 := HX.out.cell 1 _ rfl
      have x2 := HX.out.cell 2 _ rfl
      have x3 := HX.out.cell 3 _ rfl
      have x4 := HX.out.cell 4 _ rfl
      have xl := HX.out.lt
      have y0 := HY.out.cell 0 _ rfl
      have y1 := HY.out.cell 1 _ rfl
      have y2 := HY.out.cell 2 _ rfl
      have y3 := HY.out.cell 3 _ rfl
      have y4 := HY.out.cell 4 _ rfl
      have yl := HY.out.lt
      obtain ⟨qi, hqi⟩ : ∃ q, (decide (ag = bg) && decide (aa = ba)) = q := ⟨_, rfl⟩
      rw [hqi] at HMG
      have hneq := neq_idV ag aa bg ba w2
      rw [hqi] at hneq
      cases qi with
      | false =>
        have HQ : Hid (mergeB (⟨⟨ag, aa⟩, al, at', ar⟩ : MetaD) (⟨⟨bg, ba⟩, bl, bt, br⟩ : MetaD) = false) := by show _ = _; rw [HMG.out]; rfl
        go_wp2_with ((with_reducible show wpList _ _ _ (Oper.mk none (Op.store 31 (.tmp 4) (.tmp 24)) _ _ _ _ :: _) _ _); refine wpList_store_box rfl 31 (.tmp 4) (.tmp 24) rfl (w.heap.size + 2) _ metaZ rfl rfl HZ.out rfl (by kernel_rfl) (by simp [metaZ, Value.oneCell']) ?_; intro W7 v7 hg7; have HV7 := Lib.hid v7; have HB7 := Lib.hid (gr_belowV HB.out hg7 (by omega) (Nat.le_refl _)); clear v7 hg7)
        have z0 := HV7.out.cell 0 _ rfl
        have z1 := HV7.out.cell 1 _ rfl
        have z2 := HV7.out.cell 2 _ rfl
        have z3 := HV7.out.cell 3 _ rfl
        have z4 := HV7.out.cell 4 _ rfl
        have zl := HV7.out.lt
        go_wp2
        refine bodyPost_ret (v := .tuple #[.agg metaZ.toArray, .bool false]) (by simp [results, Tryd.results15, go_sem, z0, z1, z2, z3, z4, metaZ]) rfl ?_
        unfold MergeOut
        exact ⟨.slice none 0 0, [], Owns.nil, fun h => absurd (HQ.out.symm.trans h) (by decide), fun _ => rfl, HB7.out, by rw [if_neg (by rw [HQ.out]; decide)]⟩
      | true =>
        have HQ : Hid (mergeB (⟨⟨ag, aa⟩, al, at', ar⟩ : MetaD) (⟨⟨bg, ba⟩, bl, bt, br⟩ : MetaD) = true) := by show _ = _; rw [HMG.out]; rfl
        go_wp2_with fail
        refine (HCL.out w2 HB.out).mono ?_
        rintro e w3 ⟨v3, rfl, ho3, hb3⟩
        obtain ⟨lo3, lc3, rfl⟩ := ho3.shape
        obtain ⟨B, hB⟩ : ∃ B, w2.heap.size = B := ⟨_, rfl⟩
        rw [hB] at ho3
        have hz := HZ.out.lt
        have HM0 : Hid (MergeAt w w3 B [.string ag, .string aa, .slice ao al.length ac, .string at', .string ar] [.string bg, .string ba, .slice bo bl.length bc, .string bt, .string br] metaZ (.slice lo3 al.length lc3) al) := ⟨by omega, by have := hb3.size; omega, HB.out.trans (hb3.mono HB.out.size), HX.out.below hb3 HX.out.lt, HY.out.below hb3 HY.out.lt, HZ.out.below hb3 HZ.out.lt, ho3⟩
        clear ho3 hb3 hB hz hneq hqi HX HY HZ HB x0 x1 x2 x3 x4 xl y0 y1 y2 y3 y4 yl HMA HMB HCL
        have y2 := HM0.out.y.cell 2 _ rfl
        have yl := HM0.out.y.lt
        go_upto_region 5 with fail
        clear y2 yl
        go_loopw [6, 31] (fun l i wr => ∃ (k ll : Nat) (lo : Option Addr) (lc : Nat), l = .slice lo ll lc ∧ i = .int .i64 k ∧ k ≤ bl.length ∧ Hid (MergeAt w wr B [.string ag, .string aa, .slice ao al.length ac, .string at', .string ar] [.string bg, .string ba, .slice bo bl.length bc, .string bt, .string br] metaZ (.slice lo ll lc) (al ++ restM al (bl.take k)))) (fun _ i _ => bl.length - (intOf i).toNat)
        case atStart => exact ⟨0, al.length, lo3, lc3, rfl, rfl, Nat.zero_le _, by rw [show al ++ restM al (bl.take 0) = al by simp [restM]]; exact HM0⟩
        case round =>
          clear HM0
          obtain ⟨k, ll, lo, lc, rfl, rfl, hk, HD⟩ := hrel
          by_cases hlt : k < bl.length
          · have HSBW := Lib.hid (HB0.out.below HD.out.below)
            have HSAW := Lib.hid (HA0.out.below HD.out.below)
            obtain ⟨bb, oo, hao, hbl, hc⟩ := HSBW.out.at1 hlt
            cases hao
            have d1 : (k : Int) < (bl.length : Int) := by omega
            have wk : IntKind.i64.wrap ((k : Int) + 1) = (k : Int) + 1 := IntWalk.i64_in _ (by have := HLB.out; omega)
            have HT := Lib.hid (restM_take (l := al) hlt)
            have HCO := Lib.hid (HCON.out wr bl[k] HSAW.out (HNE.out (by first | trivial | rfl)))
            have HKL : Hid (k + 1 ≤ bl.length) := hlt
            generalize bl[k] = xv at *
            obtain ⟨q, hq⟩ : ∃ q, memB al xv = q := ⟨_, rfl⟩
            rw [hq] at HCO HT
            clear hq
            have x2 := HD.out.x.cell 2 _ rfl
            have xl := HD.out.x.lt
            clear HSBW HSAW
            go_wp2_with fail
            refine HCO.out.mono ?_
            rintro e w2 ⟨rfl, rfl⟩
            cases q with
            | true =>
              go_wp2
              go_roundw
              case rel => exact ⟨k + 1, ll, lo, lc, rfl, by first | rfl | go_num, hlt, by rw [show restM al (bl.take (k + 1)) = restM al (bl.take k) by rw [HT.out]; simp]; exact HD⟩
              case measure => simp [intOf]; omega
            | false =>
              have HN : Hid (SliceOf 1 strC (wr.alloc (.cells #[.string xv] 9)) (.slice (some ⟨wr.heap.size, 0, none⟩) 1 1) [xv]) := by
                show SliceOf _ _ _ _ _
                simpa [strC] using sliceLit strC_lV wr [xv] 9 wr.heap.size 1 rfl rfl (by simp [maxLen])
              have HLN : Hid ((al ++ restM al (bl.take k)).length ≤ 800000) := by
                show _ ≤ _
                have h1 := restM_len al (bl.take k)
                have h2 := HLA.out
                have h3 := HLB.out
                rw [List.length_take] at h1
                rw [List.length_append]; omega
              clear hk hlt hc hbl x2 xl
              go_wp2_with (at_builtin; go_loud (refine wpList_append_slice _ rfl _ _ 29 rfl B 9 Tryd.underlying29 info_str rfl (by decide) strC_lV (.slice lo ll lc) (al ++ restM al (bl.take k)) rfl (HD.out.own.alloc _) _ [xv] rfl HN.out (strC_onesV _) (by have := HLN.out; simp only [List.length_singleton]; omega) (by decide) (by have := HD.out.size; simp; omega) ?_); intro v9 w9 hown hgrow hloc; obtain ⟨lo9, lc9, hv9⟩ := hown.shape; subst hv9)
              have HD9 := Lib.hid ((HD.out.later ((Below.refl _ wr).alloc (Nat.le_refl _) _)).put hown hgrow)
              clear hown hgrow hloc
              go_roundw
              case rel => exact ⟨k + 1, _, lo9, lc9, rfl, by first | rfl | go_num, HKL.out, by rw [show restM al (bl.take (k + 1)) = restM al (bl.take k) ++ [xv] by rw [HT.out]; simp]; rw [← List.append_assoc]; rw [show al.length + ((restM al (bl.take k)).length + 1) = (al ++ restM al (bl.take k) ++ [xv]).length by simp]; exact HD9⟩
              case measure => simp [intOf]; have := HKL.out; omega
          · obtain rfl : k = bl.length := by omega
            rw [List.take_length] at HD
            have d1 : ¬ (bl.length : Int) < (bl.length : Int) := by omega
            go_upto_region 10 with fail
            have HDL := Lib.hid HD.out.own.lt
            have HSO : Hid (∀ W, Below wr.heap.size wr W → Calls Tryd.prog 37 #[.slice lo ll lc] W fun e w' => ∃ v' M, e = .returned v' ∧ Owns W.heap.size 9 1 strC w' v' M ∧ Srt ltSV M ∧ SameE ltSV (al ++ restM al bl) M ∧ Below W.heap.size W w') := fun W h => sort_any ((HD.out.own.slice strC_lV).below h) (by rw [List.length_append]; have := restM_len al bl; have := HLA.out; have := HLB.out; omega) (fun x hx => by
              rcases List.mem_append.1 hx with h | h
              · exact HSA.out x h
              · exact restM_small HSB.out x h)
            have HOFF : Hid (∀ (M : List S) (W : World) (v : Value), SliceOf 1 strC W v M → SameE ltSV (al ++ restM al bl) M → Calls Tryd.prog 29 #[.agg #[.string ag, .string aa], v] W fun e w' => e = .returned (.agg #[.string ag, .string aa, v, .string (lastV M), .string (relV M)]) ∧ Below W.heap.size W w') := fun M W v h1 h2 => metaOf_any ⟨ag, aa⟩ M v W h1 (by rw [len_same h2, List.length_append]; have := restM_len al bl; have := HLA.out; have := HLB.out; omega) (small_same h2 (fun x hx => by
              rcases List.mem_append.1 hx with h | h
              · exact HSA.out x h
              · exact restM_small HSB.out x h)) (fun e => by have h3 := len_same h2; rw [e, List.length_append] at h3; exact HNE.out (by first | trivial | rfl) (List.eq_nil_of_length_eq_zero (by have h4 : ([] : List S).length = 0 := rfl; rw [h4] at h3; omega)))
            have x0 := HD.out.x.cell 0 _ rfl
            have x1 := HD.out.x.cell 1 _ rfl
            have xl := HD.out.x.lt
            clear HDL
            go_region_law (first
              | (go_simp; go_at_call 37; go_loud (refine (HSO.out wr.drew (belowDrew1 wr)).mono ?_; rintro e ws ⟨v', M, rfl, h1, h2, h3, h4⟩; have HM1 := Lib.hid h1; have HM2 := Lib.hid h2; have HM3 := Lib.hid h3; have HM4 := Lib.hid (HD.out.later (W := ws) ⟨h4.os, h4.tape, h4.output, h4.size, h4.block⟩); obtain ⟨so, sc, rfl⟩ := h1.shape; have HMS := Lib.hid (h1.slice strC_lV); have hs0 := HM4.out.x.cell 0 _ rfl; have hs1 := HM4.out.x.cell 1 _ rfl; have hs2 := HM4.out.x.lt; clear h1 h2 h3 h4))
              | (go_simp; go_at_call 29; go_loud (refine (HOFF.out M _ _ HMS.out HM3.out).mono ?_; rintro e wo ⟨rfl, hbo⟩; have HO4 := Lib.hid (HM4.out.later hbo); have HO1 := Lib.hid (HM1.out.below hbo); have HWS : Hid (w.heap.size + 2 < wr.heap.size) := HD.out.z.lt; have c0 : wo.cell? ⟨w.heap.size + 1 + 1, 0, none⟩ = _ := HO4.out.z.cell 0 _ rfl; have c1 : wo.cell? ⟨w.heap.size + 1 + 1, 1, none⟩ = _ := HO4.out.z.cell 1 _ rfl; have c2 : wo.cell? ⟨w.heap.size + 1 + 1, 2, none⟩ = _ := HO4.out.z.cell 2 _ rfl; have c3 : wo.cell? ⟨w.heap.size + 1 + 1, 3, none⟩ = _ := HO4.out.z.cell 3 _ rfl; have c4 : wo.cell? ⟨w.heap.size + 1 + 1, 4, none⟩ = _ := HO4.out.z.cell 4 _ rfl; have f0 : wo.frozen? ⟨w.heap.size + 1 + 1, 0, none⟩ = false := HO4.out.z.free 0; have f1 : wo.frozen? ⟨w.heap.size + 1 + 1, 1, none⟩ = false := HO4.out.z.free 1; have f2 : wo.frozen? ⟨w.heap.size + 1 + 1, 2, none⟩ = false := HO4.out.z.free 2; have f3 : wo.frozen? ⟨w.heap.size + 1 + 1, 3, none⟩ = false := HO4.out.z.free 3; have f4 : wo.frozen? ⟨w.heap.size + 1 + 1, 4, none⟩ = false := HO4.out.z.free 4; clear hbo)))
            all_goals
              obtain ⟨W7, hW⟩ : ∃ W, ((((wo.setCell ⟨w.heap.size + 1 + 1, 0, none⟩ (.string ag)).setCell ⟨w.heap.size + 1 + 1, 1, none⟩ (.string aa)).setCell ⟨w.heap.size + 1 + 1, 2, none⟩ (.slice so M.length sc)).setCell ⟨w.heap.size + 1 + 1, 3, none⟩ (.string (lastV M))).setCell ⟨w.heap.size + 1 + 1, 4, none⟩ (.string (relV M)) = W := ⟨_, rfl⟩
              rw [hW]
              have h5 : Box W7 (w.heap.size + 2) [.string ag, .string aa, .slice so M.length sc, .string (lastV M), .string (relV M)] ∧ wo.grownBy W7 (some (w.heap.size + 2)) := by rw [← hW]; exact box5 HO4.out.z
              obtain ⟨v7, hg7⟩ := h5
              have HV7 := Lib.hid v7
              have HB7 := Lib.hid (gr_belowV HO4.out.below hg7 (by omega) (Nat.le_refl _))
              have HO7 := Lib.hid ((HO1.out.keptR hg7 HWS.out).base_mono (Nat.le_of_lt (Nat.lt_of_le_of_lt (Nat.le_add_right _ 2) HWS.out)))
              clear v7 hg7 hW c0 c1 c2 c3 c4 f0 f1 f2 f3 f4
              have z0 := HV7.out.cell 0 _ rfl
              have z1 := HV7.out.cell 1 _ rfl
              have z2 := HV7.out.cell 2 _ rfl
              have z3 := HV7.out.cell 3 _ rfl
              have z4 := HV7.out.cell 4 _ rfl
              have zl := HV7.out.lt
              go_wp2
              refine bodyPost_ret (v := .tuple #[.agg #[.string ag, .string aa, .slice so M.length sc, .string (lastV M), .string (relV M)], .bool true]) (by simp [results, Tryd.results15, go_sem, z0, z1, z2, z3, z4]) rfl ?_
              unfold MergeOut
              exact ⟨_, M, HO7.out, fun _ => ⟨HM2.out, HM3.out⟩, fun h => absurd (HQ.out.symm.trans h) (by decide), HB7.out, by rw [if_pos HQ.out]; rfl⟩

end Go.Proofs.YtecffghcpknmjaaDoor

/- The example of the Metas' statements is as the document says; the conditions stand in the theorem. -/
namespace Go.Proofs.YtecffghcpknmjaaDoor
open Go Go.RowKit

def gavM1 : Gav := ⟨⟨#[103]⟩, ⟨#[97]⟩, ⟨#[50, 45, 115, 110, 97, 112, 115, 104, 111, 116]⟩⟩
def gavM2 : Gav := ⟨⟨#[103]⟩, ⟨#[97]⟩, ⟨#[49]⟩⟩
def idM : Id := ⟨⟨#[103]⟩, ⟨#[97]⟩⟩
def rowM2 : List S := [⟨#[49]⟩, ⟨#[50, 45, 115, 110, 97, 112, 115, 104, 111, 116]⟩]
theorem gavM1_may : gavMay gavM1 = true := by kernel_rfl
theorem gavM2_may : gavMay gavM2 = true := by kernel_rfl
theorem rowM2_lt : ltSV ⟨#[49]⟩ ⟨#[50, 45, 115, 110, 97, 112, 115, 104, 111, 116]⟩ = true := by kernel_rfl
theorem rowM2_srt : Srt ltSV rowM2 := List.pairwise_cons.2 ⟨fun y hy => by rw [List.mem_singleton.1 hy]; exact ltSV_weak.asym _ _ rowM2_lt, srt_one _⟩
theorem rowM2_same : SameE ltSV [⟨#[50, 45, 115, 110, 97, 112, 115, 104, 111, 116]⟩, ⟨#[49]⟩] rowM2 :=
  SameE.turn ltSV_weak (u := [⟨#[50, 45, 115, 110, 97, 112, 115, 104, 111, 116]⟩]) (v := [⟨#[49]⟩]) fun a ha b hb => by rw [List.mem_singleton.1 ha, List.mem_singleton.1 hb]; exact rowM2_lt
theorem rowM2_last : lastV rowM2 = ⟨#[50, 45, 115, 110, 97, 112, 115, 104, 111, 116]⟩ := by kernel_rfl
theorem rowM2_rel : relV rowM2 = ⟨#[49]⟩ := by kernel_rfl
theorem versM {e1 e2 : Nat} : versOf ([] ++ [(freshE gavM1 ⟨#[]⟩, e1)] ++ [(freshE gavM2 ⟨#[]⟩, e2)]) idM = [⟨#[50, 45, 115, 110, 97, 112, 115, 104, 111, 116]⟩, ⟨#[49]⟩] := by
  rw [versOf_snoc, versOf_snoc]
  simp [versOf, freshE, idOf, gavM1, gavM2, idM]
theorem putM1 : putE [] gavM1 = 0 := by unfold putE; rw [gavM1_may]; simp [hasG]
theorem putM2 {e1 : Nat} : putE ([] ++ [(freshE gavM1 ⟨#[]⟩, e1)]) gavM2 = 0 := by
  unfold putE
  rw [gavM2_may]
  have : hasG ([] ++ [(freshE gavM1 ⟨#[]⟩, e1)]) gavM2 = false := by
    have hn : ¬ gavM2 = gavM1 := by decide
    simp [hasG, freshE, hn]
  rw [this]; simp
set_option maxRecDepth 100000 in
set_option maxHeartbeats 8000000 in
theorem metaLives_any (w : World) : Calls Tryd.prog 11 #[] w fun e w' => e = .returned (.bool true) ∧ Below w.heap.size w w' := by
  go_enter Tryd.func11, Tryd.ntmps11
  go_wp2_with fail
  refine (new_any w).mono ?_
  rintro e w1 ⟨b, F, rfl, hS, hF, hb1⟩
  have HS1 := Lib.hid hS
  have HF := Lib.hid hF
  have HB1 := Lib.hid hb1
  clear hS hF hb1
  have HP1 : Hid (Calls Tryd.prog 26 #[.pointer (some ⟨b, 0, none⟩), .agg #[.string ⟨#[103]⟩, .string ⟨#[97]⟩, .string ⟨#[50, 45, 115, 110, 97, 112, 115, 104, 111, 116]⟩], .string ⟨#[]⟩] w1 (PutOut F b [] 0 0 gavM1 ⟨#[]⟩ w1)) := put_any gavM1 ⟨#[]⟩ w1 HS1.out ⟨by decide, by decide, by decide⟩
  unfold ptr
  go_wp2_with fail
  refine HP1.out.mono ?_
  rintro e w2 ⟨rfl, ho2, F2, es2, hS2, hF2, -, he2⟩
  obtain ⟨eb1, rfl⟩ := he2 putM1
  rw [putM1]
  have HS2 := Lib.hid hS2
  have HF2 : Hid (∀ k, F2 k → w.heap.size ≤ k) := fun k hk => by
    by_cases h : k < w1.heap.size
    · exact HF.out k (hF2 k h hk)
    · have := HB1.out.size; omega
  have HB2 := Lib.hid (HB1.out.trans (ho2.below HB1.out.size HF.out))
  clear ho2 hS2 hF2 he2 HS1 HF HB1 HP1
  have HP2 : Hid (Calls Tryd.prog 26 #[.pointer (some ⟨b, 0, none⟩), .agg #[.string ⟨#[103]⟩, .string ⟨#[97]⟩, .string ⟨#[49]⟩], .string ⟨#[]⟩] w2 (PutOut F2 b ([] ++ [(freshE gavM1 ⟨#[]⟩, eb1)]) 0 0 gavM2 ⟨#[]⟩ w2)) := put_any gavM2 ⟨#[]⟩ w2 HS2.out ⟨by decide, by decide, by decide⟩
  go_wp2_with fail
  refine HP2.out.mono ?_
  rintro e w3 ⟨rfl, ho3, F3, es3, hS3, -, -, he3⟩
  obtain ⟨eb2, rfl⟩ := he3 putM2
  rw [putM2]
  have HB3 := Lib.hid (HB2.out.trans (ho3.below HB2.out.size HF2.out))
  have hmo := metaOfS_any idM w3 hS3 (by rw [versM]; decide) (by rw [versM]; intro x hx; simp at hx; rcases hx with rfl | rfl <;> decide)
  rw [versM] at hmo
  have HMO : Hid (Calls Tryd.prog 8 #[.pointer (some ⟨b, 0, none⟩), .agg #[.string ⟨#[103]⟩, .string ⟨#[97]⟩]] w3 fun e w' => ∃ v', e = .returned (.tuple #[.agg #[.string ⟨#[103]⟩, .string ⟨#[97]⟩, v', .string ⟨#[50, 45, 115, 110, 97, 112, 115, 104, 111, 116]⟩, .string ⟨#[49]⟩], .bool true]) ∧ (∃ ao c, v' = .slice ao 2 c) ∧ Below w3.heap.size w3 w') := hmo.mono (by
    rintro e w' ⟨v', M, h1, h2, h3, h4, h5⟩
    obtain rfl : M = rowM2 := (srt_uniq ltSV_weak h2 rowM2_srt (h3.symm.trans rowM2_same))
    rw [if_neg (by simp), rowM2_last, rowM2_rel] at h5
    exact ⟨v', h5, h1.shape, h4⟩)
  clear ho3 hS3 he3 HS2 HF2 HB2 HP2 hmo
  go_wp2_with fail
  refine HMO.out.mono ?_
  rintro e w4 ⟨v', rfl, ⟨ao, c, rfl⟩, hb4⟩
  have HB4 := Lib.hid (HB3.out.trans (hb4.mono HB3.out.size))
  clear hb4 HB3 HMO
  go_upto_region 5 with fail
  refine wp_world ?_
  intro W hW
  have x1 : Box W w4.heap.size [.string ⟨#[103]⟩, .string ⟨#[97]⟩, .slice ao 2 c, .string ⟨#[50, 45, 115, 110, 97, 112, 115, 104, 111, 116]⟩, .string ⟨#[49]⟩] := by rw [hW]; exact Box.new w4 [.string ⟨#[103]⟩, .string ⟨#[97]⟩, .slice ao 2 c, .string ⟨#[50, 45, 115, 110, 97, 112, 115, 104, 111, 116]⟩, .string ⟨#[49]⟩] _ _ rfl
  have hb : Below w4.heap.size w4 W := by rw [hW]; exact (Below.refl _ _).alloc (Nat.le_refl _) _
  clear hW
  have HB := Lib.hid (HB4.out.trans (hb.mono HB4.out.size))
  have x2 := x1.cell 2 _ rfl
  have x3 := x1.cell 3 _ rfl
  have x4 := x1.cell 4 _ rfl
  have xl := x1.lt
  clear x1 hb HB4
  go_wp2
  go_ret
  exact ⟨rfl, HB.out⟩

end Go.Proofs.YtecffghcpknmjaaDoor

/- Which Metas the statements look at; the law MetaMays returns true; the conditions stand in the theorems. -/
namespace Go.Proofs.YtecffghcpknmjaaDoor
open Go Go.RowKit

def lightM (m : MetaD) : Bool := decide (m.vers.length ≤ 40) && decide (m.latest.size ≤ 200) && decide (m.rel.size ≤ 200) && decide (m.id.group.size ≤ 200) && decide (m.id.artifact.size ≤ 200) && m.vers.all fun s => decide (s.size ≤ 200)
theorem lightM_sm {m : MetaD} (h : lightM m = true) : MetaSm m ∧ m.latest.size ≤ 200 ∧ m.vers.length ≤ 40 ∧ (∀ x ∈ m.vers, x.size ≤ 200) := by
  unfold lightM at h
  simp only [Bool.and_eq_true, decide_eq_true_eq, List.all_eq_true] at h
  obtain ⟨⟨⟨⟨⟨h1, h2⟩, h3⟩, h4⟩, h5⟩, h6⟩ := h
  exact ⟨⟨by omega, by omega, by omega, fun x hx => by have := h6 x hx; omega⟩, h2, h1, h6⟩
theorem all_drop {l : List S} {k : Nat} (h : k < l.length) (p : S → Bool) : (l.drop k).all p = (p l[k] && (l.drop (k + 1)).all p) := by rw [drop_cons' h, List.all_cons]
set_option maxRecDepth 100000 in
set_option maxHeartbeats 8000000 in
theorem lightM_any (m : MetaD) (v : Value) (w : World) (h : SliceOf 1 strC w v m.vers) :
    Calls Tryd.prog 14 #[metaAg m v] w fun e w' => e = .returned (.bool (lightM m)) ∧ Below w.heap.size w w' := by
  have HS := Lib.hid h
  obtain ⟨ao, c, rfl⟩ := h.shape
  have HM : Hid (lightM m = (decide (m.vers.length ≤ 40) && decide (m.latest.size ≤ 200) && decide (m.rel.size ≤ 200) && decide (m.id.group.size ≤ 200) && decide (m.id.artifact.size ≤ 200) && m.vers.all fun s => decide (s.size ≤ 200))) := rfl
  clear h
  obtain ⟨⟨mg, ma⟩, l, la, re⟩ := m
  simp only at HS HM
  obtain ⟨MM, hMM⟩ : ∃ x, lightM ⟨⟨mg, ma⟩, l, la, re⟩ = x := ⟨_, rfl⟩
  rw [hMM] at HM ⊢
  clear hMM
  unfold metaAg metaC
  go_enter Tryd.func14, Tryd.ntmps14
  go_upto_region 1 with fail
  refine wp_world ?_
  intro W hW
  have x1 : Box W w.heap.size [.string mg, .string ma, .slice ao l.length c, .string la, .string re] := by rw [hW]; exact Box.new w [.string mg, .string ma, .slice ao l.length c, .string la, .string re] _ _ rfl
  have hb : Below w.heap.size w W := by rw [hW]; exact (Below.refl _ w).alloc (Nat.le_refl _) _
  clear hW
  have HX := Lib.hid x1
  have HB := Lib.hid hb
  clear x1 hb
  have HSW := Lib.hid (HS.out.below HB.out)
  have x0 := HX.out.cell 0 _ rfl
  have x1 := HX.out.cell 1 _ rfl
  have x2 := HX.out.cell 2 _ rfl
  have x3 := HX.out.cell 3 _ rfl
  have x4 := HX.out.cell 4 _ rfl
  have xl := HX.out.lt
  by_cases h1 : l.length ≤ 40
  · have dh1 : decide ((40 : Int) < (l.length : Int)) = false := decide_eq_false (by omega)
    have dh1n : decide (40 < l.length) = false := decide_eq_false (by omega)
    have dh1p : ¬ (40 : Int) < (l.length : Int) := by omega
    rw [decide_eq_true h1] at HM
    by_cases h2 : la.size ≤ 200
    · have dh2 : decide ((200 : Int) < (la.size : Int)) = false := decide_eq_false (by omega)
      have dh2n : decide (200 < la.size) = false := decide_eq_false (by omega)
      have dh2p : ¬ (200 : Int) < (la.size : Int) := by omega
      rw [decide_eq_true h2] at HM
      by_cases h3 : re.size ≤ 200
      · have dh3 : decide ((200 : Int) < (re.size : Int)) = false := decide_eq_false (by omega)
        have dh3n : decide (200 < re.size) = false := decide_eq_false (by omega)
        have dh3p : ¬ (200 : Int) < (re.size : Int) := by omega
        rw [decide_eq_true h3] at HM
        by_cases h4 : mg.size ≤ 200
        · have dh4 : decide ((200 : Int) < (mg.size : Int)) = false := decide_eq_false (by omega)
          have dh4n : decide (200 < mg.size) = false := decide_eq_false (by omega)
          have dh4p : ¬ (200 : Int) < (mg.size : Int) := by omega
          rw [decide_eq_true h4] at HM
          by_cases h5 : ma.size ≤ 200
          · have dh5 : decide ((200 : Int) < (ma.size : Int)) = false := decide_eq_false (by omega)
            have dh5n : decide (200 < ma.size) = false := decide_eq_false (by omega)
            have dh5p : ¬ (200 : Int) < (ma.size : Int) := by omega
            rw [decide_eq_true h5] at HM
            have HM2 : Hid (MM = (l.drop 0).all fun s => decide (s.size ≤ 200)) := by show _ = _; rw [HM.out]; simp
            clear HM h2 h3 h4 h5
            have HL40 := Lib.hid h1
            go_wp2
            clear dh1 dh1n dh1p dh2 dh2n dh2p dh3 dh3n dh3p dh4 dh4n dh4p dh5 dh5n dh5p h1
            go_loopw [38] (fun i wr => ∃ k : Nat, i = .int .i64 k ∧ k ≤ l.length ∧ W = wr ∧ Hid (MM = (l.drop k).all fun s => decide (s.size ≤ 200))) (fun i _ => l.length - (intOf i).toNat)
            case atStart => exact ⟨0, rfl, Nat.zero_le _, rfl, HM2⟩
            case round =>
              clear HM2
              obtain ⟨k, rfl, hk, rfl, HM⟩ := hrel
              by_cases hlt : k < l.length
              · obtain ⟨b, o, hao, hbl, hc⟩ := HSW.out.at1 hlt
                cases hao
                have d1 : (k : Int) < (l.length : Int) := by omega
                have wk : IntKind.i64.wrap ((k : Int) + 1) = (k : Int) + 1 := IntWalk.i64_in _ (by have := HL40.out; omega)
                have HD : Hid (MM = (decide (l[k].size ≤ 200) && (l.drop (k + 1)).all fun s => decide (s.size ≤ 200))) := by show _ = _; rw [HM.out, all_drop hlt]
                generalize l[k] = x at *
                clear HM
                by_cases hx : x.size ≤ 200
                · have e1 : ¬ (200 : Int) < (x.size : Int) := by omega
                  rw [decide_eq_true hx, Bool.true_and] at HD
                  clear hx
                  go_wp2
                  go_roundw
                  case rel => exact ⟨k + 1, by first | rfl | go_num, hlt, (by trivial), HD⟩
                  case measure => simp [intOf]; omega
                · have e1 : (200 : Int) < (x.size : Int) := by omega
                  rw [decide_eq_false hx, Bool.false_and] at HD
                  clear hx
                  go_wp2
                  go_ret
                  exact ⟨by rw [HD.out]; rfl, HB.out⟩
              · obtain rfl : k = l.length := by omega
                have d1 : ¬ (l.length : Int) < (l.length : Int) := by omega
                have HD : Hid (MM = true) := by show _ = _; rw [HM.out, List.drop_length]; rfl
                clear HM
                go_wp2
                go_ret
                exact ⟨by rw [HD.out]; rfl, HB.out⟩
          · have dh5 : decide ((200 : Int) < (ma.size : Int)) = true := decide_eq_true (by omega)
            have dh5n : decide (200 < ma.size) = true := decide_eq_true (by omega)
            have dh5p : (200 : Int) < (ma.size : Int) := by omega
            rw [decide_eq_false h5] at HM
            clear h5
            go_wp2
            go_ret
            exact ⟨by rw [HM.out]; simp, HB.out⟩
        · have dh4 : decide ((200 : Int) < (mg.size : Int)) = true := decide_eq_true (by omega)
          have dh4n : decide (200 < mg.size) = true := decide_eq_true (by omega)
          have dh4p : (200 : Int) < (mg.size : Int) := by omega
          rw [decide_eq_false h4] at HM
          clear h4
          go_wp2
          go_ret
          exact ⟨by rw [HM.out]; simp, HB.out⟩
      · have dh3 : decide ((200 : Int) < (re.size : Int)) = true := decide_eq_true (by omega)
        have dh3n : decide (200 < re.size) = true := decide_eq_true (by omega)
        have dh3p : (200 : Int) < (re.size : Int) := by omega
        rw [decide_eq_false h3] at HM
        clear h3
        go_wp2
        go_ret
        exact ⟨by rw [HM.out]; simp, HB.out⟩
    · have dh2 : decide ((200 : Int) < (la.size : Int)) = true := decide_eq_true (by omega)
      have dh2n : decide (200 < la.size) = true := decide_eq_true (by omega)
      have dh2p : (200 : Int) < (la.size : Int) := by omega
      rw [decide_eq_false h2] at HM
      clear h2
      go_wp2
      go_ret
      exact ⟨by rw [HM.out]; simp, HB.out⟩
  · have dh1 : decide ((40 : Int) < (l.length : Int)) = true := decide_eq_true (by omega)
    have dh1n : decide (40 < l.length) = true := decide_eq_true (by omega)
    have dh1p : (40 : Int) < (l.length : Int) := by omega
    rw [decide_eq_false h1] at HM
    clear h1
    go_wp2
    go_ret
    exact ⟨by rw [HM.out]; simp, HB.out⟩
set_option maxRecDepth 100000 in
set_option maxHeartbeats 8000000 in
theorem metaMays_of (HPT : RefPartsOk) (a b : MetaD) (va vb : Value) (w : World) (ha : SliceOf 1 strC w va a.vers) (hb : SliceOf 1 strC w vb b.vers) :
    Calls Tryd.prog 5 #[metaAg a va, metaAg b vb] w fun e w' => e = .returned (.bool true) ∧ Below w.heap.size w w' := by
  obtain ⟨ao, ac, rfl⟩ := ha.shape
  obtain ⟨bo, bc, rfl⟩ := hb.shape
  have HA := Lib.hid ha
  have HBS := Lib.hid hb
  have HPT' := Lib.hid HPT
  clear ha hb HPT
  have HLA : Hid (∀ W, Below w.heap.size w W → Calls Tryd.prog 14 #[metaAg a (.slice ao a.vers.length ac)] W fun e w' => e = .returned (.bool (lightM a)) ∧ Below W.heap.size W w') := fun W h => lightM_any a _ W (HA.out.below h)
  have HLB : Hid (∀ W, Below w.heap.size w W → Calls Tryd.prog 14 #[metaAg b (.slice bo b.vers.length bc)] W fun e w' => e = .returned (.bool (lightM b)) ∧ Below W.heap.size W w') := fun W h => lightM_any b _ W (HBS.out.below h)
  have HCM : Hid (lightM a = true → lightM b = true → ∀ W, Below w.heap.size w W →
      Calls Tryd.prog 13 #[metaAg a (.slice ao a.vers.length ac)] W (fun e w' => e = .returned (.bool (mayM a)) ∧ Below W.heap.size W w') ∧
      Calls Tryd.prog 16 #[metaAg a (.slice ao a.vers.length ac)] W (fun e w' => e = .returned (.bool (mayM a)) ∧ Below W.heap.size W w') ∧
      Calls Tryd.prog 19 #[.string a.latest] W (fun e w' => e = .returned (.bool (snapV a.latest.data.toList)) ∧ Below W.heap.size W w') ∧
      Calls Tryd.prog 20 #[.string a.latest] W (fun e w' => e = .returned (.bool (snapV a.latest.data.toList)) ∧ Below W.heap.size W w') ∧
      Calls Tryd.prog 21 #[metaAg a (.slice ao a.vers.length ac), metaAg b (.slice bo b.vers.length bc)] W (fun e w' => e = .returned (.bool (decide (a = b))) ∧ Below W.heap.size W w') ∧
      Calls Tryd.prog 10 #[metaAg a (.slice ao a.vers.length ac), metaAg b (.slice bo b.vers.length bc)] W (fun e w' => e = .returned (.bool (decide (a = b))) ∧ Below W.heap.size W w') ∧
      Calls Tryd.prog 21 #[metaAg a (.slice ao a.vers.length ac), metaAg a (.slice ao a.vers.length ac)] W (fun e w' => e = .returned (.bool true) ∧ Below W.heap.size W w')) := fun la lb W hb => by
    obtain ⟨s1, s2, s3, s4⟩ := lightM_sm la
    obtain ⟨t1, t2, t3, t4⟩ := lightM_sm lb
    have h1 := HA.out.below hb
    have h2 := HBS.out.below hb
    exact ⟨metaMay_any a _ W h1 s1, refMetaMay_of HPT'.out a _ W h1 s1, isSnapshot_any _ W (by omega), refIsSnapshot_of HPT'.out _ W (by omega), metaSame_any a b _ _ W h1 h2 (by omega) (by omega), refMetaSame_any a b _ _ W h1 h2 (by omega), by have h9 := metaSame_any a a _ _ W h1 h1 (by omega) (by omega); rw [show decide (a = a) = true from decide_eq_true rfl] at h9; exact h9⟩
  clear HPT' HA HBS
  obtain ⟨⟨ag, aa⟩, al, at', ar⟩ := a
  obtain ⟨⟨bg, ba⟩, bl, bt, br⟩ := b
  unfold metaAg metaC at *
  simp only at HLA HLB HCM ⊢
  generalize hla : lightM ⟨⟨ag, aa⟩, al, at', ar⟩ = la at *
  generalize hlb : lightM ⟨⟨bg, ba⟩, bl, bt, br⟩ = lb at *
  generalize mayM ⟨⟨ag, aa⟩, al, at', ar⟩ = qm at *
  generalize snapV at'.data.toList = qs at *
  generalize decide ((⟨⟨ag, aa⟩, al, at', ar⟩ : MetaD) = ⟨⟨bg, ba⟩, bl, bt, br⟩) = qe at *
  clear hla hlb
  go_enter Tryd.func5, Tryd.ntmps5
  go_upto_region 1 with fail
  refine wp_world ?_
  intro W hW
  have x1 : Box W w.heap.size [.string ag, .string aa, .slice ao al.length ac, .string at', .string ar] := by rw [hW]; exact (Box.new w [.string ag, .string aa, .slice ao al.length ac, .string at', .string ar] _ _ rfl).alloc _
  have y1 : Box W (w.heap.size + 1) [.string bg, .string ba, .slice bo bl.length bc, .string bt, .string br] := by rw [hW]; exact Box.new _ [.string bg, .string ba, .slice bo bl.length bc, .string bt, .string br] _ _ (by simp)
  have hb : Below w.heap.size w W := by rw [hW]; exact ((Below.refl _ w).alloc (Nat.le_refl _) _).alloc (by simp) _
  clear hW
  have HX := Lib.hid x1
  have HY := Lib.hid y1
  have HB := Lib.hid hb
  clear x1 y1 hb
  have x0 := HX.out.cell 0 _ rfl
  have x1 := HX.out.cell 1 _ rfl
  have x2 := HX.out.cell 2 _ rfl
  have x3 := HX.out.cell 3 _ rfl
  have x4 := HX.out.cell 4 _ rfl
  have xl := HX.out.lt
  go_wp2_with fail
  refine (HLA.out W HB.out).mono ?_
  rintro e w1 ⟨rfl, hb1⟩
  have HX1 := Lib.hid (HX.out.below hb1 HX.out.lt)
  have HY1 := Lib.hid (HY.out.below hb1 HY.out.lt)
  have HB1 := Lib.hid (HB.out.trans (hb1.mono HB.out.size))
  clear hb1 x0 x1 x2 x3 x4 xl HX HY HB HLA
  have y0 := HY1.out.cell 0 _ rfl
  have y1 := HY1.out.cell 1 _ rfl
  have y2 := HY1.out.cell 2 _ rfl
  have y3 := HY1.out.cell 3 _ rfl
  have y4 := HY1.out.cell 4 _ rfl
  have yl := HY1.out.lt
  cases la with
  | false =>
    go_wp2_with fail
    refine (metaLives_any w1).mono ?_
    rintro e w2 ⟨rfl, hb2⟩
    have HB2 := Lib.hid (HB1.out.trans (hb2.mono HB1.out.size))
    clear hb2
    go_wp2
    go_ret
    exact ⟨rfl, HB2.out⟩
  | true =>
    go_wp2_with fail
    refine (HLB.out w1 HB1.out).mono ?_
    rintro e w2 ⟨rfl, hb2⟩
    have HX2 := Lib.hid (HX1.out.below hb2 HX1.out.lt)
    have HY2 := Lib.hid (HY1.out.below hb2 HY1.out.lt)
    have HB2 := Lib.hid (HB1.out.trans (hb2.mono HB1.out.size))
    clear hb2 y0 y1 y2 y3 y4 yl HX1 HY1 HB1 HLB
    cases lb with
    | false =>
      go_wp2_with fail
      refine (metaLives_any w2).mono ?_
      rintro e w3 ⟨rfl, hb3⟩
      have HB3 := Lib.hid (HB2.out.trans (hb3.mono HB2.out.size))
      clear hb3
      go_wp2
      go_ret
      exact ⟨rfl, HB3.out⟩
    | true =>
      have hcm := fun z : Later w2 => HCM.out (by first | trivial | rfl) (by first | trivial | rfl) z.at_ (HB2.out.trans (z.below.mono HB2.out.size))
      have H1 := Lib.hid (fun z : Later w2 => Later.call (hcm z).1)
      have H2 := Lib.hid (fun z : Later w2 => Later.call (hcm z).2.1)
      have H3 := Lib.hid (fun z : Later w2 => Later.call (hcm z).2.2.1)
      have H4 := Lib.hid (fun z : Later w2 => Later.call (hcm z).2.2.2.1)
      have H5 := Lib.hid (fun z : Later w2 => Later.call (hcm z).2.2.2.2.1)
      have H6 := Lib.hid (fun z : Later w2 => Later.call (hcm z).2.2.2.2.2.1)
      have H7 := Lib.hid (fun z : Later w2 => Later.call (hcm z).2.2.2.2.2.2)
      have H8 := Lib.hid (fun z : Later w2 => Later.call (metaLives_any z.at_))
      clear hcm HCM
      have x0 := HX2.out.cell 0 _ rfl
      have x1 := HX2.out.cell 1 _ rfl
      have x2 := HX2.out.cell 2 _ rfl
      have x3 := HX2.out.cell 3 _ rfl
      have x4 := HX2.out.cell 4 _ rfl
      have xl := HX2.out.lt
      have y0 := HY2.out.cell 0 _ rfl
      have y1 := HY2.out.cell 1 _ rfl
      have y2 := HY2.out.cell 2 _ rfl
      have y3 := HY2.out.cell 3 _ rfl
      have y4 := HY2.out.cell 4 _ rfl
      have yl := HY2.out.lt
      have hLL := @Later.cells w2
      have e1 : (qm == qm) = true := by simp
      have e2 : (qs == qs) = true := by simp
      have e3 : (qe == qe) = true := by simp
      go_wp2_with fail
      refine region_later (by kernel_rfl) (by kernel_rfl) ?_
      repeat (go_big_quiet_step ((first | (go_at_call 13; with_reducible exact H1.out _) | (go_at_call 16; with_reducible exact H2.out _) | (go_at_call 19; with_reducible exact H3.out _) | (go_at_call 20; with_reducible exact H4.out _) | (go_at_call 21; first | (with_reducible exact H5.out _) | (with_reducible exact H7.out _)) | (go_at_call 10; with_reducible exact H6.out _) | (go_at_call 11; with_reducible exact H8.out _))))
      refine wpQuiet_nil ?_
      rintro _ ⟨nx, rfl⟩
      have HBn := Lib.hid (HB2.out.trans (nx.below.mono HB2.out.size))
      clear hLL x0 x1 x2 x3 x4 xl y0 y1 y2 y3 y4 yl H1 H2 H3 H4 H5 H6 H7 H8
      generalize nx.at_ = wn at *
      go_wp2
      go_ret
      exact ⟨rfl, HBn.out⟩

end Go.Proofs.YtecffghcpknmjaaDoor
