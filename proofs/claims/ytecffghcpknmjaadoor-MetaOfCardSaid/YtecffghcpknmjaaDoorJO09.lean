/- The walks of the store's Versions and of meta.Of; the example of the Metas' statements; the conditions stand in the theorems. -/
import Derived.Test.YtecffghcpknmjaaDoorJO07
import Derived.Test.YtecffghcpknmjaaDoorJO08
import Derived.Test.YtecffghcpknmjaaDoorJO01
import Derived.Test.YtecffghcpknmjaaDoorSB
import Derived.Deep.AppendLies
import Derived.Deep.RegionWith
import Derived.Test.YtecffghcpknmjaaDoorL11

namespace Go.Proofs.YtecffghcpknmjaaDoor
open Go Go.RowKit

/-- What Versions answers: the versions of an id in the stable order, in a row of its own. -/
def VersOut (l : List S) (w : World) (e : Ending) (w' : World) : Prop := ∃ v' M, e = .returned v' ∧ Owns w.heap.size 9 1 strC w' v' M ∧ Srt ltSV M ∧ SameE ltSV l M ∧ Below w.heap.size w w'
set_option maxRecDepth 100000 in
theorem versions_any (x : Id) (w : World) {F : Nat → Prop} {b : Nat} {es : List (SEnt × Nat)} {r a : Int} (h : StoreAt F w b es r a) (hl : (versOf es x).length ≤ 1000000) (hs : AllSmall (versOf es x)) :
    Calls Tryd.prog 28 #[ptr b, .agg #[.string x.group, .string x.artifact]] w (VersOut (versOf es x) w) := by
  obtain ⟨me, mv, L, cl, V, cv, h⟩ := h
  have hrow := (h.rowV_owns x).slice strC_lV
  have hlt := h.box.lt
  have HS := Lib.hid h
  have HR := Lib.hid hrow
  have HL := Lib.hid hl
  have HSM := Lib.hid hs
  clear h hrow hl hs
  generalize versOf es x = l at *
  unfold ptr
  go_enter Tryd.func28, Tryd.ntmps28
  go_upto_region 1 with fail
  refine wp_world ?_
  intro W hW
  have hx : Box W w.heap.size [.string x.group, .string x.artifact] := by rw [hW]; exact Box.new w [.string x.group, .string x.artifact] _ _ rfl
  have hb : Below w.heap.size w W := by rw [hW]; exact (Below.refl _ _).alloc (Nat.le_refl _) _
  clear hW
  have HB := Lib.hid hb
  have x0 := hx.cell 0 _ rfl
  have x1 := hx.cell 1 _ rfl
  have lx := hx.lt
  have b1 := (HS.out.box.below hb hlt).cell 1 _ rfl
  have lb := (HS.out.box.below hb hlt).lt
  have hm := HS.out.vers.below hb HS.out.vers.lt
  have hlk : ∀ z : Later W, (Instr.lookup 88 (.map (some mv)) (.agg #[.string x.group, .string x.artifact]) false).run Tryd.prog z.at_ = .ok (rowV V x) z.at_ := fun z => look_row x (hm.below z.below hm.lt)
  have HRW := Lib.hid (HR.out.below hb)
  clear hx hb hm hlt HR HS
  have hLC := @Later.cells W
  go_wp2_with fail
  refine region_later_tail 6 (by kernel_rfl) (by kernel_rfl) ?_
  simp only [List.take_succ_cons, List.take_zero, List.drop_succ_cons, List.drop_zero]
  repeat (go_big_quiet_step (fail))
  refine wpQuiet_nil ?_
  rintro _ ⟨nx, rfl⟩
  have HRN := Lib.hid (HRW.out.below nx.below)
  have HBN := Lib.hid (HB.out.trans (nx.below.mono HB.out.size))
  clear hlk hLC x0 x1 lx b1 lb HRW HB
  generalize nx.at_ = wn at *
  have HSO := Lib.hid (sort_any HRN.out HL.out HSM.out)
  generalize rowV V x = rv at *
  go_wp2_with fail
  refine HSO.out.mono ?_
  rintro e w2 ⟨v', M, rfl, h1, h2, h3, h4⟩
  have H1 := Lib.hid (h1.base_mono HBN.out.size)
  have H2 := Lib.hid h2
  have H3 := Lib.hid h3
  have H4 := Lib.hid (HBN.out.trans (h4.mono HBN.out.size))
  clear h1 h2 h3 h4
  go_wp2
  go_ret
  exact ⟨_, M, rfl, H1.out, H2.out, H3.out, H4.out⟩
theorem small_same {l M : List S} (h : SameE ltSV l M) (hs : AllSmall l) : AllSmall M := fun x hx => hs x (h.symm.mem ltSV_weak hx)
theorem len_same {l M : List S} (h : SameE ltSV l M) : M.length = l.length := (h.perm ltSV_weak).length_eq.symm
/-- What meta.Of answers. -/
def MetaOut (d : Id) (l : List S) (w : World) (e : Ending) (w' : World) : Prop := ∃ v' M, Owns w.heap.size 9 1 strC w' v' M ∧ Srt ltSV M ∧ SameE ltSV l M ∧ Below w.heap.size w w' ∧
  e = .returned (.tuple (if l = [] then #[.agg metaZ.toArray, .bool false] else #[metaAg ⟨d, M, lastV M, relV M⟩ v', .bool true]))
set_option maxRecDepth 100000 in
set_option maxHeartbeats 4000000 in
theorem metaOfS_any (x : Id) (w : World) {F : Nat → Prop} {b : Nat} {es : List (SEnt × Nat)} {r a : Int} (h : StoreAt F w b es r a) (hl : (versOf es x).length ≤ 1000000) (hs : AllSmall (versOf es x)) :
    Calls Tryd.prog 8 #[ptr b, .agg #[.string x.group, .string x.artifact]] w (MetaOut x (versOf es x) w) := by
  have HV : Hid (∀ W, Below w.heap.size w W → Calls Tryd.prog 28 #[ptr b, .agg #[.string x.group, .string x.artifact]] W (VersOut (versOf es x) W)) := fun W hb => versions_any x W (h.below hb) hl hs
  have HL := Lib.hid hl
  have HSM := Lib.hid hs
  clear h hl hs
  generalize versOf es x = l at *
  unfold ptr at *
  go_enter Tryd.func8, Tryd.ntmps8
  go_upto_region 1 with fail
  refine wp_world ?_
  intro W hW
  have x1 : Box W w.heap.size [.string x.group, .string x.artifact] := by rw [hW]; exact (Box.new w [.string x.group, .string x.artifact] _ _ rfl).alloc _
  have y1 : Box W (w.heap.size + 1) metaZ := by rw [hW]; exact Box.new _ metaZ _ _ (by simp)
  have hb : Below w.heap.size w W := by rw [hW]; exact ((Below.refl _ w).alloc (Nat.le_refl _) _).alloc (by simp) _
  clear hW
  have HX := Lib.hid x1
  have HY := Lib.hid y1
  have HB := Lib.hid hb
  have x0 := x1.cell 0 _ rfl
  have x1' := x1.cell 1 _ rfl
  have xl := x1.lt
  clear x1 y1 hb
  go_wp2_with fail
  refine (HV.out W HB.out).mono ?_
  rintro e w1 ⟨v', M, rfl, h1, h2, h3, h4⟩
  have HO1 := Lib.hid h1
  have HWS := Lib.hid HY.out.lt
  have HWB := Lib.hid HB.out.size
  have HSL1 := Lib.hid (h1.slice strC_lV)
  have H2 := Lib.hid h2
  have H3 := Lib.hid h3
  have HX1 := Lib.hid (HX.out.below h4 HX.out.lt)
  have HY1 := Lib.hid (HY.out.below h4 HY.out.lt)
  have HB1 := Lib.hid (HB.out.trans (h4.mono HB.out.size))
  obtain ⟨ao, c, rfl⟩ := h1.shape
  have HLM := Lib.hid (len_same h3)
  have HSS := Lib.hid (small_same h3 HSM.out)
  clear h1 h2 h3 h4 x0 x1' xl HX HY HB HV
  by_cases h0 : l = []
  · have hm0 : M = [] := List.eq_nil_of_length_eq_zero (by have := HLM.out; rw [h0] at this; exact this)
    subst h0 hm0
    go_wp2_with ((with_reducible show wpList _ _ _ (Oper.mk none (Op.store 31 (.tmp 4) (.tmp 13)) _ _ _ _ :: _) _ _); refine wpList_store_box rfl 31 (.tmp 4) (.tmp 13) rfl (w.heap.size + 1) _ metaZ rfl rfl HY1.out rfl (by kernel_rfl) (by simp [metaZ, Value.oneCell']) ?_; intro W7 v7 hg7; have HV7 := Lib.hid v7; have HB7 := Lib.hid (gr_belowV HB1.out hg7 (by omega) (Nat.le_refl _)); have HO7 := Lib.hid ((HO1.out.keptR hg7 HWS.out).base_mono HWB.out); clear v7 hg7)
    have z0 := HV7.out.cell 0 _ rfl
    have z1 := HV7.out.cell 1 _ rfl
    have z2 := HV7.out.cell 2 _ rfl
    have z3 := HV7.out.cell 3 _ rfl
    have z4 := HV7.out.cell 4 _ rfl
    have zl := HV7.out.lt
    clear HY1 HX1 HB1
    go_wp2
    refine bodyPost_ret (v := .tuple #[.agg metaZ.toArray, .bool false]) (by simp [results, Tryd.results8, go_sem, z0, z1, z2, z3, z4, metaZ]) rfl ?_
    exact ⟨_, [], HO7.out, H2.out, H3.out, HB7.out, by rw [if_pos rfl]⟩
  · have hne : M ≠ [] := fun e => h0 (List.eq_nil_of_length_eq_zero (by rw [← show M.length = _ from HLM.out, e]; rfl))
    have hm1 : 1 ≤ M.length := by have := List.length_pos_iff.2 hne; omega
    have e0 : ((M.length : Int) == 0) = false := by rw [beq_eq_false_iff_ne]; omega
    have e0n : (M.length == 0) = false := by rw [beq_eq_false_iff_ne]; omega
    have HOF : Hid (Calls Tryd.prog 29 #[.agg #[.string x.group, .string x.artifact], .slice ao M.length c] w1 fun e w' => e = .returned (.agg #[.string x.group, .string x.artifact, .slice ao M.length c, .string (lastV M), .string (relV M)]) ∧ Below w1.heap.size w1 w') := metaOf_any x M _ w1 HSL1.out (by have := HLM.out; have := HL.out; omega) HSS.out hne
    have HR : Hid (MetaOut x l w = fun e w' => ∃ v' M, Owns w.heap.size 9 1 strC w' v' M ∧ Srt ltSV M ∧ SameE ltSV l M ∧ Below w.heap.size w w' ∧ e = .returned (.tuple #[metaAg ⟨x, M, lastV M, relV M⟩ v', .bool true])) := by show _ = _; unfold MetaOut; simp only [if_neg h0]
    obtain ⟨la, hla⟩ : ∃ y, lastV M = y := ⟨_, rfl⟩
    obtain ⟨re, hre⟩ : ∃ y, relV M = y := ⟨_, rfl⟩
    rw [hla, hre] at HOF
    have HLA := Lib.hid hla
    have HRE := Lib.hid hre
    have x0 := HX1.out.cell 0 _ rfl
    have x1' := HX1.out.cell 1 _ rfl
    have xl := HX1.out.lt
    clear h0 hne hla hre HSS HSL1 hm1
    go_wp2_with fail
    refine HOF.out.mono ?_
    rintro e w2 ⟨rfl, hb2⟩
    have HY2 := Lib.hid (HY1.out.below hb2 HY1.out.lt)
    have HB2 := Lib.hid (HB1.out.trans (hb2.mono HB1.out.size))
    have HO2 := Lib.hid (HO1.out.below hb2)
    clear hb2 x0 x1' xl HX1 HY1 HB1 HO1 HOF
    go_wp2_with ((with_reducible show wpList _ _ _ (Oper.mk none (Op.store 31 (.tmp 4) (.tmp 16)) _ _ _ _ :: _) _ _); refine wpList_store_box rfl 31 (.tmp 4) (.tmp 16) rfl (w.heap.size + 1) _ [.string x.group, .string x.artifact, .slice ao M.length c, .string la, .string re] rfl rfl HY2.out rfl (by kernel_rfl) (by simp [Value.oneCell']) ?_; intro W7 v7 hg7; have HV7 := Lib.hid v7; have HB7 := Lib.hid (gr_belowV HB2.out hg7 (by omega) (Nat.le_refl _)); have HO7 := Lib.hid ((HO2.out.keptR hg7 HWS.out).base_mono HWB.out); clear v7 hg7)
    have z0 := HV7.out.cell 0 _ rfl
    have z1 := HV7.out.cell 1 _ rfl
    have z2 := HV7.out.cell 2 _ rfl
    have z3 := HV7.out.cell 3 _ rfl
    have z4 := HV7.out.cell 4 _ rfl
    have zl := HV7.out.lt
    clear HY2 HB2 HO2
    go_wp2
    refine bodyPost_ret (v := .tuple #[.agg #[.string x.group, .string x.artifact, .slice ao M.length c, .string la, .string re], .bool true]) (by simp [results, Tryd.results8, go_sem, z0, z1, z2, z3, z4]) rfl ?_
    rw [HR.out]
    exact ⟨_, M, HO7.out, H2.out, H3.out, HB7.out, by rw [HLA.out, HRE.out]; rfl⟩

end Go.Proofs.YtecffghcpknmjaaDoor

/- The document's store in memory; what its Put turns; the conditions stand in the theorems. -/
namespace Go.Proofs.YtecffghcpknmjaaDoor
open Go Go.RowKit

/-- The document's store: its variable and its three rows, in blocks that G names. -/
structure DocIn (G : Nat → Prop) (w : World) (b : Nat) (vg vt vr : Value) (gs : List Gav) (ts : List S) (rs : List Bool) : Prop where
  box : Box w b [vg, vt, vr, .int .i64 0]
  g : Owns 0 60 3 gavC w vg gs
  t : Owns 0 9 1 strC w vt ts
  r : Owns 0 4 1 boolC w vr rs
  gb : G b
  gg : ∀ j, vg.ownBlock = some j → G j ∧ j ≠ b
  gt : ∀ j, vt.ownBlock = some j → G j ∧ j ≠ b
  gr : ∀ j, vr.ownBlock = some j → G j ∧ j ≠ b
  gtA : ∀ j, vg.ownBlock = some j → vt.ownBlock ≠ some j
  grA : ∀ j, vg.ownBlock = some j → vr.ownBlock ≠ some j
  trA : ∀ j, vt.ownBlock = some j → vr.ownBlock ≠ some j
theorem DocIn.below {G : Nat → Prop} {w w' : World} {b : Nat} {vg vt vr : Value} {gs : List Gav} {ts : List S} {rs : List Bool} (h : DocIn G w b vg vt vr gs ts rs) (hb : Below w.heap.size w w') : DocIn G w' b vg vt vr gs ts rs :=
  ⟨h.box.below hb h.box.lt, h.g.below hb, h.t.below hb, h.r.below hb, h.gb, h.gg, h.gt, h.gr, h.gtA, h.grA, h.trA⟩
theorem DocIn.only {F G : Nat → Prop} {w w' : World} {b : Nat} {vg vt vr : Value} {gs : List Gav} {ts : List S} {rs : List Bool} (h : DocIn G w b vg vt vr gs ts rs) (ho : Only F w w') (hF : ∀ k, G k → ¬ F k) : DocIn G w' b vg vt vr gs ts rs :=
  ⟨h.box.only ho (hF _ h.gb), h.g.only ho fun k hk => hF _ (h.gg k hk).1, h.t.only ho fun k hk => hF _ (h.gt k hk).1, h.r.only ho fun k hk => hF _ (h.gr k hk).1, h.gb, h.gg, h.gt, h.gr, h.gtA, h.grA, h.trA⟩
theorem own_off {v u : Value} (h : ∀ j, v.ownBlock = some j → u.ownBlock ≠ some j) : u.ownBlock = none ∨ u.ownBlock ≠ v.ownBlock := own_apart h
/-- One more project: the first row grows, then the variable's first cell turns. -/
theorem DocIn.putG {G : Nat → Prop} {w W : World} {b : Nat} {vg vt vr v' : Value} {gs gs' : List Gav} {ts : List S} {rs : List Bool} (h : DocIn G w b vg vt vr gs ts rs) (hO : Owns 0 60 3 gavC W v' gs') (hg : w.grownBy W vg.ownBlock) (hl : v'.ownBlock = vg.ownBlock ∨ v'.ownBlock = some w.heap.size) :
    DocIn (fun k => G k ∨ w.heap.size ≤ k) (W.setCell ⟨b, 0, none⟩ v') b v' vt vr gs' ts rs := by
  have hb : Box W b [vg, vt, vr, .int .i64 0] := h.box.grown hg (fun e => (h.gg b e.symm).2 rfl)
  have hn : ∀ j, v'.ownBlock = some j → (G j ∨ w.heap.size ≤ j) ∧ j ≠ b := fun j hj => by
    rcases hl with e | e
    · exact ⟨.inl (h.gg j (e ▸ hj)).1, (h.gg j (e ▸ hj)).2⟩
    · rw [e] at hj; cases hj; exact ⟨.inr (Nat.le_refl _), by have := h.box.lt; omega⟩
  have hT := h.t.kept hg (own_off h.gtA)
  have hR := h.r.kept hg (own_off h.grA)
  refine ⟨hb.setOne rfl (by simp), hO.kept (setCell_grown _ _ _ _) (own_ne fun j hj => (hn j hj).2), hT.kept (setCell_grown _ _ _ _) (own_ne fun j hj => (h.gt j hj).2), hR.kept (setCell_grown _ _ _ _) (own_ne fun j hj => (h.gr j hj).2), .inl h.gb, hn, fun j hj => ⟨.inl (h.gt j hj).1, (h.gt j hj).2⟩, fun j hj => ⟨.inl (h.gr j hj).1, (h.gr j hj).2⟩, fun j hj hn => ?_, fun j hj hn => ?_, h.trA⟩
  · rcases hl with e | e
    · exact h.gtA j (e ▸ hj) hn
    · rw [e] at hj; cases hj; have := (h.t.lt _ hn).2; omega
  · rcases hl with e | e
    · exact h.grA j (e ▸ hj) hn
    · rw [e] at hj; cases hj; have := (h.r.lt _ hn).2; omega
theorem DocIn.putT {G : Nat → Prop} {w W : World} {b : Nat} {vg vt vr v' : Value} {gs : List Gav} {ts ts' : List S} {rs : List Bool} (h : DocIn G w b vg vt vr gs ts rs) (hO : Owns 0 9 1 strC W v' ts') (hg : w.grownBy W vt.ownBlock) (hl : v'.ownBlock = vt.ownBlock ∨ v'.ownBlock = some w.heap.size) :
    DocIn (fun k => G k ∨ w.heap.size ≤ k) (W.setCell ⟨b, 1, none⟩ v') b vg v' vr gs ts' rs := by
  have hb : Box W b [vg, vt, vr, .int .i64 0] := h.box.grown hg (fun e => (h.gt b e.symm).2 rfl)
  have hn : ∀ j, v'.ownBlock = some j → (G j ∨ w.heap.size ≤ j) ∧ j ≠ b := fun j hj => by
    rcases hl with e | e
    · exact ⟨.inl (h.gt j (e ▸ hj)).1, (h.gt j (e ▸ hj)).2⟩
    · rw [e] at hj; cases hj; exact ⟨.inr (Nat.le_refl _), by have := h.box.lt; omega⟩
  have hG := h.g.kept hg (own_apart2 h.gtA)
  have hR := h.r.kept hg (own_off h.trA)
  refine ⟨hb.setOne rfl (by simp), hG.kept (setCell_grown _ _ _ _) (own_ne fun j hj => (h.gg j hj).2), hO.kept (setCell_grown _ _ _ _) (own_ne fun j hj => (hn j hj).2), hR.kept (setCell_grown _ _ _ _) (own_ne fun j hj => (h.gr j hj).2), .inl h.gb, fun j hj => ⟨.inl (h.gg j hj).1, (h.gg j hj).2⟩, hn, fun j hj => ⟨.inl (h.gr j hj).1, (h.gr j hj).2⟩, fun j hj hn => ?_, h.grA, fun j hj hn => ?_⟩
  · rcases hl with e | e
    · exact h.gtA j hj (e ▸ hn)
    · rw [e] at hn; cases hn; have := (h.g.lt _ hj).2; omega
  · rcases hl with e | e
    · exact h.trA j (e ▸ hj) hn
    · rw [e] at hj; cases hj; have := (h.r.lt _ hn).2; omega
theorem DocIn.putR {G : Nat → Prop} {w W : World} {b : Nat} {vg vt vr v' : Value} {gs : List Gav} {ts : List S} {rs rs' : List Bool} (h : DocIn G w b vg vt vr gs ts rs) (hO : Owns 0 4 1 boolC W v' rs') (hg : w.grownBy W vr.ownBlock) (hl : v'.ownBlock = vr.ownBlock ∨ v'.ownBlock = some w.heap.size) :
    DocIn (fun k => G k ∨ w.heap.size ≤ k) (W.setCell ⟨b, 2, none⟩ v') b vg vt v' gs ts rs' := by
  have hb : Box W b [vg, vt, vr, .int .i64 0] := h.box.grown hg (fun e => (h.gr b e.symm).2 rfl)
  have hn : ∀ j, v'.ownBlock = some j → (G j ∨ w.heap.size ≤ j) ∧ j ≠ b := fun j hj => by
    rcases hl with e | e
    · exact ⟨.inl (h.gr j (e ▸ hj)).1, (h.gr j (e ▸ hj)).2⟩
    · rw [e] at hj; cases hj; exact ⟨.inr (Nat.le_refl _), by have := h.box.lt; omega⟩
  have hG := h.g.kept hg (own_apart2 h.grA)
  have hT := h.t.kept hg (own_apart2 h.trA)
  refine ⟨hb.setOne rfl (by simp), hG.kept (setCell_grown _ _ _ _) (own_ne fun j hj => (h.gg j hj).2), hT.kept (setCell_grown _ _ _ _) (own_ne fun j hj => (h.gt j hj).2), hO.kept (setCell_grown _ _ _ _) (own_ne fun j hj => (hn j hj).2), .inl h.gb, fun j hj => ⟨.inl (h.gg j hj).1, (h.gg j hj).2⟩, fun j hj => ⟨.inl (h.gt j hj).1, (h.gt j hj).2⟩, hn, h.gtA, fun j hj hn => ?_, fun j hj hn => ?_⟩
  · rcases hl with e | e
    · exact h.grA j hj (e ▸ hn)
    · rw [e] at hn; cases hn; have := (h.g.lt _ hj).2; omega
  · rcases hl with e | e
    · exact h.trA j hj (e ▸ hn)
    · rw [e] at hn; cases hn; have := (h.t.lt _ hj).2; omega

end Go.Proofs.YtecffghcpknmjaaDoor

/- The walk of meta.Merge; the conditions stand in the theorem. -/
namespace Go.Proofs.YtecffghcpknmjaaDoor
open Go Go.RowKit

def restM (l m : List S) : List S := m.filter fun v => !memB l v
def mergeB (a b : MetaD) : Bool := mayM a && mayM b && (decide (a.id.group = b.id.group) && decide (a.id.artifact = b.id.artifact))
/-- What meta.Merge answers. -/
def MergeOut (a b : MetaD) (w : World) (e : Ending) (w' : World) : Prop := ∃ v' M, Owns w.heap.size 9 1 strC w' v' M ∧ (mergeB a b = true → Srt ltSV M ∧ SameE ltSV (a.vers ++ restM a.vers b.vers) M) ∧ (mergeB a b = false → M = []) ∧ Below w.heap.size w w' ∧
  e = .returned (.tuple (if mergeB a b = true then #[metaAg ⟨a.id, M, lastV M, relV M⟩ v', .bool true] else #[.agg metaZ.toArray, .bool false]))
theorem restM_take {l m : List S} {k : Nat} (h : k < m.length) : restM l (m.take (k + 1)) = restM l (m.take k) ++ (if memB l m[k] = true then [] else [m[k]]) := by
  unfold restM
  rw [take_snoc h, List.filter_append]
  congr 1
  cases hq : memB l m[k] <;> simp [hq]
theorem restM_len (l m : List S) : (restM l m).length ≤ m.length := List.length_filter_le _ _
theorem restM_small {l m : List S} (h : AllSmall m) : AllSmall (restM l m) := fun x hx => h x ((List.mem_filter.1 hx).1)
/-- The machine in the midst of meta.Merge: the three variables, and the row that grows. -/
structure MergeAt (w wr : World) (B : Nat) (ca cb cz : List Value) (v : Value) (l : List S) : Prop where
  base : w.heap.size + 3 ≤ B
  size : B ≤ wr.heap.size
  below : Below w.heap.size w wr
  x : Box wr w.heap.size ca
  y : Box wr (w.heap.size + 1) cb
  z : Box wr (w.heap.size + 2) cz
  own : Owns B 9 1 strC wr v l
theorem MergeAt.later {w wr W : World} {B : Nat} {ca cb cz : List Value} {v : Value} {l : List S} (h : MergeAt w wr B ca cb cz v l) (hb : Below wr.heap.size wr W) : MergeAt w W B ca cb cz v l :=
  have hs := h.size
  have hB := h.base
  ⟨h.base, Nat.le_trans h.size hb.size, h.below.trans (hb.mono (by omega)), h.x.below hb (by omega), h.y.below hb (by omega), h.z.below hb (by omega), h.own.below hb⟩
theorem MergeAt.put {w wr W : World} {B : Nat} {ca cb cz : List Value} {v v' : Value} {l l' : List S} (h : MergeAt w wr B ca cb cz v l) (hO : Owns B 9 1 strC W v' l') (hg : wr.grownBy W v.ownBlock) : MergeAt w W B ca cb cz v' l' :=
  have hs := h.size
  have hB := h.base
  have hl := fun j hj => (h.own.lt j hj).1
  ⟨h.base, Nat.le_trans h.size hg.size, h.below.grown hg (by omega) (fun j hj => by have := hl j hj; omega), h.x.grown hg (fun e => by have := hl _ e.symm; omega), h.y.grown hg (fun e => by have := hl _ e.symm; omega), h.z.grown hg (fun e => by have := hl _ e.symm; omega), hO⟩
theorem strC_onesV (l : List S) : ∀ y ∈ l, ∀ u ∈ strC y, u.oneCell' = true := by
  intro y _ u hu
  simp [strC] at hu
  subst hu
  rfl
theorem step_store_boxV {P : Program} {ops : Array Oper} {E : Prop} {o : Oper} {a : Act} {w : World} {K : Act → World → Prop} {Q : Exit → Act → World → Prop} (hgd : o.guard = none) (ty : TypeId) (x y : Operand) (ho : o.op = .store ty x y)
    (b : Nat) (old cs : List Value) (hx : a.eval x = .pointer (some ⟨b, 0, none⟩)) (hy : a.eval y = .agg cs.toArray) (hb : Box w b old) (hl : old.length = cs.length)
    (hi : (P.info? ty).map (·.size) = some cs.length) (h1 : ∀ v ∈ cs, v.oneCell' = true) (h : ∀ W', Box W' b cs → w.grownBy W' (some b) → K (a.put o.dst undef) W') :
    if Region.wanted o (yielded ops a.tmps) = true then Oper.wp P o a w K Q else E := by
  have hw : Region.wanted o (yielded ops a.tmps) = true := by simp [Region.wanted, hgd]
  rw [if_pos hw]
  exact wp_store_box ty x y ho b old cs hx hy hb hl hi h1 h
theorem box5 {w : World} {b : Nat} {p0 p1 p2 p3 p4 v0 v1 v2 v3 v4 : Value} (h : Box w b [p0, p1, p2, p3, p4]) : Box (((((w.setCell ⟨b, 0, none⟩ v0).setCell ⟨b, 1, none⟩ v1).setCell ⟨b, 2, none⟩ v2).setCell ⟨b, 3, none⟩ v3).setCell ⟨b, 4, none⟩ v4) b [v0, v1, v2, v3, v4] ∧ w.grownBy (((((w.setCell ⟨b, 0, none⟩ v0).setCell ⟨b, 1, none⟩ v1).setCell ⟨b, 2, none⟩ v2).setCell ⟨b, 3, none⟩ v3).setCell ⟨b, 4, none⟩ v4) (some b) :=
  ⟨((((h.set 0 v0).set 1 v1).set 2 v2).set 3 v3).set 4 v4, ((((setCell_grown _ _ _ _).trans (setCell_grown _ _ _ _)).trans (setCell_grown _ _ _ _)).trans (setCell_grown _ _ _ _)).trans (setCell_grown _ _ _ _)⟩
theorem belowDrew1 (w : World) : Below w.heap.size w w.drew := ⟨rfl, rfl, rfl, Nat.le_refl _, fun _ _ => rfl⟩
attribute [local go_sem ↓] neq_idV in
set_option maxRecDepth 100000 in
set_option maxHeartbeats 8000000 in
theorem metaMerge_any (a b : MetaD) (va vb : Value) (w : World) (ha : SliceOf 1 strC w va a.vers) (hb : SliceOf 1 strC w vb b.vers) (sa : MetaSm a) (sb : MetaSm b) (la : a.vers.length ≤ 400000) (lb : b.vers.length ≤ 400000) :
    Calls Tryd.prog 15 #[metaAg a va, metaAg b vb] w (MergeOut a b w) := by
  obtain ⟨ao, ac, rfl⟩ := ha.shape
  obtain ⟨bo, bc, rfl⟩ := hb.shape
  have HA0 := Lib.hid ha
  have HB0 := Lib.hid hb
  have HMA : Hid (∀ W, Below w.heap.size w W → Calls Tryd.prog 13 #[metaAg a (.slice ao a.vers.length ac)] W fun e w' => e = .returned (.bool (mayM a)) ∧ Below W.heap.size W w') := fun W h => metaMay_any a _ W (ha.below h) sa
  have HMB : Hid (∀ W, Below w.heap.size w W → Calls Tryd.prog 13 #[metaAg b (.slice bo b.vers.length bc)] W fun e w' => e = .returned (.bool (mayM b)) ∧ Below W.heap.size W w') := fun W h => metaMay_any b _ W (hb.below h) sb
  have HCL : Hid (∀ W, Below w.heap.size w W → Calls Tryd.prog 36 #[.slice ao a.vers.length ac] W fun e w' => ∃ v', e = .returned v' ∧ Owns W.heap.size 9 1 strC w' v' a.vers ∧ Below W.heap.size W w') := fun W h => clone_any (ha.below h) sa.n
  have HMG : Hid (mergeB a b = (mayM a && mayM b && (decide (a.id.group = b.id.group) && decide (a.id.artifact = b.id.artifact)))) := rfl
  have HNE : Hid (mayM a = true → a.vers ≠ []) := fun h e => by unfold mayM at h; rw [e] at h; simp at h
  have HSA := Lib.hid sa.v
  have HSB := Lib.hid sb.v
  have HLA := Lib.hid la
  have HLB := Lib.hid lb
  have containsA : ∀ (W : World) (x : S), SliceOf 1 strC W (.slice ao a.vers.length ac) a.vers → a.vers ≠ [] → Calls Tryd.prog 33 #[.slice ao a.vers.length ac, .string x] W fun e w' => e = .returned (.bool (memB a.vers x)) ∧ W = w' := fun W x h hne => by
    obtain ⟨b0, o0, rfl, -, -⟩ := h.at1 (k := 0) (List.length_pos_iff.2 hne)
    have := containsV_any x h (Nat.le_refl _) sa.n ac
    rwa [List.take_length] at this
  have HCON := Lib.hid containsA
  clear containsA ha hb sa sb la lb
  obtain ⟨qa, hqa⟩ : ∃ q, mayM a = q := ⟨_, rfl⟩
  obtain ⟨qb, hqb⟩ : ∃ q, mayM b = q := ⟨_, rfl⟩
  rw [hqa] at HMA HMG HNE
  rw [hqb] at HMB HMG
  clear hqa hqb
  unfold metaAg metaC at HMA HMB ⊢
  obtain ⟨⟨ag, aa⟩, al, at', ar⟩ := a
  obtain ⟨⟨bg, ba⟩, bl, bt, br⟩ := b
  simp only at HMA HMB HCL HMG HNE HSA HSB HLA HLB HCON HA0 HB0 ⊢
  go_enter Tryd.func15, Tryd.ntmps15
  go_upto_region 1 with fail
  refine wp_world ?_
  intro W hW
  have x1 : Box W w.heap.size [.string ag, .string aa, .slice ao al.length ac, .string at', .string ar] := by rw [hW]; exact ((Box.new w [.string ag, .string aa, .slice ao al.length ac, .string at', .string ar] _ _ rfl).alloc _).alloc _
  have y1 : Box W (w.heap.size + 1) [.string bg, .string ba, .slice bo bl.length bc, .string bt, .string br] := by rw [hW]; exact (Box.new _ [.string bg, .string ba, .slice bo bl.length bc, .string bt, .string br] _ _ (by simp)).alloc _
  have z1 : Box W (w.heap.size + 2) metaZ := by rw [hW]; exact Box.new _ metaZ _ _ (by simp)
  have hb : Below w.heap.size w W := by rw [hW]; exact (((Below.refl _ w).alloc (Nat.le_refl _) _).alloc (by simp) _).alloc (by simp; omega) _
  clear hW
  have HX := Lib.hid x1
  have HY := Lib.hid y1
  have HZ := Lib.hid z1
  have HB := Lib.hid hb
  clear x1 y1 z1 hb
  have x0 := HX.out.cell 0 _ rfl
  have x1 := HX.out.cell 1 _ rfl
  have x2 := HX.out.cell 2 _ rfl
  have x3 := HX.out.cell 3 _ rfl
  have x4 := HX.out.cell 4 _ rfl
  have xl := HX.out.lt
  go_wp2_with fail
  refine (HMA.out W HB.out).mono ?_
  rintro e w1 ⟨rfl, hb1⟩
  have HX' := Lib.hid (HX.out.below hb1 HX.out.lt)
  have HY' := Lib.hid (HY.out.below hb1 HY.out.lt)
  have HZ' := Lib.hid (HZ.out.below hb1 HZ.out.lt)
  have HB' := Lib.hid (HB.out.trans (hb1.mono HB.out.size))
  clear hb1 HX HY HZ HB x0 x1 x2 x3 x4 xl
  have HX := HX'
  have HY := HY'
  have HZ := HZ'
  have HB := HB'
  clear HX' HY' HZ' HB'
  cases qa with
  | false =>
    have HQ : Hid (mergeB (⟨⟨ag, aa⟩, al, at', ar⟩ : MetaD) (⟨⟨bg, ba⟩, bl, bt, br⟩ : MetaD) = false) := by show _ = _; rw [HMG.out]; rfl
    go_wp2_with ((with_reducible show wpList _ _ _ (Oper.mk none (Op.store 31 (.tmp 4) (.tmp 24)) _ _ _ _ :: _) _ _); refine wpList_store_box rfl 31 (.tmp 4) (.tmp 24) rfl (w.heap.size + 2) _ metaZ rfl rfl HZ.out rfl (by kernel_rfl) (by simp [metaZ, Value.oneCell']) ?_; intro W7 v7 hg7; have HV7 := Lib.hid v7; have HB7 := Lib.hid (gr_belowV HB.out hg7 (by omega) (Nat.le_refl _)); clear v7 hg7)
    have z0 := HV7.out.cell 0 _ rfl
    have z1 := HV7.out.cell 1 _ rfl
    have z2 := HV7.out.cell 2 _ rfl
    have z3 := HV7.out.cell 3 _ rfl
    have z4 := HV7.out.cell 4 _ rfl
    have zl := HV7.out.lt
    go_wp2
    refine bodyPost_ret (v := .tuple #[.agg metaZ.toArray, .bool false]) (by simp [results, Tryd.results15, go_sem, z0, z1, z2, z3, z4, metaZ]) rfl ?_
    unfold MergeOut
    exact ⟨.slice none 0 0, [], Owns.nil, fun h => absurd (HQ.out.symm.trans h) (by decide), fun _ => rfl, HB7.out, by rw [if_neg (by rw [HQ.out]; decide)]⟩
  | true =>
    have y0 := HY.out.cell 0 _ rfl
    have y1 := HY.out.cell 1 _ rfl
    have y2 := HY.out.cell 2 _ rfl
    have y3 := HY.out.cell 3 _ rfl
    have y4 := HY.out.cell 4 _ rfl
    have yl := HY.out.lt
    go_wp2_with fail
    refine (HMB.out w1 HB.out).mono ?_
    rintro e w2 ⟨rfl, hb1⟩
    have HX' := Lib.hid (HX.out.below hb1 HX.out.lt)
    have HY' := Lib.hid (HY.out.below hb1 HY.out.lt)
    have HZ' := Lib.hid (HZ.out.below hb1 HZ.out.lt)
    have HB' := Lib.hid (HB.out.trans (hb1.mono HB.out.size))
    clear hb1 HX HY HZ HB y0 y1 y2 y3 y4 yl
    have HX := HX'
    have HY := HY'
    have HZ := HZ'
    have HB := HB'
    clear HX' HY' HZ' HB'
    cases qb with
    | false =>
      have HQ : Hid (mergeB (⟨⟨ag, aa⟩, al, at', ar⟩ : MetaD) (⟨⟨bg, ba⟩, bl, bt, br⟩ : MetaD) = false) := by show _ = _; rw [HMG.out]; rfl
      go_wp2_with ((with_reducible show wpList _ _ _ (Oper.mk none (Op.store 31 (.tmp 4) (.tmp 24)) _ _ _ _ :: _) _ _); refine wpList_store_box rfl 31 (.tmp 4) (.tmp 24) rfl (w.heap.size + 2) _ metaZ rfl rfl HZ.out rfl (by kernel_rfl) (by simp [metaZ, Value.oneCell']) ?_; intro W7 v7 hg7; have HV7 := Lib.hid v7; have HB7 := Lib.hid (gr_belowV HB.out hg7 (by omega) (Nat.le_refl _)); clear v7 hg7)
      have z0 := HV7.out.cell 0 _ rfl
      have z1 := HV7.out.cell 1 _ rfl
      have z2 := HV7.out.cell 2 _ rfl
      have z3 := HV7.out.cell 3 _ rfl
      have z4 := HV7.out.cell 4 _ rfl
      have zl := HV7.out.lt
      go_wp2
      refine bodyPost_ret (v := .tuple #[.agg metaZ.toArray, .bool false]) (by simp [results, Tryd.results15, go_sem, z0, z1, z2, z3, z4, metaZ]) rfl ?_
      unfold MergeOut
      exact ⟨.slice none 0 0, [], Owns.nil, fun h => absurd (HQ.out.symm.trans h) (by decide), fun _ => rfl, HB7.out, by rw [if_neg (by rw [HQ.out]; decide)]⟩
    | true =>
      have x0 := HX.out.cell 0 _ rfl
      have x1 := HX.out.cell 1 _ rfl
      have x2 := HX.out.cell 2 _ rfl
      have x3 := HX.out.cell 3 _ rfl
      have x4 := HX.out.cell 4 _ rfl
      have xl := HX.out.lt
      have y0 := HY.out.cell 0 _ rfl
      have y1 := HY.out.cell 1 _ rfl
      have y2 := HY.out.cell 2 _ rfl
      have y3 := HY.out.cell 3 _ rfl
      have y4 := HY.out.cell 4 _ rfl
      have yl := HY.out.lt
      obtain ⟨qi, hqi⟩ : ∃ q, (decide (ag = bg) && decide (aa = ba)) = q := ⟨_, rfl⟩
      rw [hqi] at HMG
      have hneq := neq_idV ag aa bg ba w2
      rw [hqi] at hneq
      cases qi with
      | false =>
        have HQ : Hid (mergeB (⟨⟨ag, aa⟩, al, at', ar⟩ : MetaD) (⟨⟨bg, ba⟩, bl, bt, br⟩ : MetaD) = false) := by show _ = _; rw [HMG.out]; rfl
        go_wp2_with ((with_reducible show wpList _ _ _ (Oper.mk none (Op.store 31 (.tmp 4) (.tmp 24)) _ _ _ _ :: _) _ _); refine wpList_store_box rfl 31 (.tmp 4) (.tmp 24) rfl (w.heap.size + 2) _ metaZ rfl rfl HZ.out rfl (by kernel_rfl) (by simp [metaZ, Value.oneCell']) ?_; intro W7 v7 hg7; have HV7 := Lib.hid v7; have HB7 := Lib.hid (gr_belowV HB.out hg7 (by omega) (Nat.le_refl _)); clear v7 hg7)
        have z0 := HV7.out.cell 0 _ rfl
        have z1 := HV7.out.cell 1 _ rfl
        have z2 := HV7.out.cell 2 _ rfl
        have z3 := HV7.out.cell 3 _ rfl
        have z4 := HV7.out.cell 4 _ rfl
        have zl := HV7.out.lt
        go_wp2
        refine bodyPost_ret (v := .tuple #[.agg metaZ.toArray, .bool false]) (by simp [results, Tryd.results15, go_sem, z0, z1, z2, z3, z4, metaZ]) rfl ?_
        unfold MergeOut
        exact ⟨.slice none 0 0, [], Owns.nil, fun h => absurd (HQ.out.symm.trans h) (by decide), fun _ => rfl, HB7.out, by rw [if_neg (by rw [HQ.out]; decide)]⟩
      | true =>
        have HQ : Hid (mergeB (⟨⟨ag, aa⟩, al, at', ar⟩ : MetaD) (⟨⟨bg, ba⟩, bl, bt, br⟩ : MetaD) = true) := by show _ = _; rw [HMG.out]; rfl
        go_wp2_with fail
        refine (HCL.out w2 HB.out).mono ?_
        rintro e w3 ⟨v3, rfl, ho3, hb3⟩
        obtain ⟨lo3, lc3, rfl⟩ := ho3.shape
        obtain ⟨B, hB⟩ : ∃ B, w2.heap.size = B := ⟨_, rfl⟩
        rw [hB] at ho3
        have hz := HZ.out.lt
        have HM0 : Hid (MergeAt w w3 B [.string ag, .string aa, .slice ao al.length ac, .string at', .string ar] [.string bg, .string ba, .slice bo bl.length bc, .string bt, .string br] metaZ (.slice lo3 al.length lc3) al) := ⟨by omega, by have := hb3.size; omega, HB.out.trans (hb3.mono HB.out.size), HX.out.below hb3 HX.out.lt, HY.out.below hb3 HY.out.lt, HZ.out.below hb3 HZ.out.lt, ho3⟩
        clear ho3 hb3 hB hz hneq hqi HX HY HZ HB x0 x1 x2 x3 x4 xl y0 y1 y2 y3 y4 yl HMA HMB HCL
        have y2 := HM0.out.y.cell 2 _ rfl
        have yl := HM0.out.y.lt
        go_upto_region 5 with fail
        clear y2 yl
        go_loopw [6, 31] (fun l i wr => ∃ (k ll : Nat) (lo : Option Addr) (lc : Nat), l = .slice lo ll lc ∧ i = .int .i64 k ∧ k ≤ bl.length ∧ Hid (MergeAt w wr B [.string ag, .string aa, .slice ao al.length ac, .string at', .string ar] [.string bg, .string ba, .slice bo bl.length bc, .string bt, .string br] metaZ (.slice lo ll lc) (al ++ restM al (bl.take k)))) (fun _ i _ => bl.length - (intOf i).toNat)
        case atStart => exact ⟨0, al.length, lo3, lc3, rfl, rfl, Nat.zero_le _, by rw [show al ++ restM al (bl.take 0) = al by simp [restM]]; exact HM0⟩
        case round =>
          clear HM0
          obtain ⟨k, ll, lo, lc, rfl, rfl, hk, HD⟩ := hrel
          by_cases hlt : k < bl.length
          · have HSBW := Lib.hid (HB0.out.below HD.out.below)
            have HSAW := Lib.hid (HA0.out.below HD.out.below)
            obtain ⟨bb, oo, hao, hbl, hc⟩ := HSBW.out.at1 hlt
            cases hao
            have d1 : (k : Int) < (bl.length : Int) := by omega
            have wk : IntKind.i64.wrap ((k : Int) + 1) = (k : Int) + 1 := IntWalk.i64_in _ (by have := HLB.out; omega)
            have HT := Lib.hid (restM_take (l := al) hlt)
            have HCO := Lib.hid (HCON.out wr bl[k] HSAW.out (HNE.out (by first | trivial | rfl)))
            have HKL : Hid (k + 1 ≤ bl.length) := hlt
            generalize bl[k] = xv at *
            obtain ⟨q, hq⟩ : ∃ q, memB al xv = q := ⟨_, rfl⟩
            rw [hq] at HCO HT
            clear hq
            have x2 := HD.out.x.cell 2 _ rfl
            have xl := HD.out.x.lt
            clear HSBW HSAW
            go_wp2_with fail
            refine HCO.out.mono ?_
            rintro e w2 ⟨rfl, rfl⟩
            cases q with
            | true =>
              go_wp2
              go_roundw
              case rel => exact ⟨k + 1, ll, lo, lc, rfl, by first | rfl | go_num, hlt, by rw [show restM al (bl.take (k + 1)) = restM al (bl.take k) by rw [HT.out]; simp]; exact HD⟩
              case measure => simp [intOf]; omega
            | false =>
              have HN : Hid (SliceOf 1 strC (wr.alloc (.cells #[.string xv] 9)) (.slice (some ⟨wr.heap.size, 0, none⟩) 1 1) [xv]) := by
                show SliceOf _ _ _ _ _
                simpa [strC] using sliceLit strC_lV wr [xv] 9 wr.heap.size 1 rfl rfl (by simp [maxLen])
              have HLN : Hid ((al ++ restM al (bl.take k)).length ≤ 800000) := by
                show _ ≤ _
                have h1 := restM_len al (bl.take k)
                have h2 := HLA.out
                have h3 := HLB.out
                rw [List.length_take] at h1
                rw [List.length_append]; omega
              clear hk hlt hc hbl x2 xl
              go_wp2_with (at_builtin; go_loud (refine wpList_append_slice _ rfl _ _ 29 rfl B 9 Tryd.underlying29 info_str rfl (by decide) strC_lV (.slice lo ll lc) (al ++ restM al (bl.take k)) rfl (HD.out.own.alloc _) _ [xv] rfl HN.out (strC_onesV _) (by have := HLN.out; simp only [List.length_singleton]; omega) (by decide) (by have := HD.out.size; simp; omega) ?_); intro v9 w9 hown hgrow hloc; obtain ⟨lo9, lc9, hv9⟩ := hown.shape; subst hv9)
              have HD9 := Lib.hid ((HD.out.later ((Below.refl _ wr).alloc (Nat.le_refl _) _)).put hown hgrow)
              clear hown hgrow hloc
              go_roundw
              case rel => exact ⟨k + 1, _, lo9, lc9, rfl, by first | rfl | go_num, HKL.out, by rw [show restM al (bl.take (k + 1)) = restM al (bl.take k) ++ [xv] by rw [HT.out]; simp]; rw [← List.append_assoc]; rw [show al.length + ((restM al (bl.take k)).length + 1) = (al ++ restM al (bl.take k) ++ [xv]).length by simp]; exact HD9⟩
              case measure => simp [intOf]; have := HKL.out; omega
          · obtain rfl : k = bl.length := by omega
            rw [List.take_length] at HD
            have d1 : ¬ (bl.length : Int) < (bl.length : Int) := by omega
            go_upto_region 10 with fail
            have HDL := Lib.hid HD.out.own.lt
            have HSO : Hid (∀ W, Below wr.heap.size wr W → Calls Tryd.prog 37 #[.slice lo ll lc] W fun e w' => ∃ v' M, e = .returned v' ∧ Owns W.heap.size 9 1 strC w' v' M ∧ Srt ltSV M ∧ SameE ltSV (al ++ restM al bl) M ∧ Below W.heap.size W w') := fun W h => sort_any ((HD.out.own.slice strC_lV).below h) (by rw [List.length_append]; have := restM_len al bl; have := HLA.out; have := HLB.out; omega) (fun x hx => by
              rcases List.mem_append.1 hx with h | h
              · exact HSA.out x h
              · exact restM_small HSB.out x h)
            have HOFF : Hid (∀ (M : List S) (W : World) (v : Value), SliceOf 1 strC W v M → SameE ltSV (al ++ restM al bl) M → Calls Tryd.prog 29 #[.agg #[.string ag, .string aa], v] W fun e w' => e = .returned (.agg #[.string ag, .string aa, v, .string (lastV M), .string (relV M)]) ∧ Below W.heap.size W w') := fun M W v h1 h2 => metaOf_any ⟨ag, aa⟩ M v W h1 (by rw [len_same h2, List.length_append]; have := restM_len al bl; have := HLA.out; have := HLB.out; omega) (small_same h2 (fun x hx => by
              rcases List.mem_append.1 hx with h | h
              · exact HSA.out x h
              · exact restM_small HSB.out x h)) (fun e => by have h3 := len_same h2; rw [e, List.length_append] at h3; exact HNE.out (by first | trivial | rfl) (List.eq_nil_of_length_eq_zero (by have h4 : ([] : List S).length = 0 := rfl; rw [h4] at h3; omega)))
            have x0 := HD.out.x.cell 0 _ rfl
            have x1 := HD.out.x.cell 1 _ rfl
            have xl := HD.out.x.lt
            clear HDL
            go_region_law (first
              | (go_simp; go_at_call 37; go_loud (refine (HSO.out wr.drew (belowDrew1 wr)).mono ?_; rintro e ws ⟨v', M, rfl, h1, h2, h3, h4⟩; have HM1 := Lib.hid h1; have HM2 := Lib.hid h2; have HM3 := Lib.hid h3; have HM4 := Lib.hid (HD.out.later (W := ws) ⟨h4.os, h4.tape, h4.output, h4.size, h4.block⟩); obtain ⟨so, sc, rfl⟩ := h1.shape; have HMS := Lib.hid (h1.slice strC_lV); have hs0 := HM4.out.x.cell 0 _ rfl; have hs1 := HM4.out.x.cell 1 _ rfl; have hs2 := HM4.out.x.lt; clear h1 h2 h3 h4))
              | (go_simp; go_at_call 29; go_loud (refine (HOFF.out M _ _ HMS.out HM3.out).mono ?_; rintro e wo ⟨rfl, hbo⟩; have HO4 := Lib.hid (HM4.out.later hbo); have HO1 := Lib.hid (HM1.out.below hbo); have HWS : Hid (w.heap.size + 2 < wr.heap.size) := HD.out.z.lt; have c0 : wo.cell? ⟨w.heap.size + 1 + 1, 0, none⟩ = _ := HO4.out.z.cell 0 _ rfl; have c1 : wo.cell? ⟨w.heap.size + 1 + 1, 1, none⟩ = _ := HO4.out.z.cell 1 _ rfl; have c2 : wo.cell? ⟨w.heap.size + 1 + 1, 2, none⟩ = _ := HO4.out.z.cell 2 _ rfl; have c3 : wo.cell? ⟨w.heap.size + 1 + 1, 3, none⟩ = _ := HO4.out.z.cell 3 _ rfl; have c4 : wo.cell? ⟨w.heap.size + 1 + 1, 4, none⟩ = _ := HO4.out.z.cell 4 _ rfl; have f0 : wo.frozen? ⟨w.heap.size + 1 + 1, 0, none⟩ = false := HO4.out.z.free 0; have f1 : wo.frozen? ⟨w.heap.size + 1 + 1, 1, none⟩ = false := HO4.out.z.free 1; have f2 : wo.frozen? ⟨w.heap.size + 1 + 1, 2, none⟩ = false := HO4.out.z.free 2; have f3 : wo.frozen? ⟨w.heap.size + 1 + 1, 3, none⟩ = false := HO4.out.z.free 3; have f4 : wo.frozen? ⟨w.heap.size + 1 + 1, 4, none⟩ = false := HO4.out.z.free 4; clear hbo)))
            all_goals
              obtain ⟨W7, hW⟩ : ∃ W, ((((wo.setCell ⟨w.heap.size + 1 + 1, 0, none⟩ (.string ag)).setCell ⟨w.heap.size + 1 + 1, 1, none⟩ (.string aa)).setCell ⟨w.heap.size + 1 + 1, 2, none⟩ (.slice so M.length sc)).setCell ⟨w.heap.size + 1 + 1, 3, none⟩ (.string (lastV M))).setCell ⟨w.heap.size + 1 + 1, 4, none⟩ (.string (relV M)) = W := ⟨_, rfl⟩
              rw [hW]
              have h5 : Box W7 (w.heap.size + 2) [.string ag, .string aa, .slice so M.length sc, .string (lastV M), .string (relV M)] ∧ wo.grownBy W7 (some (w.heap.size + 2)) := by rw [← hW]; exact box5 HO4.out.z
              obtain ⟨v7, hg7⟩ := h5
              have HV7 := Lib.hid v7
              have HB7 := Lib.hid (gr_belowV HO4.out.below hg7 (by omega) (Nat.le_refl _))
              have HO7 := Lib.hid ((HO1.out.keptR hg7 HWS.out).base_mono (Nat.le_of_lt (Nat.lt_of_le_of_lt (Nat.le_add_right _ 2) HWS.out)))
              clear v7 hg7 hW c0 c1 c2 c3 c4 f0 f1 f2 f3 f4
              have z0 := HV7.out.cell 0 _ rfl
              have z1 := HV7.out.cell 1 _ rfl
              have z2 := HV7.out.cell 2 _ rfl
              have z3 := HV7.out.cell 3 _ rfl
              have z4 := HV7.out.cell 4 _ rfl
              have zl := HV7.out.lt
              go_wp2
              refine bodyPost_ret (v := .tuple #[.agg #[.string ag, .string aa, .slice so M.length sc, .string (lastV M), .string (relV M)], .bool true]) (by simp [results, Tryd.results15, go_sem, z0, z1, z2, z3, z4]) rfl ?_
              unfold MergeOut
              exact ⟨_, M, HO7.out, fun _ => ⟨HM2.out, HM3.out⟩, fun h => absurd (HQ.out.symm.trans h) (by decide), HB7.out, by rw [if_pos HQ.out]; rfl⟩

end Go.Proofs.YtecffghcpknmjaaDoor

/- The walk of the document's Put; the conditions stand in the theorem. -/
namespace Go.Proofs.YtecffghcpknmjaaDoor
open Go Go.RowKit

def RefMayOk : Prop := ∀ (g : Gav) (w : World), gavSm g → Calls Tryd.prog 56 #[.agg #[.string g.group, .string g.artifact, .string g.version]] w fun e w' => e = .returned (.bool (gavMay g)) ∧ Below w.heap.size w w'
def putG (gs : List Gav) (g : Gav) : Bool := gavMay g && (decide (g ∉ gs) && decide (gs.length < 1024))
/-- What the document's Put leaves. -/
def DocOut (G : Nat → Prop) (b : Nat) (gs : List Gav) (g : Gav) (w w' : World) : Prop := Only G w w' ∧ ∃ G' vg vt vr ts rs, DocIn G' w' b vg vt vr (if putG gs g = true then gs ++ [g] else gs) ts rs ∧ (∀ k, k < w.heap.size → G' k → G k) ∧ ts.length ≤ (if putG gs g = true then gs ++ [g] else gs).length ∧ rs.length ≤ (if putG gs g = true then gs ++ [g] else gs).length
theorem step_append_sliceP {α : Type} {P : Program} {ops : Array Oper} {E : Prop} (w : World) {o : Oper} {a : Act} {K : Act → World → Prop} {Q : Exit → Act → World → Prop} (hgd : o.guard = none) (s x : Operand) (t : TypeId)
    (ho : o.op = .call { callee := .builtin .append, args := #[s, x], argTypes := #[t, t] })
    (base : Nat) (e : TypeId) {z : Value} {size bytes : Nat} (ht : P.underlying t = some (.slice e)) (hinfo : (P.info? e).map (fun i => (i.zero, i.size, i.bytes)) = some (some z, size, bytes)) (hzs : z.cells.size = size) (hsz : 0 < size) {C : α → List Value} (hC : ∀ y, (C y).length = size)
    (v : Value) (l : List α) (hs : a.eval s = v) (hown : Owns base e size C w v l) (v2 : Value) (l2 : List α) (hx : a.eval x = v2) (hsl : SliceOf size C w v2 l2) (h1 : ∀ y ∈ l2, ∀ u ∈ C y, u.oneCell' = true)
    (hbytes : (l.length + l2.length) * bytes ≤ 140737488355328) (hb0 : 0 < bytes) (hbase : base ≤ w.heap.size)
    (h : ∀ ao n cap w', Owns base e size C w' (.slice ao n cap) (l ++ l2) → w.grownBy w' v.ownBlock → ((Value.slice ao n cap).ownBlock = v.ownBlock ∨ (Value.slice ao n cap).ownBlock = some w.heap.size) → K (a.put o.dst (.slice ao n cap)) w') :
    if Region.wanted o (yielded ops a.tmps) = true then Oper.wp P o a w K Q else E := by
  have hw : Region.wanted o (yielded ops a.tmps) = true := by simp [Region.wanted, hgd]
  rw [if_pos hw]
  refine wp_append_slice w s x t ho base e ht hinfo hzs hsz hC v l hs hown v2 l2 hx hsl h1 hbytes hb0 hbase fun v' w' h2 h3 h4 => ?_
  obtain ⟨ao, cap, rfl⟩ := h2.shape
  exact h ao _ cap w' h2 h3 h4
theorem only_put {G : Nat → Prop} {w w1 W : World} {b c : Nat} {v v' : Value} (hb : Below w.heap.size w w1) (hg : w1.grownBy W v.ownBlock) (hv : ∀ j, v.ownBlock = some j → G j) (gb : G b) : Only G w (W.setCell ⟨b, c, none⟩ v') :=
  have h2 := setCell_grown W b c v'
  have s1 := hb.size
  have s2 := hg.size
  ⟨h2.os.trans (hg.os.trans hb.os), h2.tape.trans (hg.tape.trans hb.tape), h2.output.trans (hg.output.trans hb.output), Nat.le_trans s1 (Nat.le_trans s2 h2.size), fun k hk hn =>
    (h2.block k (by omega) (fun e => by cases e; exact hn gb)).trans ((hg.block k (by omega) (fun e => hn (hv k e.symm))).trans (hb.block k hk))⟩
theorem docOut_yes {G F1 F2 G' : Nat → Prop} {b : Nat} {gs : List Gav} {g : Gav} {w w2 w3 w4 w5 : World} {vg vt vr : Value} {ts : List S} {rs : List Bool} (hp : putG gs g = true) (hb : Below w.heap.size w w2) (o0 : Only G w2 w3) (o1 : Only F1 w3 w4) (o2 : Only F2 w4 w5)
    (hd : DocIn G' w5 b vg vt vr (gs ++ [g]) ts rs) (h1 : ∀ k, k < w.heap.size → F1 k → G k) (h2 : ∀ k, k < w.heap.size → F2 k → G k) (h3 : ∀ k, k < w.heap.size → G' k → G k) (ht : ts.length ≤ gs.length + 1) (hr : rs.length ≤ gs.length + 1) : DocOut G b gs g w w5 :=
  ⟨(((Only.of (F := G) hb).trans o0 fun _ _ h => h).trans o1 h1).trans o2 h2, _, vg, vt, vr, ts, rs, by rw [if_pos hp]; exact hd, h3, by rw [if_pos hp, List.length_append]; exact ht, by rw [if_pos hp, List.length_append]; exact hr⟩
theorem info_gavV : (Tryd.prog.info? 60).map (fun i => (i.size, i.bytes)) = some (3, 48) := by kernel_rfl
theorem info_gavP : (Tryd.prog.info? 60).map (fun i => (i.zero, i.size, i.bytes)) = some (some (.agg #[.string ⟨#[]⟩, .string ⟨#[]⟩, .string ⟨#[]⟩]), 3, 48) := by kernel_rfl
theorem gavC_lenP (g : Gav) : (gavC g).length = 3 := rfl
theorem gavC_onesP (l : List Gav) : ∀ y ∈ l, ∀ u ∈ gavC y, u.oneCell' = true := by
  intro y _ u hu
  simp [gavC] at hu
  rcases hu with rfl | rfl | rfl <;> rfl
set_option maxRecDepth 100000 in
set_option maxHeartbeats 4000000 in
theorem docPut_of (HRM : RefMayOk) (g : Gav) (s : S) (w : World) {G : Nat → Prop} {b : Nat} {vg vt vr : Value} {gs : List Gav} {ts : List S} {rs : List Bool} (h : DocIn G w b vg vt vr gs ts rs) (hl : gs.length ≤ 1000) (ht : ts.length ≤ gs.length) (hr : rs.length ≤ gs.length) (hg : gavSm g) :
    Calls Tryd.prog 27 #[ptr b, .agg #[.string g.group, .string g.artifact, .string g.version], .string s] w fun e w' => (∃ i : Int, e = .returned (.int .i64 i)) ∧ DocOut G b gs g w w' := by
  have HD := Lib.hid h
  have HL := Lib.hid hl
  have HT := Lib.hid ht
  have HR := Lib.hid hr
  have HM : Hid (∀ W, Calls Tryd.prog 56 #[.agg #[.string g.group, .string g.artifact, .string g.version]] W fun e w' => e = .returned (.bool (gavMay g)) ∧ Below W.heap.size W w') := fun W => HRM g W hg
  have HA : Hid (∀ W, Below w.heap.size w W → Calls Tryd.prog 57 #[.pointer (some ⟨b, 0, none⟩), .agg #[.string g.group, .string g.artifact, .string g.version]] W fun e w' => ∃ i : Int, e = .returned (.int .i64 i) ∧ (0 ≤ i ↔ g ∈ gs) ∧ Below W.heap.size W w') := fun W hb => docAt_any g b _ _ _ _ gs W (h.below hb).box ((h.below hb).g.slice (fun _ => rfl)) (by omega)
  have HNO : Hid (putG gs g = false → ∀ W, Below w.heap.size w W → DocOut G b gs g w W) := fun hp W hb => ⟨Only.of hb, G, vg, vt, vr, ts, rs, by rw [hp]; exact h.below hb, fun _ _ => id, by rw [hp]; exact ht, by rw [hp]; exact hr⟩
  have HP : Hid (putG gs g = (gavMay g && (decide (g ∉ gs) && decide (gs.length < 1024)))) := rfl
  clear h hl ht hr hg HRM
  obtain ⟨q, hq⟩ : ∃ q, gavMay g = q := ⟨_, rfl⟩
  rw [hq] at HM HP
  clear hq
  unfold ptr
  obtain ⟨gg, ga, gv⟩ := g
  simp only at HM HA ⊢
  go_enter Tryd.func27, Tryd.ntmps27
  go_upto_region 1 with fail
  refine wp_world ?_
  intro W hW
  have y1 : Box W w.heap.size [.string gg, .string ga, .string gv] := by rw [hW]; exact Box.new w [.string gg, .string ga, .string gv] _ _ rfl
  have hb : Below w.heap.size w W := by rw [hW]; exact (Below.refl _ w).alloc (Nat.le_refl _) _
  clear hW
  have HY := Lib.hid y1
  have HB := Lib.hid hb
  have y0 := y1.cell 0 _ rfl
  have y2 := y1.cell 1 _ rfl
  have y3 := y1.cell 2 _ rfl
  have yl := y1.lt
  clear y1 hb
  go_wp2_with fail
  refine (HM.out _).mono ?_
  rintro e w1 ⟨rfl, hb1⟩
  have HY1 := Lib.hid (HY.out.below hb1 HY.out.lt)
  have HB1 := Lib.hid (HB.out.trans (hb1.mono HB.out.size))
  clear hb1 y0 y2 y3 yl HY HB
  cases q with
  | false =>
    have HF : Hid (putG gs ⟨gg, ga, gv⟩ = false) := by show _ = _; rw [HP.out]; rfl
    go_wp2
    go_ret
    exact ⟨⟨1, rfl⟩, HNO.out HF.out _ HB1.out⟩
  | true =>
    have y0 := HY1.out.cell 0 _ rfl
    have y2 := HY1.out.cell 1 _ rfl
    have y3 := HY1.out.cell 2 _ rfl
    have yl := HY1.out.lt
    go_wp2_with fail
    refine (HA.out _ HB1.out).mono ?_
    rintro e w2 ⟨i, rfl, hi, hb1⟩
    have HY2 := Lib.hid (HY1.out.below hb1 HY1.out.lt)
    have HB2 := Lib.hid (HB1.out.trans (hb1.mono HB1.out.size))
    clear hb1 y0 y2 y3 yl HY1 HB1
    by_cases h0 : 0 ≤ i
    · have HF : Hid (putG gs ⟨gg, ga, gv⟩ = false) := by show _ = _; rw [HP.out, show decide ((⟨gg, ga, gv⟩ : Gav) ∉ gs) = false from decide_eq_false (fun hn => hn (hi.1 h0))]; rfl
      have e1 : decide (0 ≤ i) = true := decide_eq_true h0
      clear hi HA HM
      go_wp2
      go_ret
      exact ⟨⟨4, rfl⟩, HNO.out HF.out _ HB2.out⟩
    · have HF : Hid (putG gs ⟨gg, ga, gv⟩ = true) := by show _ = _; rw [HP.out, show decide ((⟨gg, ga, gv⟩ : Gav) ∉ gs) = true from decide_eq_true (fun hn => h0 (hi.2 hn)), decide_eq_true (by have := HL.out; omega)]; rfl
      have e1 : decide (0 ≤ i) = false := decide_eq_false h0
      clear hi
      have HD2 := Lib.hid (HD.out.below HB2.out)
      obtain ⟨go, gc, rfl⟩ := HD2.out.g.shape
      have b0 := HD2.out.box.cell 0 _ rfl
      have bl := HD2.out.box.lt
      have e2 : ¬ (1024 : Int) ≤ (gs.length : Int) := by have := HL.out; omega
      have e3 : decide ((1024 : Int) ≤ (gs.length : Int)) = false := decide_eq_false e2
      have e4 : decide (1024 ≤ gs.length) = false := decide_eq_false (by have := HL.out; omega)
      clear HA HM HNO HD HP
      go_upto_region 7 with fail
      clear b0 bl e1 e2 e3 e4
      have HN : Hid (SliceOf 3 gavC (w2.drew.alloc (.cells #[.string gg, .string ga, .string gv] 60)) (.slice (some ⟨w2.heap.size, 0, none⟩) 1 1) [(⟨gg, ga, gv⟩ : Gav)]) := by
        show SliceOf _ _ _ _ _
        simpa [gavC] using sliceLit gavC_lenP w2.drew [(⟨gg, ga, gv⟩ : Gav)] 60 w2.heap.size 1 rfl rfl (by simp [maxLen])
      have HBA : Hid (Below w2.heap.size w2 (w2.drew.alloc (.cells #[.string gg, .string ga, .string gv] 60))) := (show Below w2.heap.size w2 w2.drew from ⟨rfl, rfl, rfl, Nat.le_refl _, fun _ _ => rfl⟩).trans ((Below.refl _ w2.drew).alloc (Nat.le_refl _) _)
      have HDA := Lib.hid (HD2.out.below HBA.out)
      have b0 := HD2.out.box.cell 0 _ rfl
      have bl := HD2.out.box.lt
      have bf := HD2.out.box.free 0
      have y0 := HY2.out.cell 0 _ rfl
      have y1 := HY2.out.cell 1 _ rfl
      have y2 := HY2.out.cell 2 _ rfl
      have yl := HY2.out.lt
      go_region_law (refine step_append_sliceP _ rfl (.tmp 24) (.tmp 26) 55 rfl 0 60 Tryd.underlying55 info_gavP rfl (by decide) gavC_lenP (.slice go gs.length gc) gs (by simp [Act.eval]) HDA.out.g _ [(⟨gg, ga, gv⟩ : Gav)] (by simp [Act.eval]) HN.out (gavC_onesP _) (by have h1 := HL.out; have h2 := HT.out; have h3 := HR.out; simp only [List.length_singleton]; omega) (by decide) (Nat.zero_le _) ?_; intro a8 n8 c8 w8 ho8 hg8 hl8; have HO8 := Lib.hid ho8; have HG8 := Lib.hid hg8; have HL8 := Lib.hid hl8; have c8b : w8.cell? ⟨b, 0, none⟩ = _ := (HDA.out.box.grown hg8 (fun e => (HDA.out.gg b e.symm).2 rfl)).cell 0 _ rfl; have f8b : w8.frozen? ⟨b, 0, none⟩ = false := (HDA.out.box.grown hg8 (fun e => (HDA.out.gg b e.symm).2 rfl)).free 0; clear ho8 hg8 hl8)
      all_goals
        obtain ⟨w3, hW⟩ : ∃ W, w8.setCell ⟨b, 0, none⟩ (.slice a8 n8 c8) = W := ⟨_, rfl⟩
        rw [hW]
        have hd := HDA.out.putG HO8.out HG8.out HL8.out
        rw [hW] at hd
        have HD3 := Lib.hid hd
        have hon := only_put (c := 0) (v' := .slice a8 n8 c8) HBA.out HG8.out (fun j hj => (HDA.out.gg j hj).1) HDA.out.gb
        rw [hW] at hon
        have HON0 := Lib.hid hon
        clear hd hW hon HN HBA HDA HO8 HG8 HL8 c8b f8b b0 bl bf y0 y1 y2 yl
        clear HD2
        try simp only [Act.put, List.getElem_toArray, List.getElem_cons_succ, List.getElem_cons_zero, List.setIfInBounds_toArray, List.set_cons_succ, List.set_cons_zero]
        go_upto_region 8 with fail
        obtain ⟨tso, tsc, rfl⟩ := HD3.out.t.shape
        have HN : Hid (SliceOf 1 strC (w3.alloc (.cells #[.string s] 9)) (.slice (some ⟨w3.heap.size, 0, none⟩) 1 1) [s]) := by
          show SliceOf _ _ _ _ _
          simpa [strC] using sliceLit strC_lV w3 [s] 9 w3.heap.size 1 rfl rfl (by simp [maxLen])
        have HBA : Hid (Below w3.heap.size w3 (w3.alloc (.cells #[.string s] 9))) := (Below.refl _ w3).alloc (Nat.le_refl _) _
        have HDA := Lib.hid (HD3.out.below HBA.out)
        have b0 := HD3.out.box.cell 1 _ rfl
        have bl := HD3.out.box.lt
        have bf := HD3.out.box.free 1
        go_upto_region 9 with (at_builtin; go_loud (refine wpList_append_slice _ rfl _ _ 29 rfl 0 9 Tryd.underlying29 info_str rfl (by decide) strC_lV (.slice tso ts.length tsc) ts rfl HDA.out.t _ [s] rfl HN.out (strC_onesV _) (by have h1 := HL.out; have h2 := HT.out; have h3 := HR.out; simp only [List.length_singleton]; omega) (by decide) (Nat.zero_le _) ?_; intro v8 w8 ho8 hg8 hl8; obtain ⟨a8, c8, hv8⟩ := ho8.shape; subst hv8; rw [List.length_append, List.length_singleton] at ho8 hl8; have HO8 := Lib.hid ho8; have HG8 := Lib.hid hg8; have HL8 := Lib.hid hl8; have c8b : w8.cell? ⟨b, 1, none⟩ = _ := (HDA.out.box.grown hg8 (fun e => (HDA.out.gt b e.symm).2 rfl)).cell 1 _ rfl; have f8b : w8.frozen? ⟨b, 1, none⟩ = false := (HDA.out.box.grown hg8 (fun e => (HDA.out.gt b e.symm).2 rfl)).free 1; clear ho8 hg8 hl8))
        refine wp_world ?_
        intro w4 hW
        have hd := HDA.out.putT HO8.out HG8.out HL8.out
        rw [← hW] at hd
        have HD4 := Lib.hid hd
        have hon := only_put (c := 1) (v' := .slice a8 (ts.length + 1) c8) HBA.out HG8.out (fun j hj => (HDA.out.gt j hj).1) HDA.out.gb
        rw [← hW] at hon
        have HON1 := Lib.hid hon
        clear hd hW hon HN HBA HDA HO8 HG8 HL8 c8b f8b b0 bl bf
        clear HD3
        obtain ⟨ro, rc, rfl⟩ := HD4.out.r.shape
        have HN : Hid (SliceOf 1 boolC (w4.alloc (.cells #[.bool false] 4)) (.slice (some ⟨w4.heap.size, 0, none⟩) 1 1) [false]) := by
          show SliceOf _ _ _ _ _
          simpa [boolC] using sliceLit boolC_len w4 [false] 4 w4.heap.size 1 rfl rfl (by simp [maxLen])
        have HBA : Hid (Below w4.heap.size w4 (w4.alloc (.cells #[.bool false] 4))) := (Below.refl _ w4).alloc (Nat.le_refl _) _
        have HDA := Lib.hid (HD4.out.below HBA.out)
        have b0 := HD4.out.box.cell 2 _ rfl
        have bl := HD4.out.box.lt
        have bf := HD4.out.box.free 2
        go_upto_region 10 with (at_builtin; go_loud (refine wpList_append_slice _ rfl _ _ 56 rfl 0 4 Tryd.underlying56 info_bl rfl (by decide) boolC_len (.slice ro rs.length rc) rs rfl HDA.out.r _ [false] rfl HN.out (boolC_ones _) (by have h1 := HL.out; have h2 := HT.out; have h3 := HR.out; simp only [List.length_singleton]; omega) (by decide) (Nat.zero_le _) ?_; intro v8 w8 ho8 hg8 hl8; obtain ⟨a8, c8, hv8⟩ := ho8.shape; subst hv8; rw [List.length_append, List.length_singleton] at ho8 hl8; have HO8 := Lib.hid ho8; have HG8 := Lib.hid hg8; have HL8 := Lib.hid hl8; have c8b : w8.cell? ⟨b, 2, none⟩ = _ := (HDA.out.box.grown hg8 (fun e => (HDA.out.gr b e.symm).2 rfl)).cell 2 _ rfl; have f8b : w8.frozen? ⟨b, 2, none⟩ = false := (HDA.out.box.grown hg8 (fun e => (HDA.out.gr b e.symm).2 rfl)).free 2; clear ho8 hg8 hl8))
        refine wp_world ?_
        intro w5 hW
        have hd := HDA.out.putR HO8.out HG8.out HL8.out
        rw [← hW] at hd
        have HD5 := Lib.hid hd
        have hon := only_put (c := 2) (v' := .slice a8 (rs.length + 1) c8) HBA.out HG8.out (fun j hj => (HDA.out.gr j hj).1) HDA.out.gb
        rw [← hW] at hon
        have HON2 := Lib.hid hon
        clear hd hW hon HN HBA HDA HO8 HG8 HL8 c8b f8b b0 bl bf
        clear HD4
        go_wp2
        go_ret
        exact ⟨⟨0, rfl⟩, docOut_yes HF.out HB2.out HON0.out HON1.out HON2.out HD5.out (fun k hk h => by have s1 := HB2.out.size; rcases h with h | h; exact h; simp at h; omega) (fun k hk h => by have s1 := HB2.out.size; have s2 := HON0.out.size; rcases h with (h | h) | h; exact h; simp at h; omega; simp at h; omega) (fun k hk h => by have s1 := HB2.out.size; have s2 := HON0.out.size; have s3 := HON1.out.size; rcases h with ((h | h) | h) | h; exact h; simp at h; omega; simp at h; omega; simp at h; omega) (by rw [List.length_append]; have := HT.out; simp; omega) (by rw [List.length_append]; have := HR.out; simp; omega)⟩

end Go.Proofs.YtecffghcpknmjaaDoor
