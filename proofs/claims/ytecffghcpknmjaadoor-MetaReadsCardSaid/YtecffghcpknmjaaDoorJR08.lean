/- The walks of the store's Versions and of meta.Of; the example of the Metas' statements; the conditions stand in the theorems. -/
import Derived.Test.YtecffghcpknmjaaDoorJR05
import Derived.Test.YtecffghcpknmjaaDoorJR07
import Derived.Lib.Strings
import Derived.WalkKit
import Derived.WalkSpells
import Derived.WalkLawsBesides
import Derived.Deep.QuietTactic
import Derived.BigQuiet
import Derived.Lib.Hide
import Derived.LoopTactic
import Derived.Test.YtecffghcpknmjaaDoorShelf
import Derived.StillTailTactics

namespace Go.Proofs.YtecffghcpknmjaaDoor
open Go Go.RowKit

/-- What Versions answers: the versions of an id in the stable order, in a row of its own. -/
def VersOut (l : List S) (w : World) (e : Ending) (w' : World) : Prop := ∃ v' M, e = .returned v' ∧ Owns w.heap.size 9 1 strC w' v' M ∧ Srt ltSV M ∧ SameE ltSV l M ∧ Below w.heap.size w w'
set_option maxRecDepth 100000 in
theorem versions_any (x : Id) (w : World) {F : Nat → Prop} {b : Nat} {es : List (SEnt × Nat)} {r a : Int} (h : StoreAt F w b es r a) (hl : (versOf es x).length ≤ 1000000) (hs : AllSmall (versOf es x)) :
    Calls Tryd.prog 28 #[ptr b, .agg #[.string x.group, .string x.artifact]] w (VersOut (versOf es x) w) := by
  obtain ⟨me, mv, L, cl, V, cv, h⟩ := h
  have hrow := (h.rowV_owns x).slice strC_lV
  have hlt := h.box.lt
  have HS := Lib.hid h
  have HR := Lib.hid hrow
  have HL := Lib.hid hl
  have HSM := Lib.hid hs
  clear h hrow hl hs
  generalize versOf es x = l at *
  unfold ptr
  go_enter Tryd.func28, Tryd.ntmps28
  go_upto_region 1 with fail
  refine wp_world ?_
  intro W hW
  have hx : Box W w.heap.size [.string x.group, .string x.artifact] := by rw [hW]; exact Box.new w [.string x.group, .string x.artifact] _ _ rfl
  have hb : Below w.heap.size w W := by rw [hW]; exact (Below.refl _ _).alloc (Nat.le_refl _) _
  clear hW
  have HB := Lib.hid hb
  have x0 := hx.cell 0 _ rfl
  have x1 := hx.cell 1 _ rfl
  have lx := hx.lt
  have b1 := (HS.out.box.below hb hlt).cell 1 _ rfl
  have lb := (HS.out.box.below hb hlt).lt
  have hm := HS.out.vers.below hb HS.out.vers.lt
  have hlk : ∀ z : Later W, (Instr.lookup 88 (.map (some mv)) (.agg #[.string x.group, .string x.artifact]) false).run Tryd.prog z.at_ = .ok (rowV V x) z.at_ := fun z => look_row x (hm.below z.below hm.lt)
  have HRW := Lib.hid (HR.out.below hb)
  clear hx hb hm hlt HR HS
  have hLC := @Later.cells W
  go_wp2_with fail
  refine region_later_tail 6 (by kernel_rfl) (by kernel_rfl) ?_
  simp only [List.take_succ_cons, List.take_zero, List.drop_succ_cons, List.drop_zero]
  repeat (go_big_quiet_step (fail))
  refine wpQuiet_nil ?_
  rintro _ ⟨nx, rfl⟩
  have HRN := Lib.hid (HRW.out.below nx.below)
  have HBN := Lib.hid (HB.out.trans (nx.below.mono HB.out.size))
  clear hlk hLC x0 x1 lx b1 lb HRW HB
  generalize nx.at_ = wn at *
  have HSO := Lib.hid (sort_any HRN.out HL.out HSM.out)
  generalize rowV V x = rv at *
  go_wp2_with fail
  refine HSO.out.mono ?_
  rintro e w2 ⟨v', M, rfl, h1, h2, h3, h4⟩
  have H1 := Lib.hid (h1.base_mono HBN.out.size)
  have H2 := Lib.hid h2
  have H3 := Lib.hid h3
  have H4 := Lib.hid (HBN.out.trans (h4.mono HBN.out.size))
  clear h1 h2 h3 h4
  go_wp2
  go_ret
  exact ⟨_, M, rfl, H1.out, H2.out, H3.out, H4.out⟩
theorem small_same {l M : List S} (h : SameE ltSV l M) (hs : AllSmall l) : AllSmall M := fun x hx => hs x (h.symm.mem ltSV_weak hx)
theorem len_same {l M : List S} (h : SameE ltSV l M) : M.length = l.length := (h.perm ltSV_weak).length_eq.symm
/-- What meta.Of answers. -/
def MetaOut (d : Id) (l : List S) (w : World) (e : Ending) (w' : World) : Prop := ∃ v' M, Owns w.heap.size 9 1 strC w' v' M ∧ Srt ltSV M ∧ SameE ltSV l M ∧ Below w.heap.size w w' ∧
  e = .returned (.tuple (if l = [] then #[.agg metaZ.toArray, .bool false] else #[metaAg ⟨d, M, lastV M, relV M⟩ v', .bool true]))
set_option maxRecDepth 100000 in
set_option maxHeartbeats 4000000 in
theorem metaOfS_any (x : Id) (w : World) {F : Nat → Prop} {b : Nat} {es : List (SEnt × Nat)} {r a : Int} (h : StoreAt F w b es r a) (hl : (versOf es x).length ≤ 1000000) (hs : AllSmall (versOf es x)) :
    Calls Tryd.prog 8 #[ptr b, .agg #[.string x.group, .string x.artifact]] w (MetaOut x (versOf es x) w) := by
  have HV : Hid (∀ W, Below w.heap.size w W → Calls Tryd.prog 28 #[ptr b, .agg #[.string x.group, .string x.artifact]] W (VersOut (versOf es x) W)) := fun W hb => versions_any x W (h.below hb) hl hs
  have HL := Lib.hid hl
  have HSM := Lib.hid hs
  clear h hl hs
  generalize versOf es x = l at *
  unfold ptr at *
  go_enter Tryd.func8, Tryd.ntmps8
  go_upto_region 1 with fail
  refine wp_world ?_
  intro W hW
  have x1 : Box W w.heap.size [.string x.group, .string x.artifact] := by rw [hW]; exact (Box.new w [.string x.group, .string x.artifact] _ _ rfl).alloc _
  have y1 : Box W (w.heap.size + 1) metaZ := by rw [hW]; exact Box.new _ metaZ _ _ (by simp)
  have hb : Below w.heap.size w W := by rw [hW]; exact ((Below.refl _ w).alloc (Nat.le_refl _) _).alloc (by simp) _
  clear hW
  have HX := Lib.hid x1
  have HY := Lib.hid y1
  have HB := Lib.hid hb
  have x0 := x1.cell 0 _ rfl
  have x1' := x1.cell 1 _ rfl
  have xl := x1.lt
  clear x1 y1 hb
  go_wp2_with fail
  refine (HV.out W HB.out).mono ?_
  rintro e w1 ⟨v', M, rfl, h1, h2, h3, h4⟩
  have HO1 := Lib.hid h1
  have HWS := Lib.hid HY.out.lt
  have HWB := Lib.hid HB.out.size
  have HSL1 := Lib.hid (h1.slice strC_lV)
  have H2 := Lib.hid h2
  have H3 := Lib.hid h3
  have HX1 := Lib.hid (HX.out.below h4 HX.out.lt)
  have HY1 := Lib.hid (HY.out.below h4 HY.out.lt)
  have HB1 := Lib.hid (HB.out.trans (h4.mono HB.out.size))
  obtain ⟨ao, c, rfl⟩ := h1.shape
  have HLM := Lib.hid (len_same h3)
  have HSS := Lib.hid (small_same h3 HSM.out)
  clear h1 h2 h3 h4 x0 x1' xl HX HY HB HV
  by_cases h0 : l = []
  · have hm0 : M = [] := List.eq_nil_of_length_eq_zero (by have := HLM.out; rw [h0] at this; exact this)
    subst h0 hm0
    go_wp2_with ((with_reducible show wpList _ _ _ (Oper.mk none (Op.store 31 (.tmp 4) (.tmp 13)) _ _ _ _ :: _) _ _); refine wpList_store_box rfl 31 (.tmp 4) (.tmp 13) rfl (w.heap.size + 1) _ metaZ rfl rfl HY1.out rfl (by kernel_rfl) (by simp [metaZ, Value.oneCell']) ?_; intro W7 v7 hg7; have HV7 := Lib.hid v7; have HB7 := Lib.hid (gr_belowV HB1.out hg7 (by omega) (Nat.le_refl _)); have HO7 := Lib.hid ((HO1.out.keptR hg7 HWS.out).base_mono HWB.out); clear v7 hg7)
    have z0 := HV7.out.cell 0 _ rfl
    have z1 := HV7.out.cell 1 _ rfl
    have z2 := HV7.out.cell 2 _ rfl
    have z3 := HV7.out.cell 3 _ rfl
    have z4 := HV7.out.cell 4 _ rfl
    have zl := HV7.out.lt
    clear HY1 HX1 HB1
    go_wp2
    refine bodyPost_ret (v := .tuple #[.agg metaZ.toArray, .bool false]) (by simp [results, Tryd.results8, go_sem, z0, z1, z2, z3, z4, metaZ]) rfl ?_
    exact ⟨_, [], HO7.out, H2.out, H3.out, HB7.out, by rw [if_pos rfl]⟩
  · have hne : M ≠ [] := fun e => h0 (List.eq_nil_of_length_eq_zero (by rw [← show M.length = _ from HLM.out, e]; rfl))
    have hm1 : 1 ≤ M.length := by have := List.length_pos_iff.2 hne; omega
    have e0 : ((M.length : Int) == 0) = false := by rw [beq_eq_false_iff_ne]; omega
    have e0n : (M.length == 0) = false := by rw [beq_eq_false_iff_ne]; omega
    have HOF : Hid (Calls Tryd.prog 29 #[.agg #[.string x.group, .string x.artifact], .slice ao M.length c] w1 fun e w' => e = .returned (.agg #[.string x.group, .string x.artifact, .slice ao M.length c, .string (lastV M), .string (relV M)]) ∧ Below w1.heap.size w1 w') := metaOf_any x M _ w1 HSL1.out (by have := HLM.out; have := HL.out; omega) HSS.out hne
    have HR : Hid (MetaOut x l w = fun e w' => ∃ v' M, Owns w.heap.size 9 1 strC w' v' M ∧ Srt ltSV M ∧ SameE ltSV l M ∧ Below w.heap.size w w' ∧ e = .returned (.tuple #[metaAg ⟨x, M, lastV M, relV M⟩ v', .bool true])) := by show _ = _; unfold MetaOut; simp only [if_neg h0]
    obtain ⟨la, hla⟩ : ∃ y, lastV M = y := ⟨_, rfl⟩
    obtain ⟨re, hre⟩ : ∃ y, relV M = y := ⟨_, rfl⟩
    rw [hla, hre] at HOF
    have HLA := Lib.hid hla
    have HRE := Lib.hid hre
    have x0 := HX1.out.cell 0 _ rfl
    have x1' := HX1.out.cell 1 _ rfl
    have xl := HX1.out.lt
    clear h0 hne hla hre HSS HSL1 hm1
    go_wp2_with fail
    refine HOF.out.mono ?_
    rintro e w2 ⟨rfl, hb2⟩
    have HY2 := Lib.hid (HY1.out.below hb2 HY1.out.lt)
    have HB2 := Lib.hid (HB1.out.trans (hb2.mono HB1.out.size))
    have HO2 := Lib.hid (HO1.out.below hb2)
    clear hb2 x0 x1' xl HX1 HY1 HB1 HO1 HOF
    go_wp2_with ((with_reducible show wpList _ _ _ (Oper.mk none (Op.store 31 (.tmp 4) (.tmp 16)) _ _ _ _ :: _) _ _); refine wpList_store_box rfl 31 (.tmp 4) (.tmp 16) rfl (w.heap.size + 1) _ [.string x.group, .string x.artifact, .slice ao M.length c, .string la, .string re] rfl rfl HY2.out rfl (by kernel_rfl) (by simp [Value.oneCell']) ?_; intro W7 v7 hg7; have HV7 := Lib.hid v7; have HB7 := Lib.hid (gr_belowV HB2.out hg7 (by omega) (Nat.le_refl _)); have HO7 := Lib.hid ((HO2.out.keptR hg7 HWS.out).base_mono HWB.out); clear v7 hg7)
    have z0 := HV7.out.cell 0 _ rfl
    have z1 := HV7.out.cell 1 _ rfl
    have z2 := HV7.out.cell 2 _ rfl
    have z3 := HV7.out.cell 3 _ rfl
    have z4 := HV7.out.cell 4 _ rfl
    have zl := HV7.out.lt
    clear HY2 HB2 HO2
    go_wp2
    refine bodyPost_ret (v := .tuple #[.agg #[.string x.group, .string x.artifact, .slice ao M.length c, .string la, .string re], .bool true]) (by simp [results, Tryd.results8, go_sem, z0, z1, z2, z3, z4]) rfl ?_
    rw [HR.out]
    exact ⟨_, M, HO7.out, H2.out, H3.out, HB7.out, by rw [HLA.out, HRE.out]; rfl⟩

end Go.Proofs.YtecffghcpknmjaaDoor

/- The example of the Metas' statements is as the document says; the conditions stand in the theorem. -/
namespace Go.Proofs.YtecffghcpknmjaaDoor
open Go Go.RowKit

def gavM1 : Gav := ⟨⟨#[103]⟩, ⟨#[97]⟩, ⟨#[50, 45, 115, 110, 97, 112, 115, 104, 111, 116]⟩⟩
def gavM2 : Gav := ⟨⟨#[103]⟩, ⟨#[97]⟩, ⟨#[49]⟩⟩
def idM : Id := ⟨⟨#[103]⟩, ⟨#[97]⟩⟩
def rowM2 : List S := [⟨#[49]⟩, ⟨#[50, 45, 115, 110, 97, 112, 115, 104, 111, 116]⟩]
theorem gavM1_may : gavMay gavM1 = true := by kernel_rfl
theorem gavM2_may : gavMay gavM2 = true := by kernel_rfl
theorem rowM2_lt : ltSV ⟨#[49]⟩ ⟨#[50, 45, 115, 110, 97, 112, 115, 104, 111, 116]⟩ = true := by kernel_rfl
theorem rowM2_srt : Srt ltSV rowM2 := List.pairwise_cons.2 ⟨fun y hy => by rw [List.mem_singleton.1 hy]; exact ltSV_weak.asym _ _ rowM2_lt, srt_one _⟩
theorem rowM2_same : SameE ltSV [⟨#[50, 45, 115, 110, 97, 112, 115, 104, 111, 116]⟩, ⟨#[49]⟩] rowM2 :=
  SameE.turn ltSV_weak (u := [⟨#[50, 45, 115, 110, 97, 112, 115, 104, 111, 116]⟩]) (v := [⟨#[49]⟩]) fun a ha b hb => by rw [List.mem_singleton.1 ha, List.mem_singleton.1 hb]; exact rowM2_lt
theorem rowM2_last : lastV rowM2 = ⟨#[50, 45, 115, 110, 97, 112, 115, 104, 111, 116]⟩ := by kernel_rfl
theorem rowM2_rel : relV rowM2 = ⟨#[49]⟩ := by kernel_rfl
theorem versM {e1 e2 : Nat} : versOf ([] ++ [(freshE gavM1 ⟨#[]⟩, e1)] ++ [(freshE gavM2 ⟨#[]⟩, e2)]) idM = [⟨#[50, 45, 115, 110, 97, 112, 115, 104, 111, 116]⟩, ⟨#[49]⟩] := by
  rw [versOf_snoc, versOf_snoc]
  simp [versOf, freshE, idOf, gavM1, gavM2, idM]
theorem putM1 : putE [] gavM1 = 0 := by unfold putE; rw [gavM1_may]; simp [hasG]
theorem putM2 {e1 : Nat} : putE ([] ++ [(freshE gavM1 ⟨#[]⟩, e1)]) gavM2 = 0 := by
  unfold putE
  rw [gavM2_may]
  have : hasG ([] ++ [(freshE gavM1 ⟨#[]⟩, e1)]) gavM2 = false := by
    have hn : ¬ gavM2 = gavM1 := by decide
    simp [hasG, freshE, hn]
  rw [this]; simp
set_option maxRecDepth 100000 in
set_option maxHeartbeats 8000000 in
theorem metaLives_any (w : World) : Calls Tryd.prog 11 #[] w fun e w' => e = .returned (.bool true) ∧ Below w.heap.size w w' := by
  go_enter Tryd.func11, Tryd.ntmps11
  go_wp2_with fail
  refine (new_any w).mono ?_
  rintro e w1 ⟨b, F, rfl, hS, hF, hb1⟩
  have HS1 := Lib.hid hS
  have HF := Lib.hid hF
  have HB1 := Lib.hid hb1
  clear hS hF hb1
  have HP1 : Hid (Calls Tryd.prog 26 #[.pointer (some ⟨b, 0, none⟩), .agg #[.string ⟨#[103]⟩, .string ⟨#[97]⟩, .string ⟨#[50, 45, 115, 110, 97, 112, 115, 104, 111, 116]⟩], .string ⟨#[]⟩] w1 (PutOut F b [] 0 0 gavM1 ⟨#[]⟩ w1)) := put_any gavM1 ⟨#[]⟩ w1 HS1.out ⟨by decide, by decide, by decide⟩
  unfold ptr
  go_wp2_with fail
  refine HP1.out.mono ?_
  rintro e w2 ⟨rfl, ho2, F2, es2, hS2, hF2, -, he2⟩
  obtain ⟨eb1, rfl⟩ := he2 putM1
  rw [putM1]
  have HS2 := Lib.hid hS2
  have HF2 : Hid (∀ k, F2 k → w.heap.size ≤ k) := fun k hk => by
    by_cases h : k < w1.heap.size
    · exact HF.out k (hF2 k h hk)
    · have := HB1.out.size; omega
  have HB2 := Lib.hid (HB1.out.trans (ho2.below HB1.out.size HF.out))
  clear ho2 hS2 hF2 he2 HS1 HF HB1 HP1
  have HP2 : Hid (Calls Tryd.prog 26 #[.pointer (some ⟨b, 0, none⟩), .agg #[.string ⟨#[103]⟩, .string ⟨#[97]⟩, .string ⟨#[49]⟩], .string ⟨#[]⟩] w2 (PutOut F2 b ([] ++ [(freshE gavM1 ⟨#[]⟩, eb1)]) 0 0 gavM2 ⟨#[]⟩ w2)) := put_any gavM2 ⟨#[]⟩ w2 HS2.out ⟨by decide, by decide, by decide⟩
  go_wp2_with fail
  refine HP2.out.mono ?_
  rintro e w3 ⟨rfl, ho3, F3, es3, hS3, -, -, he3⟩
  obtain ⟨eb2, rfl⟩ := he3 putM2
  rw [putM2]
  have HB3 := Lib.hid (HB2.out.trans (ho3.below HB2.out.size HF2.out))
  have hmo := metaOfS_any idM w3 hS3 (by rw [versM]; decide) (by rw [versM]; intro x hx; simp at hx; rcases hx with rfl | rfl <;> decide)
  rw [versM] at hmo
  have HMO : Hid (Calls Tryd.prog 8 #[.pointer (some ⟨b, 0, none⟩), .agg #[.string ⟨#[103]⟩, .string ⟨#[97]⟩]] w3 fun e w' => ∃ v', e = .returned (.tuple #[.agg #[.string ⟨#[103]⟩, .string ⟨#[97]⟩, v', .string ⟨#[50, 45, 115, 110, 97, 112, 115, 104, 111, 116]⟩, .string ⟨#[49]⟩], .bool true]) ∧ (∃ ao c, v' = .slice ao 2 c) ∧ Below w3.heap.size w3 w') := hmo.mono (by
    rintro e w' ⟨v', M, h1, h2, h3, h4, h5⟩
    obtain rfl : M = rowM2 := (srt_uniq ltSV_weak h2 rowM2_srt (h3.symm.trans rowM2_same))
    rw [if_neg (by simp), rowM2_last, rowM2_rel] at h5
    exact ⟨v', h5, h1.shape, h4⟩)
  clear ho3 hS3 he3 HS2 HF2 HB2 HP2 hmo
  go_wp2_with fail
  refine HMO.out.mono ?_
  rintro e w4 ⟨v', rfl, ⟨ao, c, rfl⟩, hb4⟩
  have HB4 := Lib.hid (HB3.out.trans (hb4.mono HB3.out.size))
  clear hb4 HB3 HMO
  go_upto_region 5 with fail
  refine wp_world ?_
  intro W hW
  have x1 : Box W w4.heap.size [.string ⟨#[103]⟩, .string ⟨#[97]⟩, .slice ao 2 c, .string ⟨#[50, 45, 115, 110, 97, 112, 115, 104, 111, 116]⟩, .string ⟨#[49]⟩] := by rw [hW]; exact Box.new w4 [.string ⟨#[103]⟩, .string ⟨#[97]⟩, .slice ao 2 c, .string ⟨#[50, 45, 115, 110, 97, 112, 115, 104, 111, 116]⟩, .string ⟨#[49]⟩] _ _ rfl
  have hb : Below w4.heap.size w4 W := by rw [hW]; exact (Below.refl _ _).alloc (Nat.le_refl _) _
  clear hW
  have HB := Lib.hid (HB4.out.trans (hb.mono HB4.out.size))
  have x2 := x1.cell 2 _ rfl
  have x3 := x1.cell 3 _ rfl
  have x4 := x1.cell 4 _ rfl
  have xl := x1.lt
  clear x1 hb HB4
  go_wp2
  go_ret
  exact ⟨rfl, HB.out⟩

end Go.Proofs.YtecffghcpknmjaaDoor

/- General lemmas on texts as lists of bytes, own blocks and worlds; no program in sight. -/
namespace Go.Proofs.YtecffghcpknmjaaDoor
open Go Go.RowKit

theorem data_bs (s : S) : bs s.data.toList = s := Lib.mk_data s
theorem grownOf {w w' : World} (h : Below w.heap.size w w') (row : Option Nat) : w.grownBy w' row := ⟨h.os, h.tape, h.output, h.size, fun k hk _ => h.block k hk⟩
theorem Box.grownB {w w' : World} {b : Nat} {cs : List Value} {r : Nat} (h : Box w b cs) (hg : w.grownBy w' (some r)) (hne : b ≠ r) : Box w' b cs := h.grown hg (by simpa using hne)

end Go.Proofs.YtecffghcpknmjaaDoor

/- What a text is cut into, as plain functions on lists of bytes; no program in sight. -/
namespace Go.Proofs.YtecffghcpknmjaaDoor
open Go Go.RowKit

def cFirst (c : UInt8) : Bool := (decide (65 ≤ c.toNat) && decide (c.toNat ≤ 90)) || (decide (97 ≤ c.toNat) && decide (c.toNat ≤ 122)) || c.toNat == 95
def cName (c : UInt8) : Bool := cFirst c || cDigit c || c.toNat == 46 || c.toNat == 45 || c.toNat == 58
def blanks : Bs → Bs
  | [] => []
  | c :: l => if cBlank c then blanks l else c :: l
abbrev At2 := Bs × Bs

end Go.Proofs.YtecffghcpknmjaaDoor

/- Plain laws on what a text is cut into: what is left is an end of the text; no program in sight. -/
namespace Go.Proofs.YtecffghcpknmjaaDoor
open Go Go.RowKit

theorem span_le (p : UInt8 → Bool) (l : Bs) : span p l ≤ l.length := by
  induction l with
  | nil => simp [span]
  | cons c l ih => simp only [span, List.length_cons]; split <;> omega

end Go.Proofs.YtecffghcpknmjaaDoor

/- Walks of the predicates on bytes, the program's and the document's; their conditions stand in the theorems. -/
namespace Go.Proofs.YtecffghcpknmjaaDoor
open Go Go.RowKit

theorem isBlank_any (c : UInt8) (w : World) : Calls Tryd.prog 92 #[.int .u8 c.toNat] w fun e w' => e = .returned (.bool (cBlank c)) ∧ w = w' := by
  go_enter Tryd.func92, Tryd.ntmps92
  go_wp2
  all_goals (go_ret; exact ⟨ret_bool (by rw [Bool.eq_iff_iff]; simp [cBlank]; omega), rfl⟩)
/-- The document's class of a byte. -/
def classV (c : UInt8) : Int := (if cBlank c then 1 else 0) + (if cDigit c then 10 else 0) + (if cFirst c then 12 else 0) + (if c.toNat = 46 ∨ c.toNat = 45 ∨ c.toNat = 58 then 8 else 0) + (if cText c then 16 else 0)
set_option maxRecDepth 100000 in
set_option maxHeartbeats 4000000 in
theorem class_eq (c : UInt8) (w : World) (h : c.toNat = 9 ∨ c.toNat = 10 ∨ c.toNat = 13 ∨ c.toNat = 32 ∨ c.toNat = 45 ∨ c.toNat = 46 ∨ c.toNat = 58 ∨ c.toNat = 95) : Calls Tryd.prog 102 #[.int .u8 c.toNat] w fun e w' => e = .returned (.int .i64 (classV c)) ∧ w = w' := by
  rcases h with h | h | h | h | h | h | h | h
  all_goals
    rw [h]
    have HH := Lib.hid h
    clear h
    go_enter Tryd.func102, Tryd.ntmps102
    go_wp2
    go_ret
    exact ⟨ret_int (by simp [classV, cBlank, cDigit, cFirst, cText, HH.out]), rfl⟩
set_option maxRecDepth 100000 in
set_option maxHeartbeats 8000000 in
theorem class_ne (c : UInt8) (w : World) (e1 : ((c.toNat : Int) == 9) = false) (e2 : ((c.toNat : Int) == 10) = false) (e3 : ((c.toNat : Int) == 13) = false) (e4 : ((c.toNat : Int) == 32) = false) (e5 : ((c.toNat : Int) == 45) = false) (e6 : ((c.toNat : Int) == 46) = false) (e7 : ((c.toNat : Int) == 58) = false) (e8 : ((c.toNat : Int) == 95) = false) :
    Calls Tryd.prog 102 #[.int .u8 c.toNat] w fun e w' => e = .returned (.int .i64 (classV c)) ∧ w = w' := by
  have hc : (c.toNat : Int) < 32 ∨ (32 < (c.toNat : Int) ∧ (c.toNat : Int) < 48) ∨ (48 ≤ (c.toNat : Int) ∧ (c.toNat : Int) ≤ 57) ∨ (57 < (c.toNat : Int) ∧ (c.toNat : Int) < 65) ∨ (65 ≤ (c.toNat : Int) ∧ (c.toNat : Int) ≤ 90) ∨ (90 < (c.toNat : Int) ∧ (c.toNat : Int) < 97) ∨ (97 ≤ (c.toNat : Int) ∧ (c.toNat : Int) ≤ 122) ∨ 122 < (c.toNat : Int) := by
    have : c.toNat ≠ 32 := by intro h; simp [h] at e4
    omega
  have f1 : c.toNat ≠ 9 := by intro h; simp [h] at e1
  have f2 : c.toNat ≠ 10 := by intro h; simp [h] at e2
  have f3 : c.toNat ≠ 13 := by intro h; simp [h] at e3
  have f4 : c.toNat ≠ 32 := by intro h; simp [h] at e4
  have f5 : c.toNat ≠ 45 := by intro h; simp [h] at e5
  have f6 : c.toNat ≠ 46 := by intro h; simp [h] at e6
  have f7 : c.toNat ≠ 58 := by intro h; simp [h] at e7
  have f8 : c.toNat ≠ 95 := by intro h; simp [h] at e8
  have H : Hid (classV c = (if 48 ≤ c.toNat ∧ c.toNat ≤ 57 then 10 else 0) + (if (65 ≤ c.toNat ∧ c.toNat ≤ 90) ∨ (97 ≤ c.toNat ∧ c.toNat ≤ 122) then 12 else 0) + (if 32 ≤ c.toNat then 16 else 0)) := by
    show _ = _
    simp [classV, cBlank, cDigit, cFirst, cText, f1, f2, f3, f4, f5, f6, f7, f8]
  clear f1 f2 f3 f4 f5 f6 f7 f8
  rcases hc with h | ⟨h, h'⟩ | ⟨h, h'⟩ | ⟨h, h'⟩ | ⟨h, h'⟩ | ⟨h, h'⟩ | ⟨h, h'⟩ | h
  all_goals
    go_enter Tryd.func102, Tryd.ntmps102
    go_wp2
    go_ret
    exact ⟨ret_int (by rw [H.out]; simp (disch := omega) [if_pos, if_neg]), rfl⟩
theorem class_any (c : UInt8) (w : World) : Calls Tryd.prog 102 #[.int .u8 c.toNat] w fun e w' => e = .returned (.int .i64 (classV c)) ∧ w = w' := by
  by_cases h : c.toNat = 9 ∨ c.toNat = 10 ∨ c.toNat = 13 ∨ c.toNat = 32 ∨ c.toNat = 45 ∨ c.toNat = 46 ∨ c.toNat = 58 ∨ c.toNat = 95
  · exact class_eq c w h
  · refine class_ne c w ?_ ?_ ?_ ?_ ?_ ?_ ?_ ?_ <;> (simp; omega)
theorem classV_is (c : UInt8) : (classV c % 2 = 1 ↔ cBlank c = true) ∧ (classV c / 4 % 2 = 1 ↔ cFirst c = true) ∧ (classV c / 8 % 2 = 1 ↔ cName c = true) ∧ (classV c / 16 % 2 = 1 ↔ cText c = true) ∧ 0 ≤ classV c ∧ classV c < 64 := by
  have h : ∀ n : Fin 256, (classV (UInt8.ofNat n) % 2 = 1 ↔ cBlank (UInt8.ofNat n) = true) ∧ (classV (UInt8.ofNat n) / 4 % 2 = 1 ↔ cFirst (UInt8.ofNat n) = true) ∧ (classV (UInt8.ofNat n) / 8 % 2 = 1 ↔ cName (UInt8.ofNat n) = true) ∧ (classV (UInt8.ofNat n) / 16 % 2 = 1 ↔ cText (UInt8.ofNat n) = true) ∧ 0 ≤ classV (UInt8.ofNat n) ∧ classV (UInt8.ofNat n) < 64 := by decide +kernel
  have := h ⟨c.toNat, c.toNat_lt⟩
  simpa using this

end Go.Proofs.YtecffghcpknmjaaDoor

/- Walks of the document's Is and of span and Name, the program's and the document's; their conditions stand in the theorems. -/
namespace Go.Proofs.YtecffghcpknmjaaDoor
open Go Go.RowKit

set_option maxHeartbeats 1000000 in
theorem is1_any (c : UInt8) (w : World) : Calls Tryd.prog 93 #[.int .u8 c.toNat, .int .i64 1] w fun e w' => e = .returned (.bool (cBlank c)) ∧ w = w' := by
  have h1 := Lib.hid (classV_is c)
  have h2 := (classV_is c).2.2.2.2.1
  have h3 := (classV_is c).2.2.2.2.2
  have hc := class_any c w
  have HC := Lib.hid hc
  clear hc
  generalize classV c = v at *
  go_enter Tryd.func93, Tryd.ntmps93
  go_wp2_with (go_at_call 102; refine HC.out.mono ?_; rintro e w' ⟨rfl, rfl⟩)
  go_ret
  refine ⟨ret_bool ?_, rfl⟩
  have h4 := h1.out.1
  cases hp : cBlank c <;> rw [hp] at h4 <;> simp at h4 ⊢ <;> omega

end Go.Proofs.YtecffghcpknmjaaDoor

/- The walk of the program's reader's attrs; its conditions stand in the theorem. -/
namespace Go.Proofs.YtecffghcpknmjaaDoor
open Go Go.RowKit

def atC (a : At2) : List Value := [.string (bs a.1), .string (bs a.2)]

end Go.Proofs.YtecffghcpknmjaaDoor

/- Trees, and how one is built of tokens, as plain functions; no program in sight. -/
namespace Go.Proofs.YtecffghcpknmjaaDoor
open Go Go.RowKit

inductive Tr where
  | mk (name : Bs) (attrs : List At2) (kids : List Tr) (text : Bs)
namespace Tr
def name : Tr → Bs
  | .mk n _ _ _ => n
def attrs : Tr → List At2
  | .mk _ a _ _ => a
def kids : Tr → List Tr
  | .mk _ _ k _ => k
def text : Tr → Bs
  | .mk _ _ _ x => x
end Tr
/-- What stands between the blanks at both ends. -/
def trimB (l : Bs) : Bs := ((l.dropWhile cBlank).reverse.dropWhile cBlank).reverse

end Go.Proofs.YtecffghcpknmjaaDoor

/- Walks of Trim, the program's and the document's; their conditions stand in the theorems. -/
namespace Go.Proofs.YtecffghcpknmjaaDoor
open Go Go.RowKit

def dropBack (m : Bs) : Bs := (m.reverse.dropWhile cBlank).reverse
theorem trimB_eq (l : Bs) : trimB l = dropBack (l.dropWhile cBlank) := rfl
theorem dropWhile_all (l : Bs) (h : ∀ x ∈ l, cBlank x = true) : l.dropWhile cBlank = [] := by
  induction l with
  | nil => rfl
  | cons c l ih => rw [List.dropWhile_cons, h c (by simp), if_pos rfl]; exact ih fun x hx => h x (by simp [hx])
theorem drop_span (p : UInt8 → Bool) (l : Bs) : l.drop (span p l) = l.dropWhile p := by
  induction l with
  | nil => rfl
  | cons c l ih =>
    simp only [span, List.dropWhile]
    cases p c with
    | false => simp
    | true => simpa using ih
theorem dropBack_snoc (m : Bs) (c : UInt8) : dropBack (m ++ [c]) = if cBlank c then dropBack m else m ++ [c] := by
  unfold dropBack
  rw [List.reverse_append, List.reverse_singleton, List.singleton_append, List.dropWhile_cons]
  cases cBlank c <;> simp
set_option maxHeartbeats 1000000 in
theorem spanBlank_any (s : S) (w : World) (hs : s.size ≤ 9223372036854775807) :
    Calls Tryd.prog 91 #[.string s, .func (.func 92) #[] #[]] w fun e w' => e = .returned (.int .i64 (span cBlank s.data.toList)) ∧ w = w' := by
  have hsp := span_le (cBlank) s.data.toList
  rw [size_data] at hsp
  go_enter Tryd.func91, Tryd.ntmps91
  go_wp2
  go_loop [5] (fun i => ∃ k : Nat, k ≤ s.size ∧ i = .int .i64 k ∧ Hid (span cBlank s.data.toList = k + span cBlank (s.data.toList.drop k))) (fun i => s.size - (intOf i).toNat)
  case atStart => exact ⟨0, Nat.zero_le _, rfl, by show _ = _; simp⟩
  case round =>
    obtain ⟨k, hk, rfl, H⟩ := hrel
    by_cases hlt : k < s.size
    · have HD := Lib.hid (drop_byte s k hlt)
      cases hp : cBlank s[k]
      all_goals
        have HP := Lib.hid hp
        clear hp
        go_wp2_with (go_at_call 92; refine (isBlank_any _ _).mono ?_; rintro e w' ⟨rfl, rfl⟩; rw [HP.out])
      · go_ret
        exact ⟨ret_int (by rw [H.out, HD.out]; simp [span, HP.out]), rfl⟩
      · go_round
        case rel => exact ⟨k + 1, by omega, by go_num, by show _ = _; rw [H.out, HD.out]; simp only [span, HP.out, if_true]; omega⟩
        case measure => simp [intOf]; omega
    · go_wp2
      go_ret
      exact ⟨ret_int (by rw [H.out, List.drop_of_length_le (by rw [size_data]; omega)]; simp [span]), rfl⟩
theorem take_last (s : S) (k : Nat) (h : s.size = k + 1) : s.data.toList = s.data.toList.take k ++ [s[k]'(by rw [h]; exact Nat.lt_succ_self k)] := by
  have h0 : s.data.toList.drop (k + 1) = [] := List.drop_of_length_le (by rw [size_data]; omega)
  have h1 : s.data.toList.drop k = s[k] :: s.data.toList.drop (k + 1) := drop_byte s k (by rw [h]; exact Nat.lt_succ_self k)
  rw [h0] at h1
  rw [← h1, List.take_append_drop]
set_option maxHeartbeats 4000000 in
theorem trim_any (s : S) (w : World) (hs : s.size ≤ 1000000000) :
    Calls Tryd.prog 77 #[.string s] w fun e w' => ∃ x : S, e = .returned (.string x) ∧ x.data.toList = trimB s.data.toList ∧ w = w' := by
  have hsp := span_le cBlank s.data.toList
  rw [size_data] at hsp
  have HE : Hid (trimB s.data.toList = dropBack ((s.extract (span cBlank s.data.toList) s.size).data.toList)) := by
    show _ = _
    rw [ext_trim, trimB_eq, ← drop_span, List.take_of_length_le (by simp)]
  have HS := Lib.hid (spanBlank_any s)
  generalize span cBlank s.data.toList = n at *
  go_enter Tryd.func77, Tryd.ntmps77
  go_wp2_with (go_at_call 91; refine (HS.out _ (by omega)).mono ?_; rintro e w' ⟨rfl, rfl⟩)
  go_loop [0] (fun v => ∃ x : S, v = .string x ∧ x.size ≤ s.size ∧ Hid (trimB s.data.toList = dropBack x.data.toList)) (fun v => sizeOfV v)
  case atStart => exact ⟨_, rfl, by simp, HE⟩
  case round =>
    obtain ⟨x, rfl, hx, HX⟩ := hrel
    by_cases h0 : x.size = 0
    · have he : x.toList.isEmpty = true := by rw [empty_data]; simpa using h0
      have hd : x.data.toList = [] := List.eq_nil_of_length_eq_zero (by rw [size_data]; exact h0)
      have HD := Lib.hid hd
      clear hd
      go_wp2
      go_ret
      exact ⟨x, rfl, by rw [HX.out, HD.out]; rfl, rfl⟩
    · obtain ⟨k, hk⟩ : ∃ k, x.size = k + 1 := ⟨x.size - 1, by omega⟩
      have he : x.toList.isEmpty = false := by rw [empty_data]; simpa using h0
      have HT := Lib.hid (take_last x k hk)
      have hkx : k < x.size := by omega
      cases hp : cBlank x[k]
      all_goals
        have HP := Lib.hid hp
        clear hp
        go_wp2_with (go_at_call 92; refine (isBlank_any _ _).mono ?_; rintro e w' ⟨rfl, rfl⟩; rw [HP.out])
      · go_ret
        exact ⟨x, rfl, by rw [HX.out, HT.out, dropBack_snoc, HP.out]; simp, rfl⟩
      · go_round
        case rel => exact ⟨_, rfl, by simp; omega, by show _ = _; rw [HX.out, HT.out, dropBack_snoc, HP.out, if_pos rfl, ext_trim]; simp⟩
        case measure => simp [sizeOfV]; omega
theorem dropWhile_drop (l : Bs) (k : Nat) (c : UInt8) (r : Bs) (h : l.drop k = c :: r) (hb : ∀ x ∈ l.take k, cBlank x = true) (hc : cBlank c = false) : l.dropWhile cBlank = l.drop k := by
  rw [← List.take_append_drop k l, List.dropWhile_append_of_pos hb, List.take_append_drop, h, List.dropWhile_cons, hc]
  simp
theorem blanks_take {s : S} {k : Nat} (hk : k < s.size) (hb : ∀ x ∈ s.data.toList.take k, cBlank x = true) (hc : cBlank s[k] = true) : ∀ x ∈ s.data.toList.take (k + 1), cBlank x = true := by
  intro x hx
  have h1 : s.data.toList.take (k + 1) = s.data.toList.take k ++ [s[k]] := by
    rw [List.take_add_one, List.getElem?_eq_getElem (by rw [size_data]; exact hk)]; rfl
  rw [h1] at hx
  rcases List.mem_append.1 hx with h | h
  · exact hb x h
  · rw [List.mem_singleton.1 h]; exact hc
theorem trim_mid (l : Bs) (a b : Nat) (c : UInt8) (hab : a ≤ b) (hc : l[b]? = some c) : dropBack ((l.drop a).take (b + 1 - a)) = if cBlank c then dropBack ((l.drop a).take (b - a)) else (l.drop a).take (b + 1 - a) := by
  have h1 : (l.drop a).take (b + 1 - a) = (l.drop a).take (b - a) ++ [c] := by
    rw [show b + 1 - a = (b - a) + 1 by omega, List.take_add_one, List.getElem?_drop, show a + (b - a) = b by omega, hc]; rfl
  rw [h1, dropBack_snoc]
set_option maxHeartbeats 4000000 in
theorem refTrim_any (s : S) (w : World) (hs : s.size ≤ 1000000000) :
    Calls Tryd.prog 78 #[.string s] w fun e w' => ∃ x : S, e = .returned (.string x) ∧ x.data.toList = trimB s.data.toList ∧ w = w' := by
  go_enter Tryd.func78, Tryd.ntmps78
  go_wp2
  go_loop [3] (fun v => ∃ k : Nat, k ≤ s.size ∧ v = .int .i64 k ∧ Hid (∀ x ∈ s.data.toList.take k, cBlank x = true)) (fun v => s.size - (intOf v).toNat)
  case atStart => exact ⟨0, Nat.zero_le _, rfl, fun x hx => by simp at hx⟩
  case round =>
    obtain ⟨k, hk, rfl, HB⟩ := hrel
    by_cases hlt : k < s.size
    · cases hp : cBlank s[k]
      all_goals
        have HP := Lib.hid hp
        clear hp
        go_wp2_with (go_at_call 93; refine (is1_any _ _).mono ?_; rintro e w' ⟨rfl, rfl⟩; rw [HP.out])
      · have HT : Hid (trimB s.data.toList = dropBack ((s.data.toList.drop k).take (s.size - k))) := by
          show _ = _
          rw [trimB_eq, dropWhile_drop _ k _ _ (drop_byte s k hlt) HB.out HP.out, List.take_of_length_le (by simp)]
        clear HP HB
        go_loop [4] (fun v => ∃ q : Nat, k ≤ q ∧ q ≤ s.size ∧ v = .int .i64 q ∧ Hid (trimB s.data.toList = dropBack ((s.data.toList.drop k).take (q - k)))) (fun v => (intOf v).toNat)
        case atStart => exact ⟨s.size, hk, Nat.le_refl _, rfl, HT⟩
        case round =>
          obtain ⟨q, hkq, hq, rfl, HQ⟩ := hrel
          by_cases hlt2 : k < q
          · obtain ⟨z, rfl⟩ : ∃ z, q = z + 1 := ⟨q - 1, by omega⟩
            have hz : z < s.size := hq
            have hzI : ((z + 1 : Nat) : Int) - 1 = z := by omega
            have HM := Lib.hid (trim_mid s.data.toList k z s[z] (by omega) (by rw [List.getElem?_eq_getElem (by rw [size_data]; exact hz)]; rfl))
            cases hp : cBlank s[z]
            all_goals
              have HP := Lib.hid hp
              clear hp
              go_wp2_with (go_at_call 93; refine (is1_any _ _).mono ?_; rintro e w' ⟨rfl, rfl⟩; rw [HP.out])
            · go_ret
              exact ⟨_, rfl, by rw [HQ.out, HM.out, HP.out, ext_trim]; simp, rfl⟩
            · go_round
              case rel => exact ⟨z, by omega, by omega, by go_num, by show _ = _; rw [HQ.out, HM.out, HP.out, if_pos rfl]⟩
              case measure => simp [intOf]
          · obtain rfl : k = q := by omega
            go_wp2
            go_ret
            exact ⟨_, rfl, by rw [HQ.out]; simp [dropBack], rfl⟩
      · go_round
        case rel => exact ⟨k + 1, by omega, by go_num, blanks_take hlt HB.out HP.out⟩
        case measure => simp [intOf]; omega
    · obtain rfl : k = s.size := by omega
      go_wp2
      have HT : Hid (trimB s.data.toList = []) := by
        show _ = _
        have h1 := HB.out
        rw [List.take_of_length_le (by rw [size_data]; exact Nat.le_refl _)] at h1
        rw [trimB_eq, dropWhile_all _ h1]; rfl
      clear HB
      go_loop [4] (fun v => v = .int .i64 s.size) (fun _ => 0)
      case atStart => rfl
      case round =>
        subst hrel
        go_wp2
        go_ret
        exact ⟨_, rfl, by rw [HT.out]; simp, rfl⟩

end Go.Proofs.YtecffghcpknmjaaDoor

/- Trees in memory, and what keeps them; no program in sight. -/
namespace Go.Proofs.YtecffghcpknmjaaDoor
open Go Go.RowKit

/-- A tree, where its attributes lie, where its kids lie. -/
abbrev TrV := Tr × Value × Value
def nodeC (n : Bs) (av kv : Value) (x : Bs) : List Value := [.string (bs n), av, kv, .string (bs x)]
def trC (x : TrV) : List Value := nodeC x.1.name x.2.1 x.2.2 x.1.text
theorem trC_len (x : TrV) : (trC x).length = 4 := rfl
/-- A slice that reads as a list, outside of the blocks X. -/
def SliceX {α : Type} (n : Nat) (C : α → List Value) (X : Nat → Prop) (w : World) (v : Value) (l : List α) : Prop :=
  ∃ ao cap, v = .slice ao l.length cap ∧ l.length ≤ cap ∧ cap ≤ maxLen ∧ (ao = none → cap = 0) ∧
    ∀ i x, l[i]? = some x → ∃ b o, ao = some ⟨b, o, none⟩ ∧ b < w.heap.size ∧ ¬ X b ∧ ∀ j u, (C x)[j]? = some u → w.cell? ⟨b, o + i * n + j, none⟩ = some u
theorem SliceX.slice {α : Type} {n : Nat} {C : α → List Value} {X : Nat → Prop} {w : World} {v : Value} {l : List α} (h : SliceX n C X w v l) : SliceOf n C w v l := by
  obtain ⟨ao, cap, h1, h2, h3, h4, h5⟩ := h
  refine ⟨ao, cap, h1, h2, h3, h4, fun i x hx => ?_⟩
  obtain ⟨b, o, e1, e2, -, e3⟩ := h5 i x hx
  exact ⟨b, o, e1, e2, e3⟩
theorem SliceOf.toX {α : Type} {n : Nat} {C : α → List Value} {w : World} {v : Value} {l : List α} (h : SliceOf n C w v l) : SliceX n C (fun _ => False) w v l := by
  obtain ⟨ao, cap, h1, h2, h3, h4, h5⟩ := h
  refine ⟨ao, cap, h1, h2, h3, h4, fun i x hx => ?_⟩
  obtain ⟨b, o, e1, e2, e3⟩ := h5 i x hx
  exact ⟨b, o, e1, e2, id, e3⟩
theorem SliceX.nil {α : Type} {n : Nat} {C : α → List Value} {X : Nat → Prop} {w : World} : SliceX n C X w (.slice none 0 0) ([] : List α) :=
  ⟨none, 0, rfl, Nat.le_refl _, Nat.zero_le _, fun _ => rfl, fun i x h => by simp at h⟩
theorem SliceX.shape {α : Type} {n : Nat} {C : α → List Value} {X : Nat → Prop} {w : World} {v : Value} {l : List α} (h : SliceX n C X w v l) : ∃ ao cap, v = .slice ao l.length cap := h.slice.shape
theorem Owns.toX {α : Type} {base : Nat} {E : TypeId} {n : Nat} {C : α → List Value} {X : Nat → Prop} {w : World} {v : Value} {l : List α} (h : Owns base E n C w v l) (hC : ∀ x, (C x).length = n) (hX : ∀ g, v.ownBlock = some g → ¬ X g) : SliceX n C X w v l := by
  obtain ⟨ao, cap, rfl, h2, h3, h4, h5⟩ := h.slice hC
  refine ⟨ao, cap, rfl, h2, h3, h4, fun i x hx => ?_⟩
  obtain ⟨b, o, e1, e2, e3⟩ := h5 i x hx
  subst e1
  exact ⟨b, o, rfl, e2, hX b rfl, e3⟩
/-- What was there, but for the blocks X, is as it was. -/
structure KeptX (X : Nat → Prop) (w w' : World) : Prop where
  size : w.heap.size ≤ w'.heap.size
  cell : ∀ k j, k < w.heap.size → ¬ X k → w'.cell? ⟨k, j, none⟩ = w.cell? ⟨k, j, none⟩
theorem KeptX.refl (X : Nat → Prop) (w : World) : KeptX X w w := ⟨Nat.le_refl _, fun _ _ _ _ => rfl⟩
theorem KeptX.trans {X : Nat → Prop} {w w1 w2 : World} (h : KeptX X w w1) (h2 : KeptX X w1 w2) : KeptX X w w2 :=
  ⟨Nat.le_trans h.size h2.size, fun k j hk hx => (h2.cell k j (Nat.lt_of_lt_of_le hk h.size) hx).trans (h.cell k j hk hx)⟩
theorem KeptX.below {X : Nat → Prop} {w w' : World} (h : Below w.heap.size w w') : KeptX X w w' := ⟨h.size, fun k j hk _ => h.cell (p := ⟨k, j, none⟩) hk⟩
theorem KeptX.grown {X : Nat → Prop} {w w' : World} {row : Option Nat} (h : w.grownBy w' row) (hx : ∀ g, row = some g → X g) : KeptX X w w' :=
  ⟨h.size, fun k j hk hn => World.cell?_of_block (by exact h.block k hk (fun e => hn (hx k e.symm)))⟩
theorem SliceX.keep {α : Type} {n : Nat} {C : α → List Value} {X Y : Nat → Prop} {w w' : World} {v : Value} {l : List α} (h : SliceX n C X w v l) (hk : KeptX X w w') (hY : ∀ k, k < w.heap.size → Y k → X k) : SliceX n C Y w' v l := by
  obtain ⟨ao, cap, h1, h2, h3, h4, h5⟩ := h
  refine ⟨ao, cap, h1, h2, h3, h4, fun i x hx => ?_⟩
  obtain ⟨b, o, e1, e2, e3, e4⟩ := h5 i x hx
  exact ⟨b, o, e1, Nat.lt_of_lt_of_le e2 hk.size, fun hy => e3 (hY b e2 hy), fun j u hu => (hk.cell b _ e2 e3).trans (e4 j u hu)⟩
/-- A tree in memory, outside of the blocks X. -/
inductive NodeX (X : Nat → Prop) (w : World) : Tr → Value → Value → Prop where
  | mk {n : Bs} {ats : List At2} {ks : List Tr} {x : Bs} {av kv : Value} (L : List TrV) (att : SliceX 2 atC X w av ats) (his : L.map (·.1) = ks) (own : SliceX 4 trC X w kv L) (kids : ∀ y ∈ L, NodeX X w y.1 y.2.1 y.2.2) : NodeX X w (.mk n ats ks x) av kv
theorem NodeX.keep {X Y : Nat → Prop} {w w' : World} {t : Tr} {av kv : Value} (h : NodeX X w t av kv) (hk : KeptX X w w') (hY : ∀ k, k < w.heap.size → Y k → X k) : NodeX Y w' t av kv := by
  induction h with
  | mk L att his own kids ih => exact .mk L (att.keep hk hY) his (own.keep hk hY) ih
theorem NodeX.parts {X : Nat → Prop} {w : World} {t : Tr} {av kv : Value} (h : NodeX X w t av kv) : ∃ L : List TrV, L.map (·.1) = t.kids ∧ SliceX 2 atC X w av t.attrs ∧ SliceX 4 trC X w kv L ∧ ∀ y ∈ L, NodeX X w y.1 y.2.1 y.2.2 := by
  cases h with
  | mk L att his own kids => exact ⟨L, his, att, own, kids⟩
theorem NodeX.of {X : Nat → Prop} {w : World} {t : Tr} {av kv : Value} (L : List TrV) (his : L.map (·.1) = t.kids) (att : SliceX 2 atC X w av t.attrs) (own : SliceX 4 trC X w kv L) (kids : ∀ y ∈ L, NodeX X w y.1 y.2.1 y.2.2) : NodeX X w t av kv := by
  cases t
  exact .mk L att his own kids
abbrev NodeOf (w : World) : Tr → Value → Value → Prop := NodeX (fun _ => False) w
theorem NodeX.node {X : Nat → Prop} {w : World} {t : Tr} {av kv : Value} (h : NodeX X w t av kv) : NodeOf w t av kv := h.keep (KeptX.refl X w) (fun _ _ h => h.elim)
theorem NodeX.later {X : Nat → Prop} {w w' : World} {t : Tr} {av kv : Value} (h : NodeX X w t av kv) (hb : Below w.heap.size w w') : NodeX X w' t av kv := h.keep (KeptX.below hb) (fun _ _ h => h)
theorem SliceX.below {α : Type} {n : Nat} {C : α → List Value} {X : Nat → Prop} {w w' : World} {v : Value} {l : List α} (h : SliceX n C X w v l) (hb : Below w.heap.size w w') : SliceX n C X w' v l := h.keep (KeptX.below hb) (fun _ _ h => h)
/-- A block is a row of elements E, n cells in all. -/
def Row (w : World) (g : Nat) (E : TypeId) (n : Nat) : Prop := ∃ cur, w.heap[g]? = some (.cells cur E (0, 0)) ∧ cur.size = n
theorem Row.lt {w : World} {g : Nat} {E : TypeId} {n : Nat} (h : Row w g E n) : g < w.heap.size := by
  obtain ⟨cur, h1, -⟩ := h
  exact (Array.getElem?_eq_some_iff.1 h1).1
theorem Row.type {w : World} {g : Nat} {E F : TypeId} {n m : Nat} (h : Row w g E n) (h2 : Row w g F m) : E = F := by
  obtain ⟨c, h1, -⟩ := h
  obtain ⟨c2, h3, -⟩ := h2
  rw [h1] at h3
  simp only [Option.some.injEq, Obj.cells.injEq] at h3
  exact h3.2.1
theorem Row.cell {w : World} {g : Nat} {E : TypeId} {n : Nat} (h : Row w g E n) {j : Nat} (hj : j < n) : ∃ u, w.cell? ⟨g, j, none⟩ = some u := by
  obtain ⟨cur, h1, h2⟩ := h
  exact ⟨cur[j]'(by omega), by rw [cell_of_row w g j cur E (0, 0) h1]; simp [h2, hj]⟩

end Go.Proofs.YtecffghcpknmjaaDoor

/- The builder's memory: the path of open elements, and what keeps it; no program in sight. -/
namespace Go.Proofs.YtecffghcpknmjaaDoor
open Go Go.RowKit

theorem Owns.heap {α : Type} {base : Nat} {E : TypeId} {n : Nat} {C : α → List Value} {w w' : World} {v : Value} {l : List α} (h : Owns base E n C w v l) (hg : ∀ g, v.ownBlock = some g → w'.heap[g]? = w.heap[g]?) : Owns base E n C w' v l := by
  refine ⟨h.1, ?_⟩
  rcases h.2 with h | ⟨g, cap, cur, rfl, h2, h3, h4⟩
  · exact .inl h
  · exact .inr ⟨g, cap, cur, rfl, h2, (hg g rfl).trans h3, h4⟩
theorem Owns.rowOf {α : Type} {base : Nat} {E : TypeId} {n : Nat} {C : α → List Value} {w : World} {v : Value} {l : List α} (h : Owns base E n C w v l) {g : Nat} (hg : v.ownBlock = some g) : base ≤ g ∧ ∃ m, Row w g E m := by
  rcases h.2 with ⟨rfl, -⟩ | ⟨g', cap, cur, rfl, h2, h3, h4, h5, h6, h7⟩
  · simp [Value.ownBlock] at hg
  · simp [Value.ownBlock] at hg
    subst hg
    exact ⟨h2, _, cur, h3, h6⟩
theorem Row.free {w : World} {g : Nat} {E : TypeId} {n : Nat} (h : Row w g E n) (j : Nat) : w.frozen? ⟨g, j, none⟩ = false := by
  obtain ⟨cur, h1, -⟩ := h
  simp [World.frozen?, h1]

end Go.Proofs.YtecffghcpknmjaaDoor

/- The walk of the builder's letters; its conditions stand in the theorem. -/
namespace Go.Proofs.YtecffghcpknmjaaDoor
open Go Go.RowKit

variable {lo : Nat}
theorem info_node : (Tryd.prog.info? 47).map (fun i => (i.zero, i.size, i.bytes)) = some (some (.agg #[.string ⟨#[]⟩, .slice none 0 0, .slice none 0 0, .string ⟨#[]⟩]), 4, 80) := by kernel_rfl

end Go.Proofs.YtecffghcpknmjaaDoor

/- The walk of the builder's token; its conditions stand in the theorem. -/
namespace Go.Proofs.YtecffghcpknmjaaDoor
open Go Go.RowKit

variable {lo : Nat}
theorem bs_beq2 (a b : Bs) : ((bs a : S).toList == (bs b : S).toList) = decide (a = b) := by
  rw [ByteArray.toList_eq, ByteArray.toList_eq, bs_data, bs_data, Bool.eq_iff_iff, beq_iff_eq, decide_eq_true_iff]

end Go.Proofs.YtecffghcpknmjaaDoor

/- What a text's tokens are, and what Build returns; no walk. -/
namespace Go.Proofs.YtecffghcpknmjaaDoor
open Go Go.RowKit

variable {lo : Nat}
def nodeV (t : Tr) (av kv : Value) : Value := .agg #[.string (bs t.name), av, kv, .string (bs t.text)]

end Go.Proofs.YtecffghcpknmjaaDoor

/- The walk of the document's Same on trees; its conditions stand in the theorem. -/
namespace Go.Proofs.YtecffghcpknmjaaDoor
open Go Go.RowKit

theorem kid_less {t : Tr} {k : Nat} (h : k < t.kids.length) : SizeOf.sizeOf t.kids[k] < SizeOf.sizeOf t := by
  obtain ⟨n, l, ks, x⟩ := t
  have := List.sizeOf_lt_of_mem (List.getElem_mem (l := ks) h)
  simp only [Tr.mk.sizeOf_spec, Tr.kids] at this ⊢
  omega
/-- A kid's cells. -/
theorem NodeX.kid {X : Nat → Prop} {w : World} {t : Tr} {av kv : Value} (h : NodeX X w t av kv) : ∃ ao cap, kv = .slice ao t.kids.length cap ∧ t.kids.length ≤ maxLen ∧ ∀ k (hk : k < t.kids.length), ∃ g o a b, ao = some ⟨g, o, none⟩ ∧ g < w.heap.size ∧ w.cell? ⟨g, o + k * 4, none⟩ = some (.string (bs t.kids[k].name)) ∧ w.cell? ⟨g, o + k * 4 + 1, none⟩ = some a ∧ w.cell? ⟨g, o + k * 4 + 2, none⟩ = some b ∧ w.cell? ⟨g, o + k * 4 + 3, none⟩ = some (.string (bs t.kids[k].text)) ∧ NodeX X w t.kids[k] a b := by
  obtain ⟨L, his, -, ho, hn⟩ := h.parts
  obtain ⟨ao, cap, h1, h2, h3, h4, h5⟩ := ho
  have hl : L.length = t.kids.length := by rw [← his]; simp
  refine ⟨ao, cap, by rw [h1, hl], by omega, fun k hk => ?_⟩
  have hkL : k < L.length := by omega
  obtain ⟨g, o, e1, e2, -, e3⟩ := h5 k L[k] (List.getElem?_eq_getElem hkL)
  have hkid : t.kids[k] = L[k].1 := by
    have : (L.map (·.1))[k]'(by simpa using hkL) = L[k].1 := by simp
    rw [← this]
    congr 1
    exact his.symm
  refine ⟨g, o, L[k].2.1, L[k].2.2, e1, e2, ?_, e3 1 _ rfl, e3 2 _ rfl, ?_, ?_⟩
  · rw [hkid]; simpa using e3 0 _ rfl
  · rw [hkid]; exact e3 3 _ rfl
  · rw [hkid]; exact hn _ (List.getElem_mem hkL)
theorem NodeX.att {X : Nat → Prop} {w : World} {t : Tr} {av kv : Value} (h : NodeX X w t av kv) : SliceOf 2 atC w av t.attrs := by
  obtain ⟨_, -, h1, -⟩ := h.parts
  exact h1.slice

end Go.Proofs.YtecffghcpknmjaaDoor
