/- The walks of the store's Versions and of meta.Of; the example of the Metas' statements; the conditions stand in the theorems. -/
import Derived.Test.YtecffghcpknmjaaDoorJM05
import Derived.Test.YtecffghcpknmjaaDoorJM07
import Derived.Test.YtecffghcpknmjaaDoorRows
import Derived.Test.YtecffghcpknmjaaDoorOwn2
import Derived.WalkKit
import Derived.ProofKit
import Derived.OpenShut
import Derived.HandedShaped
import Derived.Lay
import Derived.LaidOnce
import Derived.Test.YtecffghcpknmjaaDoorJM02
import Derived.Deep.Slices
import Derived.Test.YtecffghcpknmjaaDoorV10
import Derived.Test.YtecffghcpknmjaaDoorTie
import Derived.Test.YtecffghcpknmjaaDoorCards
import Derived.SevenTiedAt
namespace Go.Proofs.YtecffghcpknmjaaDoor
open Go Go.RowKit

/-- What Versions answers: the versions of an id in the stable order, in a row of its own. -/
def VersOut (l : List S) (w : World) (e : Ending) (w' : World) : Prop := ∃ v' M, e = .returned v' ∧ Owns w.heap.size 9 1 strC w' v' M ∧ Srt ltSV M ∧ SameE ltSV l M ∧ Below w.heap.size w w'
set_option maxRecDepth 100000 in
theorem versions_any (x : Id) (w : World) {F : Nat → Prop} {b : Nat} {es : List (SEnt × Nat)} {r a : Int} (h : StoreAt F w b es r a) (hl : (versOf es x).length ≤ 1000000) (hs : AllSmall (versOf es x)) :
    Calls Tryd.prog 28 #[ptr b, .agg #[.string x.group, .string x.artifact]] w (VersOut (versOf es x) w) := by
  obtain ⟨me, mv, L, cl, V, cv, h⟩ := h
  have hrow := (h.rowV_owns x).slice strC_lV
  have hlt := h.box.lt
  have HS := Lib.hid h
  have HR := Lib.hid hrow
  have HL := Lib.hid hl
  have HSM := Lib.hid hs
  clear h hrow hl hs
  generalize versOf es x = l at *
  unfold ptr
  go_enter Tryd.func28, Tryd.ntmps28
  go_upto_region 1 with fail
  refine wp_world ?_
  intro W hW
  have hx : Box W w.heap.size [.string x.group, .string x.artifact] := by rw [hW]; exact Box.new w [.string x.group, .string x.artifact] _ _ rfl
  have hb : Below w.heap.size w W := by rw [hW]; exact (Below.refl _ _).alloc (Nat.le_refl _) _
  clear hW
  have HB := Lib.hid hb
  have x0 := hx.cell 0 _ rfl
  have x1 := hx.cell 1 _ rfl
  have lx := hx.lt
  have b1 := (HS.out.box.below hb hlt).cell 1 _ rfl
  have lb := (HS.out.box.below hb hlt).lt
  have hm := HS.out.vers.below hb HS.out.vers.lt
  have hlk : ∀ z : Later W, (Instr.lookup 88 (.map (some mv)) (.agg #[.string x.group, .string x.artifact]) false).run Tryd.prog z.at_ = .ok (rowV V x) z.at_ := fun z => look_row x (hm.below z.below hm.lt)
  have HRW := Lib.hid (HR.out.below hb)
  clear hx hb hm hlt HR HS
  have hLC := @Later.cells W
  go_wp2_with fail
  refine region_later_tail 6 (by kernel_rfl) (by kernel_rfl) ?_
  simp only [List.take_succ_cons, List.take_zero, List.drop_succ_cons, List.drop_zero]
  repeat (go_big_quiet_step (fail))
  refine wpQuiet_nil ?_
  rintro _ ⟨nx, rfl⟩
  have HRN := Lib.hid (HRW.out.below nx.below)
  have HBN := Lib.hid (HB.out.trans (nx.below.mono HB.out.size))
  clear hlk hLC x0 x1 lx b1 lb HRW HB
  generalize nx.at_ = wn at *
  have HSO := Lib.hid (sort_any HRN.out HL.out HSM.out)
  generalize rowV V x = rv at *
  go_wp2_with fail
  refine HSO.out.mono ?_
  rintro e w2 ⟨v', M, rfl, h1, h2, h3, h4⟩
  have H1 := Lib.hid (h1.base_mono HBN.out.size)
  have H2 := Lib.hid h2
  have H3 := Lib.hid h3
  have H4 := Lib.hid (HBN.out.trans (h4.mono HBN.out.size))
  clear h1 h2 h3 h4
  go_wp2
  go_ret
  exact ⟨_, M, rfl, H1.out, H2.out, H3.out, H4.out⟩

theorem small_same {l M : List S} (h : SameE ltSV l M) (hs : AllSmall l) : AllSmall M := fun x hx => hs x (h.symm.mem ltSV_weak hx)
theorem len_same {l M : List S} (h : SameE ltSV l M) : M.length = l.length := (h.perm ltSV_weak).length_eq.symm
/-- What meta.Of answers. -/
def MetaOut (d : Id) (l : List S) (w : World) (e : Ending) (w' : World) : Prop := ∃ v' M, Owns w.heap.size 9 1 strC w' v' M ∧ Srt ltSV M ∧ SameE ltSV l M ∧ Below w.heap.size w w' ∧
  e = .returned (.tuple (if l = [] then #[.agg metaZ.toArray, .bool false] else #[metaAg ⟨d, M, lastV M, relV M⟩ v', .bool true]))
set_option maxRecDepth 100000 in
set_option maxHeartbeats 4000000 in
theorem metaOfS_any (x : Id) (w : World) {F : Nat → Prop} {b : Nat} {es : List (SEnt × Nat)} {r a : Int} (h : StoreAt F w b es r a) (hl : (versOf es x).length ≤ 1000000) (hs : AllSmall (versOf es x)) :
    Calls Tryd.prog 8 #[ptr b, .agg #[.string x.group, .string x.artifact]] w (MetaOut x (versOf es x) w) := by
  have HV : Hid (∀ W, Below w.heap.size w W → Calls Tryd.prog 28 #[ptr b, .agg #[.string x.group, .string x.artifact]] W (VersOut (versOf es x) W)) := fun W hb => versions_any x W (h.below hb) hl hs
  have HL := Lib.hid hl
  have HSM := Lib.hid hs
  clear h hl hs
  generalize versOf es x = l at *
  unfold ptr at *
  go_enter Tryd.func8, Tryd.ntmps8
  go_upto_region 1 with fail
  refine wp_world ?_
  intro W hW
  have x1 : Box W w.heap.size [.string x.group, .string x.artifact] := by rw [hW]; exact (Box.new w [.string x.group, .string x.artifact] _ _ rfl).alloc _
  have y1 : Box W (w.heap.size + 1) metaZ := by rw [hW]; exact Box.new _ metaZ _ _ (by simp)
  have hb : Below w.heap.size w W := by rw [hW]; exact ((Below.refl _ w).alloc (Nat.le_refl _) _).alloc (by simp) _
  clear hW
  have HX := Lib.hid x1
  have HY := Lib.hid y1
  have HB := Lib.hid hb
  have x0 := x1.cell 0 _ rfl
  have x1' := x1.cell 1 _ rfl
  have xl := x1.lt
  clear x1 y1 hb
  go_wp2_with fail
  refine (HV.out W HB.out).mono ?_
  rintro e w1 ⟨v', M, rfl, h1, h2, h3, h4⟩
  have HO1 := Lib.hid h1
  have HWS := Lib.hid HY.out.lt
  have HWB := Lib.hid HB.out.size
  have HSL1 := Lib.hid (h1.slice strC_lV)
  have H2 := Lib.hid h2
  have H3 := Lib.hid h3
  have HX1 := Lib.hid (HX.out.below h4 HX.out.lt)
  have HY1 := Lib.hid (HY.out.below h4 HY.out.lt)
  have HB1 := Lib.hid (HB.out.trans (h4.mono HB.out.size))
  obtain ⟨ao, c, rfl⟩ := h1.shape
  have HLM := Lib.hid (len_same h3)
  have HSS := Lib.hid (small_same h3 HSM.out)
  clear h1 h2 h3 h4 x0 x1' xl HX HY HB HV
  by_cases h0 : l = []
  · have hm0 : M = [] := List.eq_nil_of_length_eq_zero (by have := HLM.out; rw [h0] at this; exact this)
    subst h0 hm0
    go_wp2_with ((with_reducible show wpList _ _ _ (Oper.mk none (Op.store 31 (.tmp 4) (.tmp 13)) _ _ _ _ :: _) _ _); refine wpList_store_box rfl 31 (.tmp 4) (.tmp 13) rfl (w.heap.size + 1) _ metaZ rfl rfl HY1.out rfl (by kernel_rfl) (by simp [metaZ, Value.oneCell']) ?_; intro W7 v7 hg7; have HV7 := Lib.hid v7; have HB7 := Lib.hid (gr_belowV HB1.out hg7 (by omega) (Nat.le_refl _)); have HO7 := Lib.hid ((HO1.out.keptR hg7 HWS.out).base_mono HWB.out); clear v7 hg7)
    have z0 := HV7.out.cell 0 _ rfl
    have z1 := HV7.out.cell 1 _ rfl
    have z2 := HV7.out.cell 2 _ rfl
    have z3 := HV7.out.cell 3 _ rfl
    have z4 := HV7.out.cell 4 _ rfl
    have zl := HV7.out.lt
    clear HY1 HX1 HB1
    go_wp2
    refine bodyPost_ret (v := .tuple #[.agg metaZ.toArray, .bool false]) (by simp [results, Tryd.results8, go_sem, z0, z1, z2, z3, z4, metaZ]) rfl ?_
    exact ⟨_, [], HO7.out, H2.out, H3.out, HB7.out, by rw [if_pos rfl]⟩
  · have hne : M ≠ [] := fun e => h0 (List.eq_nil_of_length_eq_zero (by rw [← show M.length = _ from HLM.out, e]; rfl))
    have hm1 : 1 ≤ M.length := by have := List.length_pos_iff.2 hne; omega
    have e0 : ((M.length : Int) == 0) = false := by rw [beq_eq_false_iff_ne]; omega
    have e0n : (M.length == 0) = false := by rw [beq_eq_false_iff_ne]; omega
    have HOF : Hid (Calls Tryd.prog 29 #[.agg #[.string x.group, .string x.artifact], .slice ao M.length c] w1 fun e w' => e = .returned (.agg #[.string x.group, .string x.artifact, .slice ao M.length c, .string (lastV M), .string (relV M)]) ∧ Below w1.heap.size w1 w') := metaOf_any x M _ w1 HSL1.out (by have := HLM.out; have := HL.out; omega) HSS.out hne
    have HR : Hid (MetaOut x l w = fun e w' => ∃ v' M, Owns w.heap.size 9 1 strC w' v' M ∧ Srt ltSV M ∧ SameE ltSV l M ∧ Below w.heap.size w w' ∧ e = .returned (.tuple #[metaAg ⟨x, M, lastV M, relV M⟩ v', .bool true])) := by show _ = _; unfold MetaOut; simp only [if_neg h0]
    obtain ⟨la, hla⟩ : ∃ y, lastV M = y := ⟨_, rfl⟩
    obtain ⟨re, hre⟩ : ∃ y, relV M = y := ⟨_, rfl⟩
    rw [hla, hre] at HOF
    have HLA := Lib.hid hla
    have HRE := Lib.hid hre
    have x0 := HX1.out.cell 0 _ rfl
    have x1' := HX1.out.cell 1 _ rfl
    have xl := HX1.out.lt
    clear h0 hne hla hre HSS HSL1 hm1
    go_wp2_with fail
    refine HOF.out.mono ?_
    rintro e w2 ⟨rfl, hb2⟩
    have HY2 := Lib.hid (HY1.out.below hb2 HY1.out.lt)
    have HB2 := Lib.hid (HB1.out.trans (hb2.mono HB1.out.size))
    have HO2 := Lib.hid (HO1.out.below hb2)
    clear hb2 x0 x1' xl HX1 HY1 HB1 HO1 HOF
    go_wp2_with ((with_reducible show wpList _ _ _ (Oper.mk none (Op.store 31 (.tmp 4) (.tmp 16)) _ _ _ _ :: _) _ _); refine wpList_store_box rfl 31 (.tmp 4) (.tmp 16) rfl (w.heap.size + 1) _ [.string x.group, .string x.artifact, .slice ao M.length c, .string la, .string re] rfl rfl HY2.out rfl (by kernel_rfl) (by simp [Value.oneCell']) ?_; intro W7 v7 hg7; have HV7 := Lib.hid v7; have HB7 := Lib.hid (gr_belowV HB2.out hg7 (by omega) (Nat.le_refl _)); have HO7 := Lib.hid ((HO2.out.keptR hg7 HWS.out).base_mono HWB.out); clear v7 hg7)
    have z0 := HV7.out.cell 0 _ rfl
    have z1 := HV7.out.cell 1 _ rfl
    have z2 := HV7.out.cell 2 _ rfl
    have z3 := HV7.out.cell 3 _ rfl
    have z4 := HV7.out.cell 4 _ rfl
    have zl := HV7.out.lt
    clear HY2 HB2 HO2
    go_wp2
    refine bodyPost_ret (v := .tuple #[.agg #[.string x.group, .string x.artifact, .slice ao M.length c, .string la, .string re], .bool true]) (by simp [results, Tryd.results8, go_sem, z0, z1, z2, z3, z4]) rfl ?_
    rw [HR.out]
    exact ⟨_, M, HO7.out, H2.out, H3.out, HB7.out, by rw [HLA.out, HRE.out]; rfl⟩

end Go.Proofs.YtecffghcpknmjaaDoor

/- The example of the Metas' statements is as the document says; the conditions stand in the theorem. -/
namespace Go.Proofs.YtecffghcpknmjaaDoor
open Go Go.RowKit

def gavM1 : Gav := ⟨⟨#[103]⟩, ⟨#[97]⟩, ⟨#[50, 45, 115, 110, 97, 112, 115, 104, 111, 116]⟩⟩
def gavM2 : Gav := ⟨⟨#[103]⟩, ⟨#[97]⟩, ⟨#[49]⟩⟩
def idM : Id := ⟨⟨#[103]⟩, ⟨#[97]⟩⟩
def rowM2 : List S := [⟨#[49]⟩, ⟨#[50, 45, 115, 110, 97, 112, 115, 104, 111, 116]⟩]
theorem gavM1_may : gavMay gavM1 = true := by kernel_rfl
theorem gavM2_may : gavMay gavM2 = true := by kernel_rfl
theorem rowM2_lt : ltSV ⟨#[49]⟩ ⟨#[50, 45, 115, 110, 97, 112, 115, 104, 111, 116]⟩ = true := by kernel_rfl
theorem rowM2_srt : Srt ltSV rowM2 := List.pairwise_cons.2 ⟨fun y hy => by rw [List.mem_singleton.1 hy]; exact ltSV_weak.asym _ _ rowM2_lt, srt_one _⟩
theorem rowM2_same : SameE ltSV [⟨#[50, 45, 115, 110, 97, 112, 115, 104, 111, 116]⟩, ⟨#[49]⟩] rowM2 :=
  SameE.turn ltSV_weak (u := [⟨#[50, 45, 115, 110, 97, 112, 115, 104, 111, 116]⟩]) (v := [⟨#[49]⟩]) fun a ha b hb => by rw [List.mem_singleton.1 ha, List.mem_singleton.1 hb]; exact rowM2_lt
theorem rowM2_last : lastV rowM2 = ⟨#[50, 45, 115, 110, 97, 112, 115, 104, 111, 116]⟩ := by kernel_rfl
theorem rowM2_rel : relV rowM2 = ⟨#[49]⟩ := by kernel_rfl
theorem versM {e1 e2 : Nat} : versOf ([] ++ [(freshE gavM1 ⟨#[]⟩, e1)] ++ [(freshE gavM2 ⟨#[]⟩, e2)]) idM = [⟨#[50, 45, 115, 110, 97, 112, 115, 104, 111, 116]⟩, ⟨#[49]⟩] := by
  rw [versOf_snoc, versOf_snoc]
  simp [versOf, freshE, idOf, gavM1, gavM2, idM]
theorem putM1 : putE [] gavM1 = 0 := by unfold putE; rw [gavM1_may]; simp [hasG]
theorem putM2 {e1 : Nat} : putE ([] ++ [(freshE gavM1 ⟨#[]⟩, e1)]) gavM2 = 0 := by
  unfold putE
  rw [gavM2_may]
  have : hasG ([] ++ [(freshE gavM1 ⟨#[]⟩, e1)]) gavM2 = false := by
    have hn : ¬ gavM2 = gavM1 := by decide
    simp [hasG, freshE, hn]
  rw [this]; simp
set_option maxRecDepth 100000 in
set_option maxHeartbeats 8000000 in
theorem metaLives_any (w : World) : Calls Tryd.prog 11 #[] w fun e w' => e = .returned (.bool true) ∧ Below w.heap.size w w' := by
  go_enter Tryd.func11, Tryd.ntmps11
  go_wp2_with fail
  refine (new_any w).mono ?_
  rintro e w1 ⟨b, F, rfl, hS, hF, hb1⟩
  have HS1 := Lib.hid hS
  have HF := Lib.hid hF
  have HB1 := Lib.hid hb1
  clear hS hF hb1
  have HP1 : Hid (Calls Tryd.prog 26 #[.pointer (some ⟨b, 0, none⟩), .agg #[.string ⟨#[103]⟩, .string ⟨#[97]⟩, .string ⟨#[50, 45, 115, 110, 97, 112, 115, 104, 111, 116]⟩], .string ⟨#[]⟩] w1 (PutOut F b [] 0 0 gavM1 ⟨#[]⟩ w1)) := put_any gavM1 ⟨#[]⟩ w1 HS1.out ⟨by decide, by decide, by decide⟩
  unfold ptr
  go_wp2_with fail
  refine HP1.out.mono ?_
  rintro e w2 ⟨rfl, ho2, F2, es2, hS2, hF2, -, he2⟩
  obtain ⟨eb1, rfl⟩ := he2 putM1
  rw [putM1]
  have HS2 := Lib.hid hS2
  have HF2 : Hid (∀ k, F2 k → w.heap.size ≤ k) := fun k hk => by
    by_cases h : k < w1.heap.size
    · exact HF.out k (hF2 k h hk)
    · have := HB1.out.size; omega
  have HB2 := Lib.hid (HB1.out.trans (ho2.below HB1.out.size HF.out))
  clear ho2 hS2 hF2 he2 HS1 HF HB1 HP1
  have HP2 : Hid (Calls Tryd.prog 26 #[.pointer (some ⟨b, 0, none⟩), .agg #[.string ⟨#[103]⟩, .string ⟨#[97]⟩, .string ⟨#[49]⟩], .string ⟨#[]⟩] w2 (PutOut F2 b ([] ++ [(freshE gavM1 ⟨#[]⟩, eb1)]) 0 0 gavM2 ⟨#[]⟩ w2)) := put_any gavM2 ⟨#[]⟩ w2 HS2.out ⟨by decide, by decide, by decide⟩
  go_wp2_with fail
  refine HP2.out.mono ?_
  rintro e w3 ⟨rfl, ho3, F3, es3, hS3, -, -, he3⟩
  obtain ⟨eb2, rfl⟩ := he3 putM2
  rw [putM2]
  have HB3 := Lib.hid (HB2.out.trans (ho3.below HB2.out.size HF2.out))
  have hmo := metaOfS_any idM w3 hS3 (by rw [versM]; decide) (by rw [versM]; intro x hx; simp at hx; rcases hx with rfl | rfl <;> decide)
  rw [versM] at hmo
  have HMO : Hid (Calls Tryd.prog 8 #[.pointer (some ⟨b, 0, none⟩), .agg #[.string ⟨#[103]⟩, .string ⟨#[97]⟩]] w3 fun e w' => ∃ v', e = .returned (.tuple #[.agg #[.string ⟨#[103]⟩, .string ⟨#[97]⟩, v', .string ⟨#[50, 45, 115, 110, 97, 112, 115, 104, 111, 116]⟩, .string ⟨#[49]⟩], .bool true]) ∧ (∃ ao c, v' = .slice ao 2 c) ∧ Below w3.heap.size w3 w') := hmo.mono (by
    rintro e w' ⟨v', M, h1, h2, h3, h4, h5⟩
    obtain rfl : M = rowM2 := (srt_uniq ltSV_weak h2 rowM2_srt (h3.symm.trans rowM2_same))
    rw [if_neg (by simp), rowM2_last, rowM2_rel] at h5
    exact ⟨v', h5, h1.shape, h4⟩)
  clear ho3 hS3 he3 HS2 HF2 HB2 HP2 hmo
  go_wp2_with fail
  refine HMO.out.mono ?_
  rintro e w4 ⟨v', rfl, ⟨ao, c, rfl⟩, hb4⟩
  have HB4 := Lib.hid (HB3.out.trans (hb4.mono HB3.out.size))
  clear hb4 HB3 HMO
  go_upto_region 5 with fail
  refine wp_world ?_
  intro W hW
  have x1 : Box W w4.heap.size [.string ⟨#[103]⟩, .string ⟨#[97]⟩, .slice ao 2 c, .string ⟨#[50, 45, 115, 110, 97, 112, 115, 104, 111, 116]⟩, .string ⟨#[49]⟩] := by rw [hW]; exact Box.new w4 [.string ⟨#[103]⟩, .string ⟨#[97]⟩, .slice ao 2 c, .string ⟨#[50, 45, 115, 110, 97, 112, 115, 104, 111, 116]⟩, .string ⟨#[49]⟩] _ _ rfl
  have hb : Below w4.heap.size w4 W := by rw [hW]; exact (Below.refl _ _).alloc (Nat.le_refl _) _
  clear hW
  have HB := Lib.hid (HB4.out.trans (hb.mono HB4.out.size))
  have x2 := x1.cell 2 _ rfl
  have x3 := x1.cell 3 _ rfl
  have x4 := x1.cell 4 _ rfl
  have xl := x1.lt
  clear x1 hb HB4
  go_wp2
  go_ret
  exact ⟨rfl, HB.out⟩

end Go.Proofs.YtecffghcpknmjaaDoor

/- Which Metas the statements look at; the law MetaMays returns true; the conditions stand in the theorems. -/
namespace Go.Proofs.YtecffghcpknmjaaDoor
open Go Go.RowKit

def lightM (m : MetaD) : Bool := decide (m.vers.length ≤ 40) && decide (m.latest.size ≤ 200) && decide (m.rel.size ≤ 200) && decide (m.id.group.size ≤ 200) && decide (m.id.artifact.size ≤ 200) && m.vers.all fun s => decide (s.size ≤ 200)
theorem lightM_sm {m : MetaD} (h : lightM m = true) : MetaSm m ∧ m.latest.size ≤ 200 ∧ m.vers.length ≤ 40 ∧ (∀ x ∈ m.vers, x.size ≤ 200) := by
  unfold lightM at h
  simp only [Bool.and_eq_true, decide_eq_true_eq, List.all_eq_true] at h
  obtain ⟨⟨⟨⟨⟨h1, h2⟩, h3⟩, h4⟩, h5⟩, h6⟩ := h
  exact ⟨⟨by omega, by omega, by omega, fun x hx => by have := h6 x hx; omega⟩, h2, h1, h6⟩
theorem all_drop {l : List S} {k : Nat} (h : k < l.length) (p : S → Bool) : (l.drop k).all p = (p l[k] && (l.drop (k + 1)).all p) := by rw [drop_cons' h, List.all_cons]
set_option maxRecDepth 100000 in
set_option maxHeartbeats 8000000 in
theorem lightM_any (m : MetaD) (v : Value) (w : World) (h : SliceOf 1 strC w v m.vers) :
    Calls Tryd.prog 14 #[metaAg m v] w fun e w' => e = .returned (.bool (lightM m)) ∧ Below w.heap.size w w' := by
  have HS := Lib.hid h
  obtain ⟨ao, c, rfl⟩ := h.shape
  have HM : Hid (lightM m = (decide (m.vers.length ≤ 40) && decide (m.latest.size ≤ 200) && decide (m.rel.size ≤ 200) && decide (m.id.group.size ≤ 200) && decide (m.id.artifact.size ≤ 200) && m.vers.all fun s => decide (s.size ≤ 200))) := rfl
  clear h
  obtain ⟨⟨mg, ma⟩, l, la, re⟩ := m
  simp only at HS HM
  obtain ⟨MM, hMM⟩ : ∃ x, lightM ⟨⟨mg, ma⟩, l, la, re⟩ = x := ⟨_, rfl⟩
  rw [hMM] at HM ⊢
  clear hMM
  unfold metaAg metaC
  go_enter Tryd.func14, Tryd.ntmps14
  go_upto_region 1 with fail
  refine wp_world ?_
  intro W hW
  have x1 : Box W w.heap.size [.string mg, .string ma, .slice ao l.length c, .string la, .string re] := by rw [hW]; exact Box.new w [.string mg, .string ma, .slice ao l.length c, .string la, .string re] _ _ rfl
  have hb : Below w.heap.size w W := by rw [hW]; exact (Below.refl _ w).alloc (Nat.le_refl _) _
  clear hW
  have HX := Lib.hid x1
  have HB := Lib.hid hb
  clear x1 hb
  have HSW := Lib.hid (HS.out.below HB.out)
  have x0 := HX.out.cell 0 _ rfl
  have x1 := HX.out.cell 1 _ rfl
  have x2 := HX.out.cell 2 _ rfl
  have x3 := HX.out.cell 3 _ rfl
  have x4 := HX.out.cell 4 _ rfl
  have xl := HX.out.lt
  by_cases h1 : l.length ≤ 40
  · have dh1 : decide ((40 : Int) < (l.length : Int)) = false := decide_eq_false (by omega)
    have dh1n : decide (40 < l.length) = false := decide_eq_false (by omega)
    have dh1p : ¬ (40 : Int) < (l.length : Int) := by omega
    rw [decide_eq_true h1] at HM
    by_cases h2 : la.size ≤ 200
    · have dh2 : decide ((200 : Int) < (la.size : Int)) = false := decide_eq_false (by omega)
      have dh2n : decide (200 < la.size) = false := decide_eq_false (by omega)
      have dh2p : ¬ (200 : Int) < (la.size : Int) := by omega
      rw [decide_eq_true h2] at HM
      by_cases h3 : re.size ≤ 200
      · have dh3 : decide ((200 : Int) < (re.size : Int)) = false := decide_eq_false (by omega)
        have dh3n : decide (200 < re.size) = false := decide_eq_false (by omega)
        have dh3p : ¬ (200 : Int) < (re.size : Int) := by omega
        rw [decide_eq_true h3] at HM
        by_cases h4 : mg.size ≤ 200
        · have dh4 : decide ((200 : Int) < (mg.size : Int)) = false := decide_eq_false (by omega)
          have dh4n : decide (200 < mg.size) = false := decide_eq_false (by omega)
          have dh4p : ¬ (200 : Int) < (mg.size : Int) := by omega
          rw [decide_eq_true h4] at HM
          by_cases h5 : ma.size ≤ 200
          · have dh5 : decide ((200 : Int) < (ma.size : Int)) = false := decide_eq_false (by omega)
            have dh5n : decide (200 < ma.size) = false := decide_eq_false (by omega)
            have dh5p : ¬ (200 : Int) < (ma.size : Int) := by omega
            rw [decide_eq_true h5] at HM
            have HM2 : Hid (MM = (l.drop 0).all fun s => decide (s.size ≤ 200)) := by show _ = _; rw [HM.out]; simp
            clear HM h2 h3 h4 h5
            have HL40 := Lib.hid h1
            go_wp2
            clear dh1 dh1n dh1p dh2 dh2n dh2p dh3 dh3n dh3p dh4 dh4n dh4p dh5 dh5n dh5p h1
            go_loopw [38] (fun i wr => ∃ k : Nat, i = .int .i64 k ∧ k ≤ l.length ∧ W = wr ∧ Hid (MM = (l.drop k).all fun s => decide (s.size ≤ 200))) (fun i _ => l.length - (intOf i).toNat)
            case atStart => exact ⟨0, rfl, Nat.zero_le _, rfl, HM2⟩
            case round =>
              clear HM2
              obtain ⟨k, rfl, hk, rfl, HM⟩ := hrel
              by_cases hlt : k < l.length
              · obtain ⟨b, o, hao, hbl, hc⟩ := HSW.out.at1 hlt
                cases hao
                have d1 : (k : Int) < (l.length : Int) := by omega
                have wk : IntKind.i64.wrap ((k : Int) + 1) = (k : Int) + 1 := IntWalk.i64_in _ (by have := HL40.out; omega)
                have HD : Hid (MM = (decide (l[k].size ≤ 200) && (l.drop (k + 1)).all fun s => decide (s.size ≤ 200))) := by show _ = _; rw [HM.out, all_drop hlt]
                generalize l[k] = x at *
                clear HM
                by_cases hx : x.size ≤ 200
                · have e1 : ¬ (200 : Int) < (x.size : Int) := by omega
                  rw [decide_eq_true hx, Bool.true_and] at HD
                  clear hx
                  go_wp2
                  go_roundw
                  case rel => exact ⟨k + 1, by first | rfl | go_num, hlt, (by trivial), HD⟩
                  case measure => simp [intOf]; omega
                · have e1 : (200 : Int) < (x.size : Int) := by omega
                  rw [decide_eq_false hx, Bool.false_and] at HD
                  clear hx
                  go_wp2
                  go_ret
                  exact ⟨by rw [HD.out]; rfl, HB.out⟩
              · obtain rfl : k = l.length := by omega
                have d1 : ¬ (l.length : Int) < (l.length : Int) := by omega
                have HD : Hid (MM = true) := by show _ = _; rw [HM.out, List.drop_length]; rfl
                clear HM
                go_wp2
                go_ret
                exact ⟨by rw [HD.out]; rfl, HB.out⟩
          · have dh5 : decide ((200 : Int) < (ma.size : Int)) = true := decide_eq_true (by omega)
            have dh5n : decide (200 < ma.size) = true := decide_eq_true (by omega)
            have dh5p : (200 : Int) < (ma.size : Int) := by omega
            rw [decide_eq_false h5] at HM
            clear h5
            go_wp2
            go_ret
            exact ⟨by rw [HM.out]; simp, HB.out⟩
        · have dh4 : decide ((200 : Int) < (mg.size : Int)) = true := decide_eq_true (by omega)
          have dh4n : decide (200 < mg.size) = true := decide_eq_true (by omega)
          have dh4p : (200 : Int) < (mg.size : Int) := by omega
          rw [decide_eq_false h4] at HM
          clear h4
          go_wp2
          go_ret
          exact ⟨by rw [HM.out]; simp, HB.out⟩
      · have dh3 : decide ((200 : Int) < (re.size : Int)) = true := decide_eq_true (by omega)
        have dh3n : decide (200 < re.size) = true := decide_eq_true (by omega)
        have dh3p : (200 : Int) < (re.size : Int) := by omega
        rw [decide_eq_false h3] at HM
        clear h3
        go_wp2
        go_ret
        exact ⟨by rw [HM.out]; simp, HB.out⟩
    · have dh2 : decide ((200 : Int) < (la.size : Int)) = true := decide_eq_true (by omega)
      have dh2n : decide (200 < la.size) = true := decide_eq_true (by omega)
      have dh2p : (200 : Int) < (la.size : Int) := by omega
      rw [decide_eq_false h2] at HM
      clear h2
      go_wp2
      go_ret
      exact ⟨by rw [HM.out]; simp, HB.out⟩
  · have dh1 : decide ((40 : Int) < (l.length : Int)) = true := decide_eq_true (by omega)
    have dh1n : decide (40 < l.length) = true := decide_eq_true (by omega)
    have dh1p : (40 : Int) < (l.length : Int) := by omega
    rw [decide_eq_false h1] at HM
    clear h1
    go_wp2
    go_ret
    exact ⟨by rw [HM.out]; simp, HB.out⟩
set_option maxRecDepth 100000 in
set_option maxHeartbeats 8000000 in
theorem metaMays_of (HPT : RefPartsOk) (a b : MetaD) (va vb : Value) (w : World) (ha : SliceOf 1 strC w va a.vers) (hb : SliceOf 1 strC w vb b.vers) :
    Calls Tryd.prog 5 #[metaAg a va, metaAg b vb] w fun e w' => e = .returned (.bool true) ∧ Below w.heap.size w w' := by
  obtain ⟨ao, ac, rfl⟩ := ha.shape
  obtain ⟨bo, bc, rfl⟩ := hb.shape
  have HA := Lib.hid ha
  have HBS := Lib.hid hb
  have HPT' := Lib.hid HPT
  clear ha hb HPT
  have HLA : Hid (∀ W, Below w.heap.size w W → Calls Tryd.prog 14 #[metaAg a (.slice ao a.vers.length ac)] W fun e w' => e = .returned (.bool (lightM a)) ∧ Below W.heap.size W w') := fun W h => lightM_any a _ W (HA.out.below h)
  have HLB : Hid (∀ W, Below w.heap.size w W → Calls Tryd.prog 14 #[metaAg b (.slice bo b.vers.length bc)] W fun e w' => e = .returned (.bool (lightM b)) ∧ Below W.heap.size W w') := fun W h => lightM_any b _ W (HBS.out.below h)
  have HCM : Hid (lightM a = true → lightM b = true → ∀ W, Below w.heap.size w W →
      Calls Tryd.prog 13 #[metaAg a (.slice ao a.vers.length ac)] W (fun e w' => e = .returned (.bool (mayM a)) ∧ Below W.heap.size W w') ∧
      Calls Tryd.prog 16 #[metaAg a (.slice ao a.vers.length ac)] W (fun e w' => e = .returned (.bool (mayM a)) ∧ Below W.heap.size W w') ∧
      Calls Tryd.prog 19 #[.string a.latest] W (fun e w' => e = .returned (.bool (snapV a.latest.data.toList)) ∧ Below W.heap.size W w') ∧
      Calls Tryd.prog 20 #[.string a.latest] W (fun e w' => e = .returned (.bool (snapV a.latest.data.toList)) ∧ Below W.heap.size W w') ∧
      Calls Tryd.prog 21 #[metaAg a (.slice ao a.vers.length ac), metaAg b (.slice bo b.vers.length bc)] W (fun e w' => e = .returned (.bool (decide (a = b))) ∧ Below W.heap.size W w') ∧
      Calls Tryd.prog 10 #[metaAg a (.slice ao a.vers.length ac), metaAg b (.slice bo b.vers.length bc)] W (fun e w' => e = .returned (.bool (decide (a = b))) ∧ Below W.heap.size W w') ∧
      Calls Tryd.prog 21 #[metaAg a (.slice ao a.vers.length ac), metaAg a (.slice ao a.vers.length ac)] W (fun e w' => e = .returned (.bool true) ∧ Below W.heap.size W w')) := fun la lb W hb => by
    obtain ⟨s1, s2, s3, s4⟩ := lightM_sm la
    obtain ⟨t1, t2, t3, t4⟩ := lightM_sm lb
    have h1 := HA.out.below hb
    have h2 := HBS.out.below hb
    exact ⟨metaMay_any a _ W h1 s1, refMetaMay_of HPT'.out a _ W h1 s1, isSnapshot_any _ W (by omega), refIsSnapshot_of HPT'.out _ W (by omega), metaSame_any a b _ _ W h1 h2 (by omega) (by omega), refMetaSame_any a b _ _ W h1 h2 (by omega), by have h9 := metaSame_any a a _ _ W h1 h1 (by omega) (by omega); rw [show decide (a = a) = true from decide_eq_true rfl] at h9; exact h9⟩
  clear HPT' HA HBS
  obtain ⟨⟨ag, aa⟩, al, at', ar⟩ := a
  obtain ⟨⟨bg, ba⟩, bl, bt, br⟩ := b
  unfold metaAg metaC at *
  simp only at HLA HLB HCM ⊢
  generalize hla : lightM ⟨⟨ag, aa⟩, al, at', ar⟩ = la at *
  generalize hlb : lightM ⟨⟨bg, ba⟩, bl, bt, br⟩ = lb at *
  generalize mayM ⟨⟨ag, aa⟩, al, at', ar⟩ = qm at *
  generalize snapV at'.data.toList = qs at *
  generalize decide ((⟨⟨ag, aa⟩, al, at', ar⟩ : MetaD) = ⟨⟨bg, ba⟩, bl, bt, br⟩) = qe at *
  clear hla hlb
  go_enter Tryd.func5, Tryd.ntmps5
  go_upto_region 1 with fail
  refine wp_world ?_
  intro W hW
  have x1 : Box W w.heap.size [.string ag, .string aa, .slice ao al.length ac, .string at', .string ar] := by rw [hW]; exact (Box.new w [.string ag, .string aa, .slice ao al.length ac, .string at', .string ar] _ _ rfl).alloc _
  have y1 : Box W (w.heap.size + 1) [.string bg, .string ba, .slice bo bl.length bc, .string bt, .string br] := by rw [hW]; exact Box.new _ [.string bg, .string ba, .slice bo bl.length bc, .string bt, .string br] _ _ (by simp)
  have hb : Below w.heap.size w W := by rw [hW]; exact ((Below.refl _ w).alloc (Nat.le_refl _) _).alloc (by simp) _
  clear hW
  have HX := Lib.hid x1
  have HY := Lib.hid y1
  have HB := Lib.hid hb
  clear x1 y1 hb
  have x0 := HX.out.cell 0 _ rfl
  have x1 := HX.out.cell 1 _ rfl
  have x2 := HX.out.cell 2 _ rfl
  have x3 := HX.out.cell 3 _ rfl
  have x4 := HX.out.cell 4 _ rfl
  have xl := HX.out.lt
  go_wp2_with fail
  refine (HLA.out W HB.out).mono ?_
  rintro e w1 ⟨rfl, hb1⟩
  have HX1 := Lib.hid (HX.out.below hb1 HX.out.lt)
  have HY1 := Lib.hid (HY.out.below hb1 HY.out.lt)
  have HB1 := Lib.hid (HB.out.trans (hb1.mono HB.out.size))
  clear hb1 x0 x1 x2 x3 x4 xl HX HY HB HLA
  have y0 := HY1.out.cell 0 _ rfl
  have y1 := HY1.out.cell 1 _ rfl
  have y2 := HY1.out.cell 2 _ rfl
  have y3 := HY1.out.cell 3 _ rfl
  have y4 := HY1.out.cell 4 _ rfl
  have yl := HY1.out.lt
  cases la with
  | false =>
    go_wp2_with fail
    refine (metaLives_any w1).mono ?_
    rintro e w2 ⟨rfl, hb2⟩
    have HB2 := Lib.hid (HB1.out.trans (hb2.mono HB1.out.size))
    clear hb2
    go_wp2
    go_ret
    exact ⟨rfl, HB2.out⟩
  | true =>
    go_wp2_with fail
    refine (HLB.out w1 HB1.out).mono ?_
    rintro e w2 ⟨rfl, hb2⟩
    have HX2 := Lib.hid (HX1.out.below hb2 HX1.out.lt)
    have HY2 := Lib.hid (HY1.out.below hb2 HY1.out.lt)
    have HB2 := Lib.hid (HB1.out.trans (hb2.mono HB1.out.size))
    clear hb2 y0 y1 y2 y3 y4 yl HX1 HY1 HB1 HLB
    cases lb with
    | false =>
      go_wp2_with fail
      refine (metaLives_any w2).mono ?_
      rintro e w3 ⟨rfl, hb3⟩
      have HB3 := Lib.hid (HB2.out.trans (hb3.mono HB2.out.size))
      clear hb3
      go_wp2
      go_ret
      exact ⟨rfl, HB3.out⟩
    | true =>
      have hcm := fun z : Later w2 => HCM.out (by first | trivial | rfl) (by first | trivial | rfl) z.at_ (HB2.out.trans (z.below.mono HB2.out.size))
      have H1 := Lib.hid (fun z : Later w2 => Later.call (hcm z).1)
      have H2 := Lib.hid (fun z : Later w2 => Later.call (hcm z).2.1)
      have H3 := Lib.hid (fun z : Later w2 => Later.call (hcm z).2.2.1)
      have H4 := Lib.hid (fun z : Later w2 => Later.call (hcm z).2.2.2.1)
      have H5 := Lib.hid (fun z : Later w2 => Later.call (hcm z).2.2.2.2.1)
      have H6 := Lib.hid (fun z : Later w2 => Later.call (hcm z).2.2.2.2.2.1)
      have H7 := Lib.hid (fun z : Later w2 => Later.call (hcm z).2.2.2.2.2.2)
      have H8 := Lib.hid (fun z : Later w2 => Later.call (metaLives_any z.at_))
      clear hcm HCM
      have x0 := HX2.out.cell 0 _ rfl
      have x1 := HX2.out.cell 1 _ rfl
      have x2 := HX2.out.cell 2 _ rfl
      have x3 := HX2.out.cell 3 _ rfl
      have x4 := HX2.out.cell 4 _ rfl
      have xl := HX2.out.lt
      have y0 := HY2.out.cell 0 _ rfl
      have y1 := HY2.out.cell 1 _ rfl
      have y2 := HY2.out.cell 2 _ rfl
      have y3 := HY2.out.cell 3 _ rfl
      have y4 := HY2.out.cell 4 _ rfl
      have yl := HY2.out.lt
      have hLL := @Later.cells w2
      have e1 : (qm == qm) = true := by simp
      have e2 : (qs == qs) = true := by simp
      have e3 : (qe == qe) = true := by simp
      go_wp2_with fail
      refine region_later (by kernel_rfl) (by kernel_rfl) ?_
      repeat (go_big_quiet_step ((first | (go_at_call 13; with_reducible exact H1.out _) | (go_at_call 16; with_reducible exact H2.out _) | (go_at_call 19; with_reducible exact H3.out _) | (go_at_call 20; with_reducible exact H4.out _) | (go_at_call 21; first | (with_reducible exact H5.out _) | (with_reducible exact H7.out _)) | (go_at_call 10; with_reducible exact H6.out _) | (go_at_call 11; with_reducible exact H8.out _))))
      refine wpQuiet_nil ?_
      rintro _ ⟨nx, rfl⟩
      have HBn := Lib.hid (HB2.out.trans (nx.below.mono HB2.out.size))
      clear hLL x0 x1 x2 x3 x4 xl y0 y1 y2 y3 y4 yl H1 H2 H3 H4 H5 H6 H7 H8
      generalize nx.at_ = wn at *
      go_wp2
      go_ret
      exact ⟨rfl, HBn.out⟩

end Go.Proofs.YtecffghcpknmjaaDoor

/- From a walk to a row whose library variables are laid: a law that returns true and turns nothing that was there. -/
namespace Go.Proofs.YtecffghcpknmjaaDoor
open Go Go.ChangeShapes Go.WideShapes Go.ChangeAt Go.RowKit

theorem own : ownKnob Tryd.prog.godebug = none := by kernel_rfl
theorem laidOut : laidOutB Tryd.prog = true := by kernel_rfl

theorem trodAll_below {H : Type} {enc : TypeId × Value → H} {W W' : World} (hb : Below W.heap.size W W') : ∀ {ts : List TypeId} {vs : List Value} {ds : List (DataW H)} {ps : List MemPlace},
    (∀ t ∈ ts, Tryd.prog.readableRec t = true ∧ t < Tryd.prog.types.size) → DataW.TrodAll enc Tryd.prog W 0 (fun _ => true) true ts vs ds ps → (∀ x ∈ ps, x.block < W.heap.size) →
    DataW.TrodAll enc Tryd.prog W' 0 (fun b => decide (b < W.heap.size)) true ts vs ds ps
  | [], [], [], _, _, h, _ => h
  | t :: ts, v :: vs, d :: ds, ps, hr, h, hlt => by
    obtain ⟨p, q, h1, h2, rfl⟩ := h
    exact ⟨p, q, Below.trod laidOut (hr t (by simp)).1 (hr t (by simp)).2 h1 hb (fun x hx => hlt x (by simp [hx])),
      trodAll_below hb (fun u hu => hr u (by simp [hu])) h2 (fun x hx => hlt x (by simp [hx])), rfl⟩
  | [], [], _ :: _, _, _, h, _ => h.elim
  | [], _ :: _, _, _, _, h, _ => h.elim
  | _ :: _, [], _, _, _, h, _ => h.elim
  | _ :: _, _ :: _, [], _, _, h, _ => h.elim

/-- What the listed variables hold. -/
def laidL : List (String × DataW Unit) := [("unicode/utf8.acceptRanges", Rows.laid_unicode_utf8_acceptRanges), ("unicode/utf8.first", Rows.laid_unicode_utf8_first)]

/-- The wrap of a tied row, the world's shape kept. -/
theorem handed_tied {H : Type} {enc : TypeId × Value → H} {a : Assume} {C : Checked} {os : Os} {f : FuncId} {fn : Func} {s : ChangeSpec} {conds : List PathCond} {apart fresh handsOn again : Bool} {X : World → Array Value → Prop}
    (own : ownKnob C.prog.godebug = none) (started : os.Started) (noInit : C.prog.inits.idxOf? f = none) (hfn : C.prog.funcs[f]? = some fn)
    (witness : ∃ (w : World) (tape : Tape) (i : Input), w.os = os ∧ (w.forCall tape i).Shaped C.prog ∧ i.vars = [] ∧ Input.okWide C.prog (w.forCall tape i) .any w.heap.size f i ∧
      ((s.pre enc C.prog fn conds apart (w.forCall tape i).memory i.args ∧ X (w.forCall tape i).memory i.args) ∧ sizedMet enc C.prog fn (OpenSpec.ofChange s) apart (w.forCall tape i).memory i.args) ∧ a.holds C.prog (lone (Frame.enter C.prog f i.args .normal) [] (w.forCall tape i)))
    (contract : ∀ (W : World) (base : Nat) (args : Array Value) (ds gs : List (DataW H)) (before : List MemPlace),
      (∀ (j : Nat) t v, fn.params[j]? = some t → args[j]? = some v → Value.okWide C.prog W .any base t v) →
      DataW.Whole enc C.prog fn.params.toList s.vars apart W args.toList ds gs before →
      conds.all (PathCond.test C.prog ⟨fn.params.toList, ds, s.plain.varTypes C.prog, gs⟩) = true →
      W.ShapedOpen C.prog →
      Calls C.prog f args W fun e W' => ∃ v, e = .returned v ∧ s.post enc C.prog fn apart fresh handsOn again W args v W') :
    ReturnsInHanded a C os f .any (fun w args => (s.pre enc C.prog fn conds apart w args ∧ X w args) ∧ sizedMet enc C.prog fn (OpenSpec.ofChange s) apart w args) (s.post enc C.prog fn apart fresh handsOn again) := by
  refine returnsInHanded_of_calls own started noInit witness ?_
  intro w tape i _ hsh _ hok hpre hholds
  obtain ⟨_, _, _, fn', hfn', _, _, _, _, hval⟩ := hok
  have e : fn' = fn := Option.some.inj (hfn'.symm.trans hfn)
  subst e
  obtain ⟨⟨⟨ds, gs, before, hw, hc⟩, -⟩, -⟩ := hpre
  have hw' := DataW.Whole.of_heap (w' := w.forCall tape i) (by rfl) hw
  refine (contract (w.forCall tape i) w.heap.size i.args ds gs before hval hw' hc hsh).mono fun e W' ⟨v, he, hp⟩ => ?_
  subst he
  exact ChangeSpec.post_blind hp

end Go.Proofs.YtecffghcpknmjaaDoor

/- The closed facts of the row MetaMays, one by one; no conditions. -/
namespace Go.Proofs.YtecffghcpknmjaaDoor
open Go Go.ChangeShapes Go.WideShapes Go.ChangeAt Go.RowKit Go.ChangeMaps

theorem mmJandT {a b : Bool} (ha : a = true) (hb : b = true) : (a && b) = true := by rw [ha, hb]; rfl
theorem mmJ0 : (Rows.metaMaysRow.wf (OpenSpec.ofChange Rows.metaMaysSpec)) = true := by kernel_rfl
theorem mmJ1 : (laidOutB Tryd.prog) = true := by kernel_rfl
theorem mmJ2 : (mapsRowed Tryd.prog) = true := by kernel_rfl
theorem mmJ3 : (Tryd.f5.params.all (Tryd.prog.readableRec ·)) = true := by kernel_rfl
theorem mmJ4 : (namedTie Tryd.prog Rows.metaMaysRow.named Rows.metaMaysSpec.vars) = true := by kernel_rfl
theorem mmJ5 : ((Rows.metaMaysRow.stops == [])) = true := by kernel_rfl
theorem mmJ6 : ((Tryd.prog.stops == [])) = true := by kernel_rfl
theorem mmJ7 : ((Rows.metaMaysRow.knobs == [])) = true := by kernel_rfl
theorem mmJ8 : ((Tryd.prog.stopKnobs == [])) = true := by kernel_rfl
theorem mmJ9 : ((Rows.metaMaysRow.inPlace == Tryd.prog.inPlace 5)) = true := by kernel_rfl
theorem mmJ10 : ((Rows.metaMaysRow.unfollowed == Tryd.prog.unfollowed 5)) = true := by kernel_rfl
theorem mmJ11 : ((Rows.metaMaysRow.recurses == Tryd.prog.recurses 5)) = true := by kernel_rfl
theorem mmJ12 : ((Rows.metaMaysRow.named == Tryd.prog.varsNamed 5)) = true := by kernel_rfl
theorem mmJ13 : ((Rows.metaMaysRow.maps == (Tryd.f5.params.toList ++ Rows.metaMaysSpec.plain.varTypes Tryd.prog).any (Tryd.prog.mapsRec ·))) = true := by kernel_rfl
theorem mmJ14 : ((Rows.metaMaysRow.ifaces == (Tryd.f5.params.toList ++ Rows.metaMaysSpec.plain.varTypes Tryd.prog).any (Tryd.prog.ifacesRec ·))) = true := by kernel_rfl
theorem mmJ15 : ((Rows.metaMaysRow.mapsOut == Tryd.prog.mapsAmong Tryd.f5.resultTypes.toList)) = true := by kernel_rfl
theorem mmJ16 : ((Rows.metaMaysRow.loops == (Tryd.f5.params.toList ++ Rows.metaMaysSpec.plain.varTypes Tryd.prog).any (Tryd.prog.loopsFrom ·))) = true := by kernel_rfl
theorem mmJ17 : ((Rows.metaMaysRow.wideKeys == (Tryd.f5.params.toList ++ Rows.metaMaysSpec.plain.varTypes Tryd.prog ++ Tryd.f5.resultTypes.toList).any (Tryd.prog.wideKeysFrom ·))) = true := by kernel_rfl
theorem mmJ18 : (Rows.metaMaysSpec.vars.all (Tryd.prog.varReadable ·)) = true := by kernel_rfl
theorem mmJ19 : (Tryd.f5.resultTypes.all (fun t => Tryd.prog.readableRec t && decide (t < Tryd.prog.types.size))) = true := by kernel_rfl
theorem mmJ20 : ((Rows.metaMaysRow.ifacesOut == Tryd.f5.resultTypes.toList.any (Tryd.prog.ifacesRec ·))) = true := by kernel_rfl
theorem mmJ21 : ((Rows.metaMaysRow.loopsOut == Tryd.f5.resultTypes.toList.any (Tryd.prog.loopsFrom ·))) = true := by kernel_rfl
theorem mmJ22 : ((Rows.metaMaysRow.plainKeys == Tryd.prog.plainKeys)) = true := by kernel_rfl
theorem mmJ23 : (Rows.metaMaysRow.shortTexts.isNone) = true := by kernel_rfl
theorem mmJ24 : (Tryd.prog.stopsHeard) = true := by kernel_rfl
theorem mmJ25 : (Tryd.prog.mayEnter) = true := by kernel_rfl
theorem mmJ26 : ((Rows.metaMaysRow.lifted == Tryd.prog.liftsFinal)) = true := by kernel_rfl
theorem mmJ27 : ((Tryd.prog.make == some Rows.metaMaysRow.make)) = true := by kernel_rfl
theorem mmJ28 : ((Rows.metaMaysRow.kinds == (if Rows.metaMaysRow.domain.isEmpty then [] else Tryd.f5.params.toList.map fun t => match Tryd.prog.underlying t with | some (.int k) => some k | _ => none))) = true := by kernel_rfl
theorem mmJ29 : ((Rows.metaMaysRow.pinned == Rows.metaMaysRow.pinnedBy)) = true := by kernel_rfl
theorem mmJ30 : ((Rows.metaMaysRow.veiled == (Tryd.f5.params.toList ++ Rows.metaMaysSpec.plain.varTypes Tryd.prog ++ Tryd.f5.resultTypes.toList).any (Tryd.prog.veiledRec ·))) = true := by kernel_rfl
theorem mmJ31 : (Rows.metaMaysRow.veiledFits Tryd.prog Tryd.f5.params.toList (Tryd.f5.params.toList ++ Rows.metaMaysSpec.plain.varTypes Tryd.prog ++ Tryd.f5.resultTypes.toList)) = true := by kernel_rfl
set_option maxRecDepth 100000 in
theorem metaMays_facts : joinedFacts Tryd.prog 5 Tryd.f5 Rows.metaMaysSpec Rows.metaMaysRow = true := mmJandT (mmJandT (mmJandT (mmJandT (mmJandT (mmJandT (mmJandT (mmJandT (mmJandT (mmJandT (mmJandT (mmJandT (mmJandT (mmJandT (mmJandT (mmJandT (mmJandT (mmJandT (mmJandT (mmJandT (mmJandT (mmJandT (mmJandT (mmJandT (mmJandT (mmJandT (mmJandT (mmJandT (mmJandT (mmJandT (mmJandT mmJ0 mmJ1) mmJ2) mmJ3) mmJ4) mmJ5) mmJ6) mmJ7) mmJ8) mmJ9) mmJ10) mmJ11) mmJ12) mmJ13) mmJ14) mmJ15) mmJ16) mmJ17) mmJ18) mmJ19) mmJ20) mmJ21) mmJ22) mmJ23) mmJ24) mmJ25) mmJ26) mmJ27) mmJ28) mmJ29) mmJ30) mmJ31

end Go.Proofs.YtecffghcpknmjaaDoor

/- From the readings of the arguments to what the walks ask: a Meta that can be read is one in memory. -/
namespace Go.Proofs.YtecffghcpknmjaaDoor
open Go Go.RowKit

variable {H : Type} {enc : TypeId × Value → H} {W : World} {sp : Nat → Bool} {held : Bool}

/-- Whatever reads as type t are the cells of some a that is all right. -/
def Opens {α : Type} (enc : TypeId × Value → H) (W : World) (sp : Nat → Bool) (held : Bool) (t : TypeId) (C : α → List Value) (Ok : α → Prop) : Prop :=
  ∀ fuel cs x, DataW.trod enc Tryd.prog W 0 sp held fuel t cs = some x → ∃ a, cs = C a ∧ Ok a

theorem opens_string : Opens enc W sp held 9 strC (fun s => s.size ≤ maxLen) := fun _ _ _ h => by
  obtain ⟨s, h1, -, h2⟩ := DataW.trod_string Tryd.underlying9 h
  exact ⟨s, h1, h2⟩
theorem cells_of {w : World} {a : Addr} {n : Nat} {cs : List Value} (h : w.cells? 0 a n = some cs) (hn : 0 < n) : cs.length = n ∧ a.spot = none ∧ a.block < w.heap.size ∧ ∀ j u, cs[j]? = some u → w.cell? ⟨a.block, a.off + j, none⟩ = some u := by
  unfold World.cells? at h
  rw [if_pos (Nat.zero_le _)] at h
  have hl : cs.length = n := by simpa using mapM_some_length h
  have hg : ∀ j, j < n → w.cell? (a.add j) = cs[j]? := fun j hj => mapM_some_get h j j (by simp [hj])
  have h00 : w.cell? a = some cs[0] := by
    have := hg 0 hn
    rw [show a.add 0 = a from rfl] at this
    rw [this]; simp
  have hsp : a.spot = none := by
    cases hs : a.spot with
    | none => rfl
    | some x =>
      exfalso
      simp only [World.cell?, hs, Option.isSome_some, if_true] at h00
      split at h00 <;> cases h00
  obtain ⟨b, o, s⟩ := a
  cases hsp
  refine ⟨hl, rfl, World.block_lt_of_cell? w _ h00, fun j u hu => ?_⟩
  have hj : j < n := by rw [← hl]; exact (List.getElem?_eq_some_iff.1 hu).1
  have := hg j hj
  rw [Addr.add_lit, hu] at this
  exact this

theorem list_snoc {α : Type} {l : List α} {y : α} {i : Nat} {z : α} (h : (l ++ [y])[i]? = some z) : (i < l.length ∧ l[i]? = some z) ∨ (i = l.length ∧ z = y) := by
  by_cases hi : i < l.length
  · left; rw [List.getElem?_append_left hi] at h; exact ⟨hi, h⟩
  · right
    rw [List.getElem?_append_right (by omega)] at h
    by_cases h1 : i - l.length = 0
    · rw [h1] at h; simp at h; exact ⟨by omega, h.symm⟩
    · rw [List.getElem?_eq_none (by simp; omega)] at h; cases h

theorem list_of {α : Type} {len : Nat} {P : Nat → α → Prop} (h : ∀ i, i < len → ∃ y, P i y) : ∃ l : List α, l.length = len ∧ ∀ i y, l[i]? = some y → P i y := by
  induction len with
  | zero => exact ⟨[], rfl, fun i y h => by simp at h⟩
  | succ len ih =>
    obtain ⟨l, hl, hP⟩ := ih (fun i hi => h i (by omega))
    obtain ⟨y, hy⟩ := h len (by omega)
    refine ⟨l ++ [y], by simp [hl], fun i z hz => ?_⟩
    rcases list_snoc hz with ⟨-, h1⟩ | ⟨rfl, rfl⟩
    · exact hP i z h1
    · rw [hl]; exact hy

theorem opens_slice {α : Type} {t e n : Nat} {C : α → List Value} {Ok : α → Prop} (ht : Tryd.prog.underlying t = some (.slice e)) (hn : Tryd.prog.cellsOf e = n) (h0 : 0 < n) (he : Opens enc W sp held e C Ok) :
    Opens enc W sp held t (fun v : Value => [v]) (fun v => ∃ l, SliceOf n C W v l ∧ ∀ a ∈ l, Ok a) := fun fuel cs x h => by
  rcases Deep.open_slice ht h with ⟨rfl, -⟩ | ⟨a, len, cap, m, n', D, Pl, rfl, -, hlc, hcm, hm, -, hel⟩
  · exact ⟨_, rfl, [], SliceOf.nil, by simp⟩
  · rw [hn] at hel
    have hlm : len ≤ m := by rw [hm]; split <;> omega
    obtain ⟨l, hl, hP⟩ := list_of (len := len) (P := fun i y => W.cells? 0 (a.add (i * n)) n = some (C y) ∧ Ok y) (fun i hi => by
      obtain ⟨cs', h1, h2⟩ := hel i (by omega)
      obtain ⟨y, rfl, hy⟩ := he _ _ _ h2
      exact ⟨y, h1, hy⟩)
    refine ⟨_, rfl, l, ⟨some a, cap, by rw [hl], by omega, hcm, by simp, fun i y hy => ?_⟩, fun y hy => ?_⟩
    · have hil : i < len := by rw [← hl]; exact (List.getElem?_eq_some_iff.1 hy).1
      obtain ⟨y0, hy0⟩ : ∃ y0, l[0]? = some y0 := ⟨l[0]'(by omega), by simp⟩
      obtain ⟨-, hs, hb, -⟩ := cells_of (hP 0 y0 hy0).1 h0
      rw [Nat.zero_mul, show a.add 0 = a from rfl] at hs hb
      obtain ⟨b, o, s⟩ := a
      cases hs
      obtain ⟨-, -, -, hc⟩ := cells_of (hP i y hy).1 h0
      rw [Addr.add_lit] at hc
      exact ⟨b, o, rfl, hb, hc⟩
    · obtain ⟨i, hi, rfl⟩ := List.mem_iff_getElem.1 hy
      exact (hP i _ (by simp [hi])).2

theorem field1 {c : Value} {l : List Value} {k : Nat} (h : l[k]? = some c) : (l.drop k).take 1 = [c] := by
  obtain ⟨hk, rfl⟩ := List.getElem?_eq_some_iff.1 h
  rw [List.drop_eq_getElem_cons hk]; rfl

theorem cells1 {t : Nat} (h : Tryd.prog.cellsOf t = 1) {l : List Value} {k : Nat} {c : Value} (hc : l[k]? = some c) : (l.drop k).take (Tryd.prog.cellsOf t) = [c] := by rw [h, field1 hc]

theorem cellsOf_str : Tryd.prog.cellsOf 9 = 1 := by kernel_rfl
theorem cellsOf_id : Tryd.prog.cellsOf 24 = 2 := by kernel_rfl
theorem cellsOf_strs : Tryd.prog.cellsOf 29 = 1 := by kernel_rfl
theorem cellsOf_meta : Tryd.prog.cellsOf 31 = 5 := by kernel_rfl
theorem le_max {n : Nat} (h : n ≤ maxLen) : n ≤ 9223372036854775807 := Nat.le_trans h (by decide)
theorem lenE2 {l : List Value} (h : l.length = 2) : ∃ c0 c1, l = [c0, c1] := by
  match l, h with
  | [c0, c1], _ => exact ⟨c0, c1, rfl⟩
theorem lenE5 {l : List Value} (h : l.length = 5) : ∃ c0 c1 c2 c3 c4, l = [c0, c1, c2, c3, c4] := by
  match l, h with
  | [c0, c1, c2, c3, c4], _ => exact ⟨c0, c1, c2, c3, c4, rfl⟩

theorem opens_id : Opens enc W sp held 24 idC (fun i => i.group.size ≤ maxLen ∧ i.artifact.size ≤ maxLen) := fun fuel cs x h => by
  obtain ⟨xs, n, -, -, hl, hxs, hf⟩ := DataW.trod_struct Tryd.underlying24 h
  rw [cellsOf_id] at hl
  obtain ⟨c0, c1, rfl⟩ := lenE2 hl
  have f0 : DataW.trod enc Tryd.prog W 0 sp held n 9 (([c0, c1].drop 0).take (Tryd.prog.cellsOf 9)) = xs[0]? := hf 0 _ rfl
  rw [cellsOf_str, List.getElem?_eq_getElem (by rw [hxs]; decide)] at f0
  have f1 : DataW.trod enc Tryd.prog W 0 sp held n 9 (([c0, c1].drop 1).take (Tryd.prog.cellsOf 9)) = xs[1]? := hf 1 _ rfl
  rw [cellsOf_str, List.getElem?_eq_getElem (by rw [hxs]; decide)] at f1
  obtain ⟨a0, h0, k0⟩ := opens_string _ _ _ f0
  obtain ⟨a1, h1, k1⟩ := opens_string _ _ _ f1
  clear hf f0 f1
  cases h0
  cases h1
  exact ⟨⟨a0, a1⟩, rfl, k0, k1⟩
theorem opens_strs : Opens enc W sp held 29 (fun v : Value => [v]) (fun v => ∃ l, SliceOf 1 strC W v l ∧ ∀ a ∈ l, a.size ≤ maxLen) := opens_slice Tryd.underlying29 cellsOf_str (by decide) opens_string
theorem opens_meta : Opens enc W sp held 31 (fun q : MetaD × Value => metaC q.1 q.2) (fun q => SliceOf 1 strC W q.2 q.1.vers ∧ ∀ a ∈ q.1.vers, a.size ≤ maxLen) := fun fuel cs x h => by
  obtain ⟨xs, n, -, -, hl, hxs, hf⟩ := DataW.trod_struct Tryd.underlying31 h
  rw [cellsOf_meta] at hl
  obtain ⟨c0, c1, c2, c3, c4, rfl⟩ := lenE5 hl
  have f0 : DataW.trod enc Tryd.prog W 0 sp held n 24 (([c0, c1, c2, c3, c4].drop 0).take (Tryd.prog.cellsOf 24)) = xs[0]? := hf 0 _ rfl
  rw [cellsOf_id, List.getElem?_eq_getElem (by rw [hxs]; decide)] at f0
  have f1 : DataW.trod enc Tryd.prog W 0 sp held n 29 (([c0, c1, c2, c3, c4].drop 2).take (Tryd.prog.cellsOf 29)) = xs[1]? := hf 1 _ rfl
  rw [cellsOf_strs, List.getElem?_eq_getElem (by rw [hxs]; decide)] at f1
  have f2 : DataW.trod enc Tryd.prog W 0 sp held n 9 (([c0, c1, c2, c3, c4].drop 3).take (Tryd.prog.cellsOf 9)) = xs[2]? := hf 2 _ rfl
  rw [cellsOf_str, List.getElem?_eq_getElem (by rw [hxs]; decide)] at f2
  have f3 : DataW.trod enc Tryd.prog W 0 sp held n 9 (([c0, c1, c2, c3, c4].drop 4).take (Tryd.prog.cellsOf 9)) = xs[3]? := hf 3 _ rfl
  rw [cellsOf_str, List.getElem?_eq_getElem (by rw [hxs]; decide)] at f3
  obtain ⟨a0, h0, k0⟩ := opens_id _ _ _ f0
  obtain ⟨a1, h1, k1⟩ := opens_strs _ _ _ f1
  obtain ⟨a2, h2, k2⟩ := opens_string _ _ _ f2
  obtain ⟨a3, h3, k3⟩ := opens_string _ _ _ f3
  clear hf f0 f1 f2 f3
  cases h0
  cases h1
  cases h2
  cases h3
  exact ⟨(⟨a0, k1.choose, a2, a3⟩, _), rfl, k1.choose_spec⟩

set_option maxRecDepth 100000 in
theorem open_meta {H : Type} {enc : TypeId × Value → H} {W : World} {base : Nat} {v : Value} {d : DataW H} {p : List MemPlace} (hval : Value.okWide Tryd.prog W .any base 31 v)
    (h : DataW.Trod enc Tryd.prog W 0 (fun _ => true) true 31 v d p) : ∃ (m : MetaD) (mv : Value), v = metaAg m mv ∧ SliceOf 1 strC W mv m.vers ∧ ∀ a ∈ m.vers, a.size ≤ maxLen := by
  obtain ⟨fuel, hf⟩ := h
  obtain ⟨⟨q, mv⟩, hcs, hok⟩ := opens_meta _ _ _ hf
  refine ⟨q, mv, ?_, hok⟩
  simp only [Value.okWide, Tryd.underlying31] at hval
  obtain ⟨cs, rfl, -⟩ := hval
  simp only [Value.cells] at hcs
  rw [metaAg, ← hcs]

end Go.Proofs.YtecffghcpknmjaaDoor

/- Whatever the Metas, the law MetaMays returns true, and its arguments read behind the call as before; the card ties the library variables that the row lists; no conditions. -/
namespace Go.Proofs.YtecffghcpknmjaaDoor
open Go Go.ChangeShapes Go.WideShapes Go.ChangeAt Go.RowKit Go.ChangeMaps

theorem rt_meta : Tryd.prog.readableRec 31 = true := by kernel_rfl
theorem lt_meta : 31 < Tryd.prog.types.size := of_decide_eq_true (by kernel_rfl)

set_option maxRecDepth 100000 in
theorem metaMays_lifted (os : Os) (started : os.Started) (H : Type) (enc : TypeId × Value → H) :
    ReturnsInHanded {} Tryd.checked os 5 .any (fun w args => (Rows.metaMaysSpec.pre enc Tryd.prog Tryd.f5 Rows.metaMaysRow.domain false w args ∧ laidMetH Tryd.prog laidL w) ∧ sizedMet enc Tryd.prog Tryd.f5 (OpenSpec.ofChange Rows.metaMaysSpec) false w args)
      (Rows.metaMaysSpec.post enc Tryd.prog Tryd.f5 false true false false) := by
  refine handed_tied (C := Tryd.checked) (X := fun w _ => laidMetH Tryd.prog laidL w) own started (by kernel_rfl) Tryd.func5
    (ChangeSpec.witness_shaped (enc := enc) (C := Tryd.checked) (os := os) (X := fun w _ => laidMetH Tryd.prog laidL w) false (World.laidAll Tryd.prog os laidL) #[.agg #[.string .empty, .string .empty, .slice none 0 0, .string .empty, .string .empty], .agg #[.string .empty, .string .empty, .slice none 0 0, .string .empty, .string .empty]] 8 (World.laidAll_os _ _ _)
      (World.shaped_of_ZipB (by kernel_rfl) (by kernel_rfl)) (by kernel_rfl) (by kernel_rfl) (by kernel_rfl)
      (by rw [MakeChecks.laidMetH_plain _ _ _ (by kernel_rfl)]; exact laidMet_laidAll _ (by kernel_rfl) (by kernel_rfl))) ?_
  intro W base args ds gs before hval0 hW _ hsh
  have hval : ∀ (j : Nat) t v, Tryd.f5.params[j]? = some t → args[j]? = some v → Value.okWide Tryd.prog W .any base t v := hval0
  have hW' := hW
  obtain ⟨p, q, hA0, hV, rfl, hfz, hnd⟩ := hW
  have hA : DataW.TrodAll enc Tryd.prog W 0 (fun _ => true) true Tryd.f5.params.toList args.toList ds p := hA0
  have hA' := hA
  rw [Tryd.params5] at hA hval
  obtain ⟨v0, v1, d0, d1, p0, p1, rfl, rfl, rfl, h0, h1⟩ := trodAll_two hA
  obtain ⟨rfl, rfl⟩ := trodVars_none hV
  obtain ⟨a, av, rfl, ha, -⟩ := open_meta (hval 0 31 v0 rfl rfl) h0
  obtain ⟨b, bv, rfl, hb0, -⟩ := open_meta (hval 1 31 v1 rfl rfl) h1
  clear hA0 hval0
  have hlt : ∀ x ∈ p0 ++ p1, x.block < W.heap.size := fun x hx => by simpa using hW'.lt x (by simpa using hx)
  refine (metaMays_of refParts_any a b av bv W ha hb0).mono fun en W' ⟨he, hb⟩ => ?_
  subst he
  refine ⟨_, rfl, _, _, _, [], p0 ++ p1, [], hW', trodAll_mk1 (shut_bool Tryd.underlying4 _), trodAll_below hb ?_ hA' hlt, rfl, hb.frame _, fun h => by cases h⟩
  rw [Tryd.params5]
  intro t ht
  simp at ht
  subst ht
  exact ⟨rt_meta, lt_meta⟩

theorem metaMays_row : Rows.MetaMaysSaid :=
  OpenClaim.holds_of_wide 5 Tryd.f5 rfl rfl rfl rfl rfl rfl rfl ⟨rfl, rfl, rfl, rfl, rfl⟩ rfl rfl rfl rfl rfl (by kernel_rfl) Tryd.func5 metaMays_facts
    (of_decide_eq_true (by kernel_rfl)) (by unfold Func.isWrapper; rw [if_neg (of_decide_eq_false (by kernel_rfl))]; exact ⟨rfl, rfl⟩)
    (fun os started H enc _ => metaMays_lifted os started H enc)

theorem metaMays_holds : Rows.MetaMaysCardSaid :=
  Claim7.holds_tied_plain_at .later [] [.data, .pinned] true (true, "ca75daf36b89d509da9f66e728777df19afa45d836f1bfaf4e400548447fbc23") false
    metaMays_row (fun _ h => by cases h) (by kernel_rfl) (fun _ h => by cases h) metaMays_row_tie rfl ⟨rfl, rfl⟩ (by kernel_rfl) rfl
    (fun f fn hf hfn => by
      obtain rfl : f = 5 := Option.some.inj ((show Tryd.prog.funcNamed "pomace/pomacelaw23.MetaMays" = some 5 by kernel_rfl).symm.trans hf) |>.symm
      obtain rfl : fn = Tryd.f5 := (Option.some.inj (Tryd.func5.symm.trans hfn)).symm
      exact ⟨by kernel_rfl, fun j t ht => by
        rw [Tryd.params5] at ht
        have hm : t ∈ [31, 31] := by simpa using Array.mem_of_getElem? ht
        have hall : ([31, 31].all fun u => !Tryd.prog.wantsStandIn u) = true := by kernel_rfl
        exact (show Tryd.prog.wantsStandIn t = false by simpa using List.all_eq_true.1 hall t hm)⟩)
    (by kernel_rfl)

#print axioms metaMays_holds

end Go.Proofs.YtecffghcpknmjaaDoor
