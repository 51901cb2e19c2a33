/- The law MetaOf returns true; the conditions stand in the theorem. -/
import Derived.Test.YtecffghcpknmjaaDoorJO10
import Derived.Test.YtecffghcpknmjaaDoorJO11
import Derived.Test.YtecffghcpknmjaaDoorJO12
import Derived.Test.YtecffghcpknmjaaDoorJO04
import Derived.ProofKit
import Derived.Deep.Slices
import Derived.WideShapes
import Derived.Test.YtecffghcpknmjaaDoorRows
import Derived.Test.YtecffghcpknmjaaDoorOwn2
import Derived.WalkKit
import Derived.OpenShut
import Derived.HandedShaped
import Derived.Lay
import Derived.LaidOnce
import Derived.Test.YtecffghcpknmjaaDoorV10
import Derived.Test.YtecffghcpknmjaaDoorTie
import Derived.Test.YtecffghcpknmjaaDoorCards
import Derived.SevenTiedAt
namespace Go.Proofs.YtecffghcpknmjaaDoor
open Go Go.RowKit

theorem metaZ_same (HW : World) : Calls Tryd.prog 10 #[.agg #[.string ⟨#[]⟩, .string ⟨#[]⟩, .slice none 0 0, .string ⟨#[]⟩, .string ⟨#[]⟩], .agg #[.string ⟨#[]⟩, .string ⟨#[]⟩, .slice none 0 0, .string ⟨#[]⟩, .string ⟨#[]⟩]] HW fun e w' => e = .returned (.bool true) ∧ Below HW.heap.size HW w' := by
  have h := refMetaSame_any ⟨⟨⟨#[]⟩, ⟨#[]⟩⟩, [], ⟨#[]⟩, ⟨#[]⟩⟩ ⟨⟨⟨#[]⟩, ⟨#[]⟩⟩, [], ⟨#[]⟩, ⟨#[]⟩⟩ (.slice none 0 0) (.slice none 0 0) HW SliceOf.nil SliceOf.nil (by simp)
  rw [decide_eq_true rfl] at h
  exact h
theorem docVers_pair (HPT : RefPartsOk) {B : Nat} {w : World} {bs bd : Nat} {es : List (SEnt × Nat)} (h : PairAt B w bs bd es) (hl : es.length ≤ 40) (x : Id) (M : List S) (h1 : Srt ltSV M) (h2 : SameE ltSV (versOf es x) M) (W : World) (hb : Below w.heap.size w W) :
    Calls Tryd.prog 9 #[.pointer (some ⟨bd, 0, none⟩), .agg #[.string x.group, .string x.artifact]] W (DocVersOut M W) := by
  obtain ⟨F, G, vg, vt, vr, ts, rs, hp⟩ := h.below hb
  have h3 := docVersions_of HPT x bd _ _ _ _ (gavsOf es) W hp.doc.box (hp.doc.g.slice (fun _ => rfl)) (by rw [show (gavsOf es).length = es.length from List.length_map ..]; omega) (fun g hg => by have := verMay_sz (gavMay_parts (hp.may g hg)).2.2; omega)
  rw [versions_same (l := gavsOf es) (x := x) h1 h2] at h3
  exact h3
set_option maxRecDepth 100000 in
set_option maxHeartbeats 8000000 in
theorem metaOf_law (HPT : RefPartsOk) (HRM : RefMayOk) (x : Id) (v : Value) (l : List (Gav × S)) (w : World) (h : SliceOf 4 inC w v l) (hz : ∀ p ∈ l, gavSm p.1) :
    Calls Tryd.prog 3 #[v, .agg #[.string x.group, .string x.artifact]] w fun e w' => e = .returned (.bool true) ∧ Below w.heap.size w w' := by
  have HFL : Hid (∀ W, Below w.heap.size w W → Calls Tryd.prog 7 #[v] W (FillOut W)) := fun W hb => fill_of HRM v l W (h.below hb) hz
  have HPT' := Lib.hid HPT
  obtain ⟨lo, lc, rfl⟩ := h.shape
  clear h hz HPT HRM
  go_enter Tryd.func3, Tryd.ntmps3
  go_upto_region 1 with fail
  refine wp_world ?_
  intro W hW
  have x1 : Box W w.heap.size [.string x.group, .string x.artifact] := by rw [hW]; exact Box.new w [.string x.group, .string x.artifact] _ _ rfl
  have hb : Below w.heap.size w W := by rw [hW]; exact (Below.refl _ w).alloc (Nat.le_refl _) _
  clear hW
  have HX := Lib.hid x1
  have HB := Lib.hid hb
  clear x1 hb
  go_wp2_with fail
  refine (HFL.out W HB.out).mono ?_
  rintro e w1 ⟨bs, bd, es, rfl, hp, hel, hb1⟩
  have HX1 := Lib.hid (HX.out.below hb1 HX.out.lt)
  have HB1 := Lib.hid (HB.out.trans (hb1.mono HB.out.size))
  have HP := Lib.hid hp
  have HEL := Lib.hid hel
  obtain ⟨F, G, vg, vt, vr, ts, rs, hq⟩ := hp
  have HMAY := Lib.hid hq.may
  have hsm := versOf_small x hq.may
  have hln : (versOf es x).length ≤ 40 := Nat.le_trans (versOf_len es x) hel
  have hst := hq.st
  have HND : Hid ((gavsOf es).Nodup) := by obtain ⟨_, _, _, _, _, _, hs⟩ := hst; exact hs.once
  have HOF := Lib.hid (metaOfS_any x w1 hst (by omega) hsm)
  have HSM := Lib.hid hsm
  have HLN := Lib.hid hln
  clear hq hb1 hel hst hsm hln HFL HX HB
  unfold ptr at HOF
  have x0 := HX1.out.cell 0 _ rfl
  have x1 := HX1.out.cell 1 _ rfl
  have xl := HX1.out.lt
  by_cases h0 : versOf es x = []
  · have HM1 : Hid (MetaOut x (versOf es x) w1 = fun e w' => ∃ v' M, Owns w1.heap.size 9 1 strC w' v' M ∧ Srt ltSV M ∧ SameE ltSV (versOf es x) M ∧ Below w1.heap.size w1 w' ∧ e = .returned (.tuple #[.agg metaZ.toArray, .bool false])) := by show _ = _; unfold MetaOut; simp only [if_pos h0]
    have HDV : Hid (∀ W, Below w1.heap.size w1 W → Calls Tryd.prog 9 #[.pointer (some ⟨bd, 0, none⟩), .agg #[.string x.group, .string x.artifact]] W (DocVersOut [] W)) := docVers_pair HPT'.out HP.out HEL.out x [] srt_nil (by rw [h0]; exact SameE.refl _)
    have HOF1 := HOF.out
    rw [HM1.out] at HOF1
    have HOF2 := Lib.hid HOF1
    clear HOF HOF1 HM1 h0 HP HPT' HSM HLN HMAY HND
    unfold metaZ at HOF2
    go_wp2_with fail
    refine HOF2.out.mono ?_
    rintro e w2 ⟨v', M, -, -, -, hb2, rfl⟩
    have HX2 := Lib.hid (HX1.out.below hb2 HX1.out.lt)
    have HB2 := Lib.hid (HB1.out.trans (hb2.mono HB1.out.size))
    have HB12 := Lib.hid hb2
    clear hb2 x0 x1 xl HX1 HOF2
    go_upto_region 3 with fail
    refine wp_world ?_
    intro W2 hW
    have y1 : Box W2 w2.heap.size [.string ⟨#[]⟩, .string ⟨#[]⟩, .slice none 0 0, .string ⟨#[]⟩, .string ⟨#[]⟩] := by rw [hW]; exact Box.new w2 [.string ⟨#[]⟩, .string ⟨#[]⟩, .slice none 0 0, .string ⟨#[]⟩, .string ⟨#[]⟩] _ _ rfl
    have hb : Below w2.heap.size w2 W2 := by rw [hW]; exact (Below.refl _ w2).alloc (Nat.le_refl _) _
    clear hW
    have HY := Lib.hid y1
    have HX3 := Lib.hid (HX2.out.below hb HX2.out.lt)
    have HB3 := Lib.hid (HB2.out.trans (hb.mono HB2.out.size))
    have HB13 := Lib.hid (HB12.out.trans (hb.mono HB12.out.size))
    clear y1 hb HX2 HB2 HB12
    have x0 := HX3.out.cell 0 _ rfl
    have x1 := HX3.out.cell 1 _ rfl
    have xl := HX3.out.lt
    go_wp2_with fail
    refine (HDV.out W2 HB13.out).mono ?_
    rintro e w3 ⟨vd, rfl, hod, hb3⟩
    obtain ⟨ao, c, rfl⟩ := hod.shape
    have HY3 := Lib.hid (HY.out.below hb3 HY.out.lt)
    have HB4 := Lib.hid (HB3.out.trans (hb3.mono HB3.out.size))
    clear hod hb3 x0 x1 xl HX3 HY HB3 HDV HB13
    simp only [List.length_nil]
    have y0 := HY3.out.cell 0 _ rfl
    have y1 := HY3.out.cell 1 _ rfl
    have y2 := HY3.out.cell 2 _ rfl
    have y3 := HY3.out.cell 3 _ rfl
    have y4 := HY3.out.cell 4 _ rfl
    have yl := HY3.out.lt
    have HZS := Lib.hid metaZ_same
    go_wp2_with fail
    refine (HZS.out _).mono ?_
    rintro e w4 ⟨rfl, hb4⟩
    have HB5 := Lib.hid (HB4.out.trans (hb4.mono HB4.out.size))
    clear hb4 HB4 y0 y1 y2 y3 y4 yl HY3
    go_wp2_with fail
    refine (metaLives_any w4).mono ?_
    rintro e w5 ⟨rfl, hb5⟩
    have HB6 := Lib.hid (HB5.out.trans (hb5.mono HB5.out.size))
    clear hb5
    go_wp2
    go_ret
    exact ⟨rfl, HB6.out⟩
  · have HM1 : Hid (MetaOut x (versOf es x) w1 = fun e w' => ∃ v' M, Owns w1.heap.size 9 1 strC w' v' M ∧ Srt ltSV M ∧ SameE ltSV (versOf es x) M ∧ Below w1.heap.size w1 w' ∧ e = .returned (.tuple #[metaAg ⟨x, M, lastV M, relV M⟩ v', .bool true])) := by show _ = _; unfold MetaOut; simp only [if_neg h0]
    have H0 := Lib.hid h0
    have HOF1 := HOF.out
    rw [HM1.out] at HOF1
    have HOF2 := Lib.hid HOF1
    clear HOF HOF1 HM1 h0
    go_wp2_with fail
    refine HOF2.out.mono ?_
    rintro e w2 ⟨v', M, ho, h1, h2, hb2, rfl⟩
    have HDV : Hid (∀ W, Below w1.heap.size w1 W → Calls Tryd.prog 9 #[.pointer (some ⟨bd, 0, none⟩), .agg #[.string x.group, .string x.artifact]] W (DocVersOut M W)) := docVers_pair HPT'.out HP.out HEL.out x M h1 h2
    have HMM : Hid (mayM ⟨x, M, lastV M, relV M⟩ = true) := metaOf_may HMAY.out HND.out (by have := HEL.out; omega) h1 h2 H0.out
    have HMS : Hid (MetaSm ⟨x, M, lastV M, relV M⟩ ∧ M.length ≤ 40 ∧ 1 ≤ M.length ∧ AllSmall M) := by
      have h3 := len_same h2
      have h4 := small_same h2 HSM.out
      have h5 := HLN.out
      have h6 := List.length_pos_iff.2 H0.out
      obtain ⟨y, hy⟩ := List.exists_mem_of_ne_nil _ H0.out
      have hg := gavMay_parts (HMAY.out _ (versOf_mem.1 hy))
      have g1 := hg.1
      have g2 := hg.2.1
      unfold isIdB at g1 g2
      simp only [Bool.and_eq_true, decide_eq_true_eq] at g1 g2
      exact ⟨⟨by show x.group.size ≤ _; omega, by show x.artifact.size ≤ _; omega, by show M.length ≤ _; omega, h4⟩, by omega, by omega, h4⟩
    obtain ⟨mo, mc, rfl⟩ := ho.shape
    have HX2 := Lib.hid (HX1.out.below hb2 HX1.out.lt)
    have HB2 := Lib.hid (HB1.out.trans (hb2.mono HB1.out.size))
    have HB12 := Lib.hid hb2
    have HSL := Lib.hid (ho.slice strC_lV)
    clear ho h1 h2 hb2 x0 x1 xl HX1 HOF2 HP HSM HLN HMAY HND
    obtain ⟨la, hla⟩ : ∃ y, lastV M = y := ⟨_, rfl⟩
    obtain ⟨re, hre⟩ : ∃ y, relV M = y := ⟨_, rfl⟩
    have HLA := Lib.hid hla
    have HRE := Lib.hid hre
    rw [hla, hre] at HMM HMS ⊢
    clear hla hre
    unfold metaAg metaC
    go_upto_region 3 with fail
    refine wp_world ?_
    intro W2 hW
    have y1 : Box W2 w2.heap.size [.string x.group, .string x.artifact, .slice mo M.length mc, .string la, .string re] := by rw [hW]; exact Box.new w2 [.string x.group, .string x.artifact, .slice mo M.length mc, .string la, .string re] _ _ rfl
    have hb : Below w2.heap.size w2 W2 := by rw [hW]; exact (Below.refl _ w2).alloc (Nat.le_refl _) _
    clear hW
    have HY := Lib.hid y1
    have HX3 := Lib.hid (HX2.out.below hb HX2.out.lt)
    have HB3 := Lib.hid (HB2.out.trans (hb.mono HB2.out.size))
    have HB13 := Lib.hid (HB12.out.trans (hb.mono HB12.out.size))
    have HSL3 := Lib.hid (HSL.out.below hb)
    clear y1 hb HX2 HB2 HB12 HSL
    have x0 := HX3.out.cell 0 _ rfl
    have x1 := HX3.out.cell 1 _ rfl
    have xl := HX3.out.lt
    go_wp2_with fail
    refine (HDV.out W2 HB13.out).mono ?_
    rintro e w3 ⟨vd, rfl, hod, hb3⟩
    obtain ⟨ao, c, rfl⟩ := hod.shape
    have HY3 := Lib.hid (HY.out.below hb3 HY.out.lt)
    have HX4 := Lib.hid (HX3.out.below hb3 HX3.out.lt)
    have HB4 := Lib.hid (HB3.out.trans (hb3.mono HB3.out.size))
    have HSL4 := Lib.hid (HSL3.out.below hb3)
    have HSD := Lib.hid (hod.slice strC_lV)
    clear hod hb3 x0 x1 xl HX3 HY HB3 HDV HB13 HSL3
    have e0 : ((M.length : Int) == 0) = false := by rw [beq_eq_false_iff_ne]; have := HMS.out.2.2.1; omega
    have e0n : (M.length == 0) = false := by rw [beq_eq_false_iff_ne]; have := HMS.out.2.2.1; omega
    have HNN := Lib.hid (metaOf_nil x)
    unfold metaZ at HNN
    have x0 := HX4.out.cell 0 _ rfl
    have x1 := HX4.out.cell 1 _ rfl
    have xl := HX4.out.lt
    go_wp2_with fail
    refine (HNN.out _).mono ?_
    rintro e w4 ⟨rfl, hb4⟩
    have HY4 := Lib.hid (HY3.out.below hb4 HY3.out.lt)
    have HX5 := Lib.hid (HX4.out.below hb4 HX4.out.lt)
    have HB5 := Lib.hid (HB4.out.trans (hb4.mono HB4.out.size))
    have HSL5 := Lib.hid (HSL4.out.below hb4)
    have HSD5 := Lib.hid (HSD.out.below hb4)
    clear hb4 HB4 x0 x1 xl HX4 HY3 HSL4 HSD e0 e0n HNN
    go_upto_region 8 with fail
    refine wp_world ?_
    intro W4 hW
    have hb : Below w4.heap.size w4 W4 := by rw [hW]; exact (Below.refl _ w4).alloc (Nat.le_refl _) _
    clear hW
    have HY5 := Lib.hid (HY4.out.below hb HY4.out.lt)
    have HX6 := Lib.hid (HX5.out.below hb HX5.out.lt)
    have HB6 := Lib.hid (HB5.out.trans (hb.mono HB5.out.size))
    have HSL6 := Lib.hid (HSL5.out.below hb)
    have HSD6 := Lib.hid (HSD5.out.below hb)
    clear hb HY4 HX5 HB5 HSL5 HSD5
    have H1 : Hid (∀ z : Later W4, Calls Tryd.prog 12 #[.agg #[.string x.group, .string x.artifact], .slice ao M.length c] z.at_ fun e w'' => e = .returned (.agg #[.string x.group, .string x.artifact, .slice ao M.length c, .string la, .string re]) ∧ ∃ u : Later W4, w'' = u.at_) := fun z => by
      have h := refMetaOf_of HPT'.out x M (.slice ao M.length c) z.at_ (HSD6.out.below z.below) (by have := HMS.out.2.1; omega) HMS.out.2.2.2
      rw [show lastV M = la from HLA.out, show relV M = re from HRE.out] at h
      exact Later.call h
    have H2 : Hid (∀ z : Later W4, Calls Tryd.prog 10 #[.agg #[.string x.group, .string x.artifact, .slice mo M.length mc, .string la, .string re], .agg #[.string x.group, .string x.artifact, .slice ao M.length c, .string la, .string re]] z.at_ fun e w'' => e = .returned (.bool true) ∧ ∃ u : Later W4, w'' = u.at_) := fun z => by
      have h := refMetaSame_any ⟨x, M, la, re⟩ ⟨x, M, la, re⟩ (.slice mo M.length mc) (.slice ao M.length c) z.at_ (HSL6.out.below z.below) (HSD6.out.below z.below) (by have := HMS.out.2.1; show M.length ≤ _; omega)
      rw [decide_eq_true rfl] at h
      exact Later.call h
    have H3 : Hid (∀ z : Later W4, Calls Tryd.prog 13 #[.agg #[.string x.group, .string x.artifact, .slice mo M.length mc, .string la, .string re]] z.at_ fun e w'' => e = .returned (.bool true) ∧ ∃ u : Later W4, w'' = u.at_) := fun z => by
      have h := metaMay_any ⟨x, M, la, re⟩ (.slice mo M.length mc) z.at_ (HSL6.out.below z.below) HMS.out.1
      rw [show mayM ⟨x, M, la, re⟩ = true from HMM.out] at h
      exact Later.call h
    have H4 := Lib.hid (fun z : Later W4 => Later.call (metaLives_any z.at_))
    clear HPT' HSL6 HSD6 HMS HMM HLA HRE
    have x0 := HX6.out.cell 0 _ rfl
    have x1 := HX6.out.cell 1 _ rfl
    have xl := HX6.out.lt
    have y0 := HY5.out.cell 0 _ rfl
    have y1 := HY5.out.cell 1 _ rfl
    have y2 := HY5.out.cell 2 _ rfl
    have y3 := HY5.out.cell 3 _ rfl
    have y4 := HY5.out.cell 4 _ rfl
    have yl := HY5.out.lt
    have hLL := @Later.cells W4
    refine region_later (by kernel_rfl) (by kernel_rfl) ?_
    repeat (go_big_quiet_step ((first | (go_at_call 12; with_reducible exact H1.out _) | (go_at_call 10; with_reducible exact H2.out _) | (go_at_call 13; with_reducible exact H3.out _) | (go_at_call 11; with_reducible exact H4.out _))))
    refine wpQuiet_nil ?_
    rintro _ ⟨nx, rfl⟩
    have HBn := Lib.hid (HB6.out.trans (nx.below.mono HB6.out.size))
    clear hLL x0 x1 xl y0 y1 y2 y3 y4 yl H1 H2 H3 H4
    generalize nx.at_ = wn at *
    go_wp2
    go_ret
    exact ⟨rfl, HBn.out⟩

end Go.Proofs.YtecffghcpknmjaaDoor

/- From the readings of the arguments to what the walks ask: a Meta that can be read is one in memory. -/
namespace Go.Proofs.YtecffghcpknmjaaDoor
open Go Go.RowKit

variable {H : Type} {enc : TypeId × Value → H} {W : World} {sp : Nat → Bool} {held : Bool}

/-- Whatever reads as type t are the cells of some a that is all right. -/
def Opens {α : Type} (enc : TypeId × Value → H) (W : World) (sp : Nat → Bool) (held : Bool) (t : TypeId) (C : α → List Value) (Ok : α → Prop) : Prop :=
  ∀ fuel cs x, DataW.trod enc Tryd.prog W 0 sp held fuel t cs = some x → ∃ a, cs = C a ∧ Ok a

theorem opens_string : Opens enc W sp held 9 strC (fun s => s.size ≤ maxLen) := fun _ _ _ h => by
  obtain ⟨s, h1, -, h2⟩ := DataW.trod_string Tryd.underlying9 h
  exact ⟨s, h1, h2⟩
theorem cells_of {w : World} {a : Addr} {n : Nat} {cs : List Value} (h : w.cells? 0 a n = some cs) (hn : 0 < n) : cs.length = n ∧ a.spot = none ∧ a.block < w.heap.size ∧ ∀ j u, cs[j]? = some u → w.cell? ⟨a.block, a.off + j, none⟩ = some u := by
  unfold World.cells? at h
  rw [if_pos (Nat.zero_le _)] at h
  have hl : cs.length = n := by simpa using mapM_some_length h
  have hg : ∀ j, j < n → w.cell? (a.add j) = cs[j]? := fun j hj => mapM_some_get h j j (by simp [hj])
  have h00 : w.cell? a = some cs[0] := by
    have := hg 0 hn
    rw [show a.add 0 = a from rfl] at this
    rw [this]; simp
  have hsp : a.spot = none := by
    cases hs : a.spot with
    | none => rfl
    | some x =>
      exfalso
      simp only [World.cell?, hs, Option.isSome_some, if_true] at h00
      split at h00 <;> cases h00
  obtain ⟨b, o, s⟩ := a
  cases hsp
  refine ⟨hl, rfl, World.block_lt_of_cell? w _ h00, fun j u hu => ?_⟩
  have hj : j < n := by rw [← hl]; exact (List.getElem?_eq_some_iff.1 hu).1
  have := hg j hj
  rw [Addr.add_lit, hu] at this
  exact this

theorem list_snoc {α : Type} {l : List α} {y : α} {i : Nat} {z : α} (h : (l ++ [y])[i]? = some z) : (i < l.length ∧ l[i]? = some z) ∨ (i = l.length ∧ z = y) := by
  by_cases hi : i < l.length
  · left; rw [List.getElem?_append_left hi] at h; exact ⟨hi, h⟩
  · right
    rw [List.getElem?_append_right (by omega)] at h
    by_cases h1 : i - l.length = 0
    · rw [h1] at h; simp at h; exact ⟨by omega, h.symm⟩
    · rw [List.getElem?_eq_none (by simp; omega)] at h; cases h

theorem list_of {α : Type} {len : Nat} {P : Nat → α → Prop} (h : ∀ i, i < len → ∃ y, P i y) : ∃ l : List α, l.length = len ∧ ∀ i y, l[i]? = some y → P i y := by
  induction len with
  | zero => exact ⟨[], rfl, fun i y h => by simp at h⟩
  | succ len ih =>
    obtain ⟨l, hl, hP⟩ := ih (fun i hi => h i (by omega))
    obtain ⟨y, hy⟩ := h len (by omega)
    refine ⟨l ++ [y], by simp [hl], fun i z hz => ?_⟩
    rcases list_snoc hz with ⟨-, h1⟩ | ⟨rfl, rfl⟩
    · exact hP i z h1
    · rw [hl]; exact hy

theorem opens_slice {α : Type} {t e n : Nat} {C : α → List Value} {Ok : α → Prop} (ht : Tryd.prog.underlying t = some (.slice e)) (hn : Tryd.prog.cellsOf e = n) (h0 : 0 < n) (he : Opens enc W sp held e C Ok) :
    Opens enc W sp held t (fun v : Value => [v]) (fun v => ∃ l, SliceOf n C W v l ∧ ∀ a ∈ l, Ok a) := fun fuel cs x h => by
  rcases Deep.open_slice ht h with ⟨rfl, -⟩ | ⟨a, len, cap, m, n', D, Pl, rfl, -, hlc, hcm, hm, -, hel⟩
  · exact ⟨_, rfl, [], SliceOf.nil, by simp⟩
  · rw [hn] at hel
    have hlm : len ≤ m := by rw [hm]; split <;> omega
    obtain ⟨l, hl, hP⟩ := list_of (len := len) (P := fun i y => W.cells? 0 (a.add (i * n)) n = some (C y) ∧ Ok y) (fun i hi => by
      obtain ⟨cs', h1, h2⟩ := hel i (by omega)
      obtain ⟨y, rfl, hy⟩ := he _ _ _ h2
      exact ⟨y, h1, hy⟩)
    refine ⟨_, rfl, l, ⟨some a, cap, by rw [hl], by omega, hcm, by simp, fun i y hy => ?_⟩, fun y hy => ?_⟩
    · have hil : i < len := by rw [← hl]; exact (List.getElem?_eq_some_iff.1 hy).1
      obtain ⟨y0, hy0⟩ : ∃ y0, l[0]? = some y0 := ⟨l[0]'(by omega), by simp⟩
      obtain ⟨-, hs, hb, -⟩ := cells_of (hP 0 y0 hy0).1 h0
      rw [Nat.zero_mul, show a.add 0 = a from rfl] at hs hb
      obtain ⟨b, o, s⟩ := a
      cases hs
      obtain ⟨-, -, -, hc⟩ := cells_of (hP i y hy).1 h0
      rw [Addr.add_lit] at hc
      exact ⟨b, o, rfl, hb, hc⟩
    · obtain ⟨i, hi, rfl⟩ := List.mem_iff_getElem.1 hy
      exact (hP i _ (by simp [hi])).2

theorem field1 {c : Value} {l : List Value} {k : Nat} (h : l[k]? = some c) : (l.drop k).take 1 = [c] := by
  obtain ⟨hk, rfl⟩ := List.getElem?_eq_some_iff.1 h
  rw [List.drop_eq_getElem_cons hk]; rfl

theorem cells1 {t : Nat} (h : Tryd.prog.cellsOf t = 1) {l : List Value} {k : Nat} {c : Value} (hc : l[k]? = some c) : (l.drop k).take (Tryd.prog.cellsOf t) = [c] := by rw [h, field1 hc]

theorem cellsOf_str : Tryd.prog.cellsOf 9 = 1 := by kernel_rfl
theorem cellsOf_id : Tryd.prog.cellsOf 24 = 2 := by kernel_rfl
theorem cellsOf_strs : Tryd.prog.cellsOf 29 = 1 := by kernel_rfl
theorem cellsOf_meta : Tryd.prog.cellsOf 31 = 5 := by kernel_rfl
theorem le_max {n : Nat} (h : n ≤ maxLen) : n ≤ 9223372036854775807 := Nat.le_trans h (by decide)
theorem lenE2 {l : List Value} (h : l.length = 2) : ∃ c0 c1, l = [c0, c1] := by
  match l, h with
  | [c0, c1], _ => exact ⟨c0, c1, rfl⟩
theorem lenE5 {l : List Value} (h : l.length = 5) : ∃ c0 c1 c2 c3 c4, l = [c0, c1, c2, c3, c4] := by
  match l, h with
  | [c0, c1, c2, c3, c4], _ => exact ⟨c0, c1, c2, c3, c4, rfl⟩

theorem opens_id : Opens enc W sp held 24 idC (fun i => i.group.size ≤ maxLen ∧ i.artifact.size ≤ maxLen) := fun fuel cs x h => by
  obtain ⟨xs, n, -, -, hl, hxs, hf⟩ := DataW.trod_struct Tryd.underlying24 h
  rw [cellsOf_id] at hl
  obtain ⟨c0, c1, rfl⟩ := lenE2 hl
  have f0 : DataW.trod enc Tryd.prog W 0 sp held n 9 (([c0, c1].drop 0).take (Tryd.prog.cellsOf 9)) = xs[0]? := hf 0 _ rfl
  rw [cellsOf_str, List.getElem?_eq_getElem (by rw [hxs]; decide)] at f0
  have f1 : DataW.trod enc Tryd.prog W 0 sp held n 9 (([c0, c1].drop 1).take (Tryd.prog.cellsOf 9)) = xs[1]? := hf 1 _ rfl
  rw [cellsOf_str, List.getElem?_eq_getElem (by rw [hxs]; decide)] at f1
  obtain ⟨a0, h0, k0⟩ := opens_string _ _ _ f0
  obtain ⟨a1, h1, k1⟩ := opens_string _ _ _ f1
  clear hf f0 f1
  cases h0
  cases h1
  exact ⟨⟨a0, a1⟩, rfl, k0, k1⟩
theorem opens_strs : Opens enc W sp held 29 (fun v : Value => [v]) (fun v => ∃ l, SliceOf 1 strC W v l ∧ ∀ a ∈ l, a.size ≤ maxLen) := opens_slice Tryd.underlying29 cellsOf_str (by decide) opens_string
theorem opens_meta : Opens enc W sp held 31 (fun q : MetaD × Value => metaC q.1 q.2) (fun q => SliceOf 1 strC W q.2 q.1.vers ∧ ∀ a ∈ q.1.vers, a.size ≤ maxLen) := fun fuel cs x h => by
  obtain ⟨xs, n, -, -, hl, hxs, hf⟩ := DataW.trod_struct Tryd.underlying31 h
  rw [cellsOf_meta] at hl
  obtain ⟨c0, c1, c2, c3, c4, rfl⟩ := lenE5 hl
  have f0 : DataW.trod enc Tryd.prog W 0 sp held n 24 (([c0, c1, c2, c3, c4].drop 0).take (Tryd.prog.cellsOf 24)) = xs[0]? := hf 0 _ rfl
  rw [cellsOf_id, List.getElem?_eq_getElem (by rw [hxs]; decide)] at f0
  have f1 : DataW.trod enc Tryd.prog W 0 sp held n 29 (([c0, c1, c2, c3, c4].drop 2).take (Tryd.prog.cellsOf 29)) = xs[1]? := hf 1 _ rfl
  rw [cellsOf_strs, List.getElem?_eq_getElem (by rw [hxs]; decide)] at f1
  have f2 : DataW.trod enc Tryd.prog W 0 sp held n 9 (([c0, c1, c2, c3, c4].drop 3).take (Tryd.prog.cellsOf 9)) = xs[2]? := hf 2 _ rfl
  rw [cellsOf_str, List.getElem?_eq_getElem (by rw [hxs]; decide)] at f2
  have f3 : DataW.trod enc Tryd.prog W 0 sp held n 9 (([c0, c1, c2, c3, c4].drop 4).take (Tryd.prog.cellsOf 9)) = xs[3]? := hf 3 _ rfl
  rw [cellsOf_str, List.getElem?_eq_getElem (by rw [hxs]; decide)] at f3
  obtain ⟨a0, h0, k0⟩ := opens_id _ _ _ f0
  obtain ⟨a1, h1, k1⟩ := opens_strs _ _ _ f1
  obtain ⟨a2, h2, k2⟩ := opens_string _ _ _ f2
  obtain ⟨a3, h3, k3⟩ := opens_string _ _ _ f3
  clear hf f0 f1 f2 f3
  cases h0
  cases h1
  cases h2
  cases h3
  exact ⟨(⟨a0, k1.choose, a2, a3⟩, _), rfl, k1.choose_spec⟩

set_option maxRecDepth 100000 in
theorem open_meta {H : Type} {enc : TypeId × Value → H} {W : World} {base : Nat} {v : Value} {d : DataW H} {p : List MemPlace} (hval : Value.okWide Tryd.prog W .any base 31 v)
    (h : DataW.Trod enc Tryd.prog W 0 (fun _ => true) true 31 v d p) : ∃ (m : MetaD) (mv : Value), v = metaAg m mv ∧ SliceOf 1 strC W mv m.vers ∧ ∀ a ∈ m.vers, a.size ≤ maxLen := by
  obtain ⟨fuel, hf⟩ := h
  obtain ⟨⟨q, mv⟩, hcs, hok⟩ := opens_meta _ _ _ hf
  refine ⟨q, mv, ?_, hok⟩
  simp only [Value.okWide, Tryd.underlying31] at hval
  obtain ⟨cs, rfl, -⟩ := hval
  simp only [Value.cells] at hcs
  rw [metaAg, ← hcs]

end Go.Proofs.YtecffghcpknmjaaDoor

/- From the readings of the arguments to what the walk of MetaOf asks: a row of projects that can be read is one in memory. -/
namespace Go.Proofs.YtecffghcpknmjaaDoor
open Go Go.RowKit Go.WideShapes

variable {H : Type} {enc : TypeId × Value → H} {W : World} {sp : Nat → Bool} {held : Bool}
theorem cellsOf_gavE : Tryd.prog.cellsOf 60 = 3 := by kernel_rfl
theorem cellsOf_in : Tryd.prog.cellsOf 62 = 4 := by kernel_rfl
theorem lenE3 {l : List Value} (h : l.length = 3) : ∃ c0 c1 c2, l = [c0, c1, c2] := by
  match l, h with
  | [c0, c1, c2], _ => exact ⟨c0, c1, c2, rfl⟩
theorem lenE4 {l : List Value} (h : l.length = 4) : ∃ c0 c1 c2 c3, l = [c0, c1, c2, c3] := by
  match l, h with
  | [c0, c1, c2, c3], _ => exact ⟨c0, c1, c2, c3, rfl⟩
theorem opens_gavE : Opens enc W sp held 60 gavC gavSm := fun fuel cs x h => by
  obtain ⟨xs, n, -, -, hl, hxs, hf⟩ := DataW.trod_struct Tryd.underlying60 h
  rw [cellsOf_gavE] at hl
  obtain ⟨c0, c1, c2, rfl⟩ := lenE3 hl
  have f0 : DataW.trod enc Tryd.prog W 0 sp held n 9 (([c0, c1, c2].drop 0).take (Tryd.prog.cellsOf 9)) = xs[0]? := hf 0 _ rfl
  rw [cellsOf_str, List.getElem?_eq_getElem (by rw [hxs]; decide)] at f0
  have f1 : DataW.trod enc Tryd.prog W 0 sp held n 9 (([c0, c1, c2].drop 1).take (Tryd.prog.cellsOf 9)) = xs[1]? := hf 1 _ rfl
  rw [cellsOf_str, List.getElem?_eq_getElem (by rw [hxs]; decide)] at f1
  have f2 : DataW.trod enc Tryd.prog W 0 sp held n 9 (([c0, c1, c2].drop 2).take (Tryd.prog.cellsOf 9)) = xs[2]? := hf 2 _ rfl
  rw [cellsOf_str, List.getElem?_eq_getElem (by rw [hxs]; decide)] at f2
  obtain ⟨a0, h0, k0⟩ := opens_string _ _ _ f0
  obtain ⟨a1, h1, k1⟩ := opens_string _ _ _ f1
  obtain ⟨a2, h2, k2⟩ := opens_string _ _ _ f2
  clear hf f0 f1 f2
  cases h0
  cases h1
  cases h2
  exact ⟨⟨a0, a1, a2⟩, rfl, le_max k0, le_max k1, le_max k2⟩
theorem opens_in : Opens enc W sp held 62 inC (fun p => gavSm p.1) := fun fuel cs x h => by
  obtain ⟨xs, n, -, -, hl, hxs, hf⟩ := DataW.trod_struct Tryd.underlying62 h
  rw [cellsOf_in] at hl
  obtain ⟨c0, c1, c2, c3, rfl⟩ := lenE4 hl
  have f0 : DataW.trod enc Tryd.prog W 0 sp held n 60 (([c0, c1, c2, c3].drop 0).take (Tryd.prog.cellsOf 60)) = xs[0]? := hf 0 _ rfl
  rw [cellsOf_gavE, List.getElem?_eq_getElem (by rw [hxs]; decide)] at f0
  have f1 : DataW.trod enc Tryd.prog W 0 sp held n 9 (([c0, c1, c2, c3].drop 3).take (Tryd.prog.cellsOf 9)) = xs[1]? := hf 1 _ rfl
  rw [cellsOf_str, List.getElem?_eq_getElem (by rw [hxs]; decide)] at f1
  obtain ⟨a0, h0, k0⟩ := opens_gavE _ _ _ f0
  obtain ⟨a1, h1, k1⟩ := opens_string _ _ _ f1
  clear hf f0 f1
  cases h0
  cases h1
  exact ⟨(a0, a1), rfl, k0⟩
theorem opens_ins : Opens enc W sp held 22 (fun v : Value => [v]) (fun v => ∃ l, SliceOf 4 inC W v l ∧ ∀ p ∈ l, gavSm p.1) := opens_slice Tryd.underlying22 cellsOf_in (by decide) opens_in

set_option maxRecDepth 100000 in
theorem open_id {base : Nat} {v : Value} {d : DataW H} {p : List MemPlace} (hval : Value.okWide Tryd.prog W .any base 24 v)
    (h : DataW.Trod enc Tryd.prog W 0 (fun _ => true) true 24 v d p) : ∃ x : Id, v = .agg #[.string x.group, .string x.artifact] := by
  obtain ⟨fuel, hf⟩ := h
  obtain ⟨x, hcs, -⟩ := opens_id _ _ _ hf
  refine ⟨x, ?_⟩
  simp only [Value.okWide, Tryd.underlying24] at hval
  obtain ⟨cs, rfl, -⟩ := hval
  simp only [Value.cells] at hcs
  have e : cs = (idC x).toArray := by rw [← hcs]
  rw [e]
  rfl
set_option maxRecDepth 100000 in
theorem open_ins {base : Nat} {v : Value} {d : DataW H} {p : List MemPlace} (hval : Value.okWide Tryd.prog W .any base 22 v)
    (h : DataW.Trod enc Tryd.prog W 0 (fun _ => true) true 22 v d p) : ∃ l, SliceOf 4 inC W v l ∧ ∀ p ∈ l, gavSm p.1 := by
  obtain ⟨fuel, hf⟩ := h
  obtain ⟨u, hcs, hok⟩ := opens_ins _ _ _ hf
  obtain ⟨l, h1, h2⟩ := hok
  obtain ⟨a0, len, cap, rfl⟩ := okWide_slice Tryd.underlying22 hval
  have e : Value.slice a0 len cap = u := by simpa [Value.cells] using hcs
  exact ⟨l, by rw [e]; exact h1, h2⟩

end Go.Proofs.YtecffghcpknmjaaDoor

/- From a walk to a row whose library variables are laid: a law that returns true and turns nothing that was there. -/
namespace Go.Proofs.YtecffghcpknmjaaDoor
open Go Go.ChangeShapes Go.WideShapes Go.ChangeAt Go.RowKit

theorem own : ownKnob Tryd.prog.godebug = none := by kernel_rfl
theorem laidOut : laidOutB Tryd.prog = true := by kernel_rfl

theorem trodAll_below {H : Type} {enc : TypeId × Value → H} {W W' : World} (hb : Below W.heap.size W W') : ∀ {ts : List TypeId} {vs : List Value} {ds : List (DataW H)} {ps : List MemPlace},
    (∀ t ∈ ts, Tryd.prog.readableRec t = true ∧ t < Tryd.prog.types.size) → DataW.TrodAll enc Tryd.prog W 0 (fun _ => true) true ts vs ds ps → (∀ x ∈ ps, x.block < W.heap.size) →
    DataW.TrodAll enc Tryd.prog W' 0 (fun b => decide (b < W.heap.size)) true ts vs ds ps
  | [], [], [], _, _, h, _ => h
  | t :: ts, v :: vs, d :: ds, ps, hr, h, hlt => by
    obtain ⟨p, q, h1, h2, rfl⟩ := h
    exact ⟨p, q, Below.trod laidOut (hr t (by simp)).1 (hr t (by simp)).2 h1 hb (fun x hx => hlt x (by simp [hx])),
      trodAll_below hb (fun u hu => hr u (by simp [hu])) h2 (fun x hx => hlt x (by simp [hx])), rfl⟩
  | [], [], _ :: _, _, _, h, _ => h.elim
  | [], _ :: _, _, _, _, h, _ => h.elim
  | _ :: _, [], _, _, _, h, _ => h.elim
  | _ :: _, _ :: _, [], _, _, h, _ => h.elim

/-- What the listed variables hold. -/
def laidL : List (String × DataW Unit) := [("unicode/utf8.acceptRanges", Rows.laid_unicode_utf8_acceptRanges), ("unicode/utf8.first", Rows.laid_unicode_utf8_first)]

/-- The wrap of a tied row, the world's shape kept. -/
theorem handed_tied {H : Type} {enc : TypeId × Value → H} {a : Assume} {C : Checked} {os : Os} {f : FuncId} {fn : Func} {s : ChangeSpec} {conds : List PathCond} {apart fresh handsOn again : Bool} {X : World → Array Value → Prop}
    (own : ownKnob C.prog.godebug = none) (started : os.Started) (noInit : C.prog.inits.idxOf? f = none) (hfn : C.prog.funcs[f]? = some fn)
    (witness : ∃ (w : World) (tape : Tape) (i : Input), w.os = os ∧ (w.forCall tape i).Shaped C.prog ∧ i.vars = [] ∧ Input.okWide C.prog (w.forCall tape i) .any w.heap.size f i ∧
      ((s.pre enc C.prog fn conds apart (w.forCall tape i).memory i.args ∧ X (w.forCall tape i).memory i.args) ∧ sizedMet enc C.prog fn (OpenSpec.ofChange s) apart (w.forCall tape i).memory i.args) ∧ a.holds C.prog (lone (Frame.enter C.prog f i.args .normal) [] (w.forCall tape i)))
    (contract : ∀ (W : World) (base : Nat) (args : Array Value) (ds gs : List (DataW H)) (before : List MemPlace),
      (∀ (j : Nat) t v, fn.params[j]? = some t → args[j]? = some v → Value.okWide C.prog W .any base t v) →
      DataW.Whole enc C.prog fn.params.toList s.vars apart W args.toList ds gs before →
      conds.all (PathCond.test C.prog ⟨fn.params.toList, ds, s.plain.varTypes C.prog, gs⟩) = true →
      W.ShapedOpen C.prog →
      Calls C.prog f args W fun e W' => ∃ v, e = .returned v ∧ s.post enc C.prog fn apart fresh handsOn again W args v W') :
    ReturnsInHanded a C os f .any (fun w args => (s.pre enc C.prog fn conds apart w args ∧ X w args) ∧ sizedMet enc C.prog fn (OpenSpec.ofChange s) apart w args) (s.post enc C.prog fn apart fresh handsOn again) := by
  refine returnsInHanded_of_calls own started noInit witness ?_
  intro w tape i _ hsh _ hok hpre hholds
  obtain ⟨_, _, _, fn', hfn', _, _, _, _, hval⟩ := hok
  have e : fn' = fn := Option.some.inj (hfn'.symm.trans hfn)
  subst e
  obtain ⟨⟨⟨ds, gs, before, hw, hc⟩, -⟩, -⟩ := hpre
  have hw' := DataW.Whole.of_heap (w' := w.forCall tape i) (by rfl) hw
  refine (contract (w.forCall tape i) w.heap.size i.args ds gs before hval hw' hc hsh).mono fun e W' ⟨v, he, hp⟩ => ?_
  subst he
  exact ChangeSpec.post_blind hp

end Go.Proofs.YtecffghcpknmjaaDoor

/- The closed facts of the row MetaOf, one by one; no conditions. -/
namespace Go.Proofs.YtecffghcpknmjaaDoor
open Go Go.ChangeShapes Go.WideShapes Go.ChangeAt Go.RowKit Go.ChangeMaps

theorem moJandT {a b : Bool} (ha : a = true) (hb : b = true) : (a && b) = true := by rw [ha, hb]; rfl
theorem moJ0 : (Rows.metaOfRow.wf (OpenSpec.ofChange Rows.metaOfSpec)) = true := by kernel_rfl
theorem moJ1 : (laidOutB Tryd.prog) = true := by kernel_rfl
theorem moJ2 : (mapsRowed Tryd.prog) = true := by kernel_rfl
theorem moJ3 : (Tryd.f3.params.all (Tryd.prog.readableRec ·)) = true := by kernel_rfl
theorem moJ4 : (namedTie Tryd.prog Rows.metaOfRow.named Rows.metaOfSpec.vars) = true := by kernel_rfl
theorem moJ5 : ((Rows.metaOfRow.stops == [])) = true := by kernel_rfl
theorem moJ6 : ((Tryd.prog.stops == [])) = true := by kernel_rfl
theorem moJ7 : ((Rows.metaOfRow.knobs == [])) = true := by kernel_rfl
theorem moJ8 : ((Tryd.prog.stopKnobs == [])) = true := by kernel_rfl
theorem moJ9 : ((Rows.metaOfRow.inPlace == Tryd.prog.inPlace 3)) = true := by kernel_rfl
theorem moJ10 : ((Rows.metaOfRow.unfollowed == Tryd.prog.unfollowed 3)) = true := by kernel_rfl
theorem moJ11 : ((Rows.metaOfRow.recurses == Tryd.prog.recurses 3)) = true := by kernel_rfl
theorem moJ12 : ((Rows.metaOfRow.named == Tryd.prog.varsNamed 3)) = true := by kernel_rfl
theorem moJ13 : ((Rows.metaOfRow.maps == (Tryd.f3.params.toList ++ Rows.metaOfSpec.plain.varTypes Tryd.prog).any (Tryd.prog.mapsRec ·))) = true := by kernel_rfl
theorem moJ14 : ((Rows.metaOfRow.ifaces == (Tryd.f3.params.toList ++ Rows.metaOfSpec.plain.varTypes Tryd.prog).any (Tryd.prog.ifacesRec ·))) = true := by kernel_rfl
theorem moJ15 : ((Rows.metaOfRow.mapsOut == Tryd.prog.mapsAmong Tryd.f3.resultTypes.toList)) = true := by kernel_rfl
theorem moJ16 : ((Rows.metaOfRow.loops == (Tryd.f3.params.toList ++ Rows.metaOfSpec.plain.varTypes Tryd.prog).any (Tryd.prog.loopsFrom ·))) = true := by kernel_rfl
theorem moJ17 : ((Rows.metaOfRow.wideKeys == (Tryd.f3.params.toList ++ Rows.metaOfSpec.plain.varTypes Tryd.prog ++ Tryd.f3.resultTypes.toList).any (Tryd.prog.wideKeysFrom ·))) = true := by kernel_rfl
theorem moJ18 : (Rows.metaOfSpec.vars.all (Tryd.prog.varReadable ·)) = true := by kernel_rfl
theorem moJ19 : (Tryd.f3.resultTypes.all (fun t => Tryd.prog.readableRec t && decide (t < Tryd.prog.types.size))) = true := by kernel_rfl
theorem moJ20 : ((Rows.metaOfRow.ifacesOut == Tryd.f3.resultTypes.toList.any (Tryd.prog.ifacesRec ·))) = true := by kernel_rfl
theorem moJ21 : ((Rows.metaOfRow.loopsOut == Tryd.f3.resultTypes.toList.any (Tryd.prog.loopsFrom ·))) = true := by kernel_rfl
theorem moJ22 : ((Rows.metaOfRow.plainKeys == Tryd.prog.plainKeys)) = true := by kernel_rfl
theorem moJ23 : (Rows.metaOfRow.shortTexts.isNone) = true := by kernel_rfl
theorem moJ24 : (Tryd.prog.stopsHeard) = true := by kernel_rfl
theorem moJ25 : (Tryd.prog.mayEnter) = true := by kernel_rfl
theorem moJ26 : ((Rows.metaOfRow.lifted == Tryd.prog.liftsFinal)) = true := by kernel_rfl
theorem moJ27 : ((Tryd.prog.make == some Rows.metaOfRow.make)) = true := by kernel_rfl
theorem moJ28 : ((Rows.metaOfRow.kinds == (if Rows.metaOfRow.domain.isEmpty then [] else Tryd.f3.params.toList.map fun t => match Tryd.prog.underlying t with | some (.int k) => some k | _ => none))) = true := by kernel_rfl
theorem moJ29 : ((Rows.metaOfRow.pinned == Rows.metaOfRow.pinnedBy)) = true := by kernel_rfl
theorem moJ30 : ((Rows.metaOfRow.veiled == (Tryd.f3.params.toList ++ Rows.metaOfSpec.plain.varTypes Tryd.prog ++ Tryd.f3.resultTypes.toList).any (Tryd.prog.veiledRec ·))) = true := by kernel_rfl
theorem moJ31 : (Rows.metaOfRow.veiledFits Tryd.prog Tryd.f3.params.toList (Tryd.f3.params.toList ++ Rows.metaOfSpec.plain.varTypes Tryd.prog ++ Tryd.f3.resultTypes.toList)) = true := by kernel_rfl
set_option maxRecDepth 100000 in
theorem metaOf_facts : joinedFacts Tryd.prog 3 Tryd.f3 Rows.metaOfSpec Rows.metaOfRow = true := moJandT (moJandT (moJandT (moJandT (moJandT (moJandT (moJandT (moJandT (moJandT (moJandT (moJandT (moJandT (moJandT (moJandT (moJandT (moJandT (moJandT (moJandT (moJandT (moJandT (moJandT (moJandT (moJandT (moJandT (moJandT (moJandT (moJandT (moJandT (moJandT (moJandT (moJandT moJ0 moJ1) moJ2) moJ3) moJ4) moJ5) moJ6) moJ7) moJ8) moJ9) moJ10) moJ11) moJ12) moJ13) moJ14) moJ15) moJ16) moJ17) moJ18) moJ19) moJ20) moJ21) moJ22) moJ23) moJ24) moJ25) moJ26) moJ27) moJ28) moJ29) moJ30) moJ31

end Go.Proofs.YtecffghcpknmjaaDoor

/- Whatever the projects and the id, the law MetaOf returns true, and its arguments read behind the call as before; the card ties the library variables that the row lists; no conditions. -/
namespace Go.Proofs.YtecffghcpknmjaaDoor
open Go Go.ChangeShapes Go.WideShapes Go.ChangeAt Go.RowKit Go.ChangeMaps

theorem rt_insmetaOf : Tryd.prog.readableRec 22 = true := by kernel_rfl
theorem lt_insmetaOf : 22 < Tryd.prog.types.size := of_decide_eq_true (by kernel_rfl)
theorem rt_idmetaOf : Tryd.prog.readableRec 24 = true := by kernel_rfl
theorem lt_idmetaOf : 24 < Tryd.prog.types.size := of_decide_eq_true (by kernel_rfl)

set_option maxRecDepth 100000 in
theorem metaOf_lifted (os : Os) (started : os.Started) (H : Type) (enc : TypeId × Value → H) :
    ReturnsInHanded {} Tryd.checked os 3 .any (fun w args => (Rows.metaOfSpec.pre enc Tryd.prog Tryd.f3 Rows.metaOfRow.domain false w args ∧ laidMetH Tryd.prog laidL w) ∧ sizedMet enc Tryd.prog Tryd.f3 (OpenSpec.ofChange Rows.metaOfSpec) false w args)
      (Rows.metaOfSpec.post enc Tryd.prog Tryd.f3 false true false false) := by
  refine handed_tied (C := Tryd.checked) (X := fun w _ => laidMetH Tryd.prog laidL w) own started (by kernel_rfl) Tryd.func3
    (ChangeSpec.witness_shaped (enc := enc) (C := Tryd.checked) (os := os) (X := fun w _ => laidMetH Tryd.prog laidL w) false (World.laidAll Tryd.prog os laidL) #[.slice none 0 0, .agg #[.string .empty, .string .empty]] 8 (World.laidAll_os _ _ _)
      (World.shaped_of_ZipB (by kernel_rfl) (by kernel_rfl)) (by kernel_rfl) (by kernel_rfl) (by kernel_rfl)
      (by rw [MakeChecks.laidMetH_plain _ _ _ (by kernel_rfl)]; exact laidMet_laidAll _ (by kernel_rfl) (by kernel_rfl))) ?_
  intro W base args ds gs before hval0 hW _ hsh
  have hval : ∀ (j : Nat) t v, Tryd.f3.params[j]? = some t → args[j]? = some v → Value.okWide Tryd.prog W .any base t v := hval0
  have hW' := hW
  obtain ⟨p, q, hA0, hV, rfl, hfz, hnd⟩ := hW
  have hA : DataW.TrodAll enc Tryd.prog W 0 (fun _ => true) true Tryd.f3.params.toList args.toList ds p := hA0
  have hA' := hA
  rw [Tryd.params3] at hA hval
  obtain ⟨v0, v1, d0, d1, p0, p1, rfl, rfl, rfl, h0, h1⟩ := trodAll_two hA
  obtain ⟨rfl, rfl⟩ := trodVars_none hV
  obtain ⟨l, hs, hz⟩ := open_ins (hval 0 22 v0 rfl rfl) h0
  obtain ⟨x, rfl⟩ := open_id (hval 1 24 v1 rfl rfl) h1
  clear hA0 hval0
  have hlt : ∀ x ∈ p0 ++ p1, x.block < W.heap.size := fun x hx => by simpa using hW'.lt x (by simpa using hx)
  refine (metaOf_law refParts_any (fun g w h => refMayGav_any g w h) x v0 l W hs hz).mono fun en W' ⟨he, hb⟩ => ?_
  subst he
  refine ⟨_, rfl, _, _, _, [], p0 ++ p1, [], hW', trodAll_mk1 (shut_bool Tryd.underlying4 _), trodAll_below hb ?_ hA' hlt, rfl, hb.frame _, fun h => by cases h⟩
  rw [Tryd.params3]
  intro t ht
  simp at ht
  rcases ht with rfl | rfl
  · exact ⟨rt_insmetaOf, lt_insmetaOf⟩
  · exact ⟨rt_idmetaOf, lt_idmetaOf⟩

theorem metaOf_row : Rows.MetaOfSaid :=
  OpenClaim.holds_of_wide 3 Tryd.f3 rfl rfl rfl rfl rfl rfl rfl ⟨rfl, rfl, rfl, rfl, rfl⟩ rfl rfl rfl rfl rfl (by kernel_rfl) Tryd.func3 metaOf_facts
    (of_decide_eq_true (by kernel_rfl)) (by unfold Func.isWrapper; rw [if_neg (of_decide_eq_false (by kernel_rfl))]; exact ⟨rfl, rfl⟩)
    (fun os started H enc _ => metaOf_lifted os started H enc)

theorem metaOf_holds : Rows.MetaOfCardSaid :=
  Claim7.holds_tied_plain_at .later [] [.data, .pinned] true (true, "ca75daf36b89d509da9f66e728777df19afa45d836f1bfaf4e400548447fbc23") false
    metaOf_row (fun _ h => by cases h) (by kernel_rfl) (fun _ h => by cases h) metaOf_row_tie rfl ⟨rfl, rfl⟩ (by kernel_rfl) rfl
    (fun f fn hf hfn => by
      obtain rfl : f = 3 := Option.some.inj ((show Tryd.prog.funcNamed "pomace/pomacelaw23.MetaOf" = some 3 by kernel_rfl).symm.trans hf) |>.symm
      obtain rfl : fn = Tryd.f3 := (Option.some.inj (Tryd.func3.symm.trans hfn)).symm
      exact ⟨by kernel_rfl, fun j t ht => by
        rw [Tryd.params3] at ht
        have hm : t ∈ [22, 24] := by simpa using Array.mem_of_getElem? ht
        have hall : ([22, 24].all fun u => !Tryd.prog.wantsStandIn u) = true := by kernel_rfl
        exact (show Tryd.prog.wantsStandIn t = false by simpa using List.all_eq_true.1 hall t hm)⟩)
    (by kernel_rfl)

#print axioms metaOf_holds

end Go.Proofs.YtecffghcpknmjaaDoor
