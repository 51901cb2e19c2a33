/- The law MetaMerges returns true; the conditions stand in the theorem. -/
import Derived.Test.YtecffghcpknmjaaDoorJO11
import Derived.Test.YtecffghcpknmjaaDoorL11
namespace Go.Proofs.YtecffghcpknmjaaDoor
open Go Go.RowKit

theorem own_belowM {α : Type} {B : Nat} {w2 w8 w9 : World} {E n : Nat} {C : α → List Value} {v : Value} {l : List α} (h : Below B w2 w8) (ho : Owns B E n C w8 v l) (hg : w8.grownBy w9 v.ownBlock) (hB : B ≤ w8.heap.size) : Below B w2 w9 := h.grown hg hB (fun j hj => (ho.lt j hj).1)
set_option maxRecDepth 100000 in
set_option maxHeartbeats 16000000 in
theorem metaMerges_of (HPT : RefPartsOk) (a b : MetaD) (va vb : Value) (w : World) (ha : SliceOf 1 strC w va a.vers) (hb : SliceOf 1 strC w vb b.vers) :
    Calls Tryd.prog 4 #[metaAg a va, metaAg b vb] w fun e w' => e = .returned (.bool true) ∧ Below w.heap.size w w' := by
  obtain ⟨ao, ac, rfl⟩ := ha.shape
  obtain ⟨bo, bc, rfl⟩ := hb.shape
  have HA := Lib.hid ha
  have HBS := Lib.hid hb
  have HPT' := Lib.hid HPT
  clear ha hb HPT
  have HLGA : Hid (∀ W, Below w.heap.size w W → Calls Tryd.prog 14 #[metaAg a (.slice ao a.vers.length ac)] W fun e w' => e = .returned (.bool (lightM a)) ∧ Below W.heap.size W w') := fun W h => lightM_any a _ W (HA.out.below h)
  have HLGB : Hid (∀ W, Below w.heap.size w W → Calls Tryd.prog 14 #[metaAg b (.slice bo b.vers.length bc)] W fun e w' => e = .returned (.bool (lightM b)) ∧ Below W.heap.size W w') := fun W h => lightM_any b _ W (HBS.out.below h)
  have HALL : Hid (lightM a = true → lightM b = true → MetaSm a ∧ MetaSm b ∧ a.vers.length ≤ 40 ∧ b.vers.length ≤ 40) := fun la lb => ⟨(lightM_sm la).1, (lightM_sm lb).1, (lightM_sm la).2.2.1, (lightM_sm lb).2.2.1⟩
  have HMG : Hid (mergeB a b = (mayM a && mayM b && (decide (a.id.group = b.id.group) && decide (a.id.artifact = b.id.artifact)))) := rfl
  have HMG2 : Hid (mergeB b a = (mayM b && mayM a && (decide (a.id.group = b.id.group) && decide (a.id.artifact = b.id.artifact)))) := by show _ = _; unfold mergeB; rw [decide_eq_decide.2 (eq_comm (a := b.id.group)), decide_eq_decide.2 (eq_comm (a := b.id.artifact))]
  have HMG3 : Hid (mergeB a a = mayM a) := by show _ = _; unfold mergeB; simp
  obtain ⟨⟨ag, aa⟩, al, at', ar⟩ := a
  obtain ⟨⟨bg, ba⟩, bl, bt, br⟩ := b
  simp only at HA HBS HALL HMG HMG2 HMG3
  obtain ⟨la, hla⟩ : ∃ q, lightM (⟨⟨ag, aa⟩, al, at', ar⟩ : MetaD) = q := ⟨_, rfl⟩
  obtain ⟨lb, hlb⟩ : ∃ q, lightM (⟨⟨bg, ba⟩, bl, bt, br⟩ : MetaD) = q := ⟨_, rfl⟩
  rw [hla] at HLGA
  rw [hlb] at HLGB
  rw [hla, hlb] at HALL
  clear hla hlb
  unfold metaAg metaC at HLGA HLGB ⊢
  simp only at HLGA HLGB ⊢
  go_enter Tryd.func4, Tryd.ntmps4
  go_upto_region 1 with fail
  refine wp_world ?_
  intro W hW
  have x1 : Box W w.heap.size [.string ag, .string aa, .slice ao al.length ac, .string at', .string ar] := by rw [hW]; exact (Box.new w [.string ag, .string aa, .slice ao al.length ac, .string at', .string ar] _ _ rfl).alloc _
  have y1 : Box W (w.heap.size + 1) [.string bg, .string ba, .slice bo bl.length bc, .string bt, .string br] := by rw [hW]; exact Box.new _ [.string bg, .string ba, .slice bo bl.length bc, .string bt, .string br] _ _ (by simp)
  have hb : Below w.heap.size w W := by rw [hW]; exact ((Below.refl _ w).alloc (Nat.le_refl _) _).alloc (by simp) _
  clear hW
  have HX := Lib.hid x1
  have HY := Lib.hid y1
  have HB := Lib.hid hb
  clear x1 y1 hb
  have x0 := HX.out.cell 0 _ rfl
  have x1 := HX.out.cell 1 _ rfl
  have x2 := HX.out.cell 2 _ rfl
  have x3 := HX.out.cell 3 _ rfl
  have x4 := HX.out.cell 4 _ rfl
  have xl := HX.out.lt
  go_wp2_with fail
  refine (HLGA.out W HB.out).mono ?_
  rintro e w1 ⟨rfl, hb1⟩
  have HX' := Lib.hid (HX.out.below hb1 HX.out.lt)
  have HY' := Lib.hid (HY.out.below hb1 HY.out.lt)
  have HB' := Lib.hid (HB.out.trans (hb1.mono HB.out.size))
  clear hb1 HX HY HB x0 x1 x2 x3 x4 xl
  have HX := HX'
  have HY := HY'
  have HB := HB'
  clear HX' HY' HB'
  cases la with
  | false =>
    go_wp2_with fail
    refine (metaLives_any _).mono ?_
    rintro e wl ⟨rfl, hb1⟩
    have HBL := Lib.hid (HB.out.trans (hb1.mono HB.out.size))
    clear hb1
    go_wp2
    go_ret
    exact ⟨rfl, HBL.out⟩
  | true =>
    have y0 := HY.out.cell 0 _ rfl
    have y1 := HY.out.cell 1 _ rfl
    have y2 := HY.out.cell 2 _ rfl
    have y3 := HY.out.cell 3 _ rfl
    have y4 := HY.out.cell 4 _ rfl
    have yl := HY.out.lt
    go_wp2_with fail
    refine (HLGB.out w1 HB.out).mono ?_
    rintro e w2 ⟨rfl, hb1⟩
    have HX' := Lib.hid (HX.out.below hb1 HX.out.lt)
    have HY' := Lib.hid (HY.out.below hb1 HY.out.lt)
    have HB' := Lib.hid (HB.out.trans (hb1.mono HB.out.size))
    clear hb1 HX HY HB y0 y1 y2 y3 y4 yl
    have HX := HX'
    have HY := HY'
    have HB := HB'
    clear HX' HY' HB'
    cases lb with
    | false =>
      go_wp2_with fail
      refine (metaLives_any _).mono ?_
      rintro e wl ⟨rfl, hb1⟩
      have HBL := Lib.hid (HB.out.trans (hb1.mono HB.out.size))
      clear hb1
      go_wp2
      go_ret
      exact ⟨rfl, HBL.out⟩
    | true =>
      obtain ⟨hsa, hsb, hla, hlb⟩ := HALL.out (by first | trivial | rfl) (by first | trivial | rfl)
      have HGA : Hid (ag.size ≤ 9223372036854775807 ∧ aa.size ≤ 9223372036854775807) := ⟨hsa.g, hsa.a⟩
      have HZA : Hid (AllSmall al) := hsa.v
      have HZB : Hid (AllSmall bl) := hsb.v
      have HLA : Hid (al.length ≤ 40) := hla
      have HLB : Hid (bl.length ≤ 40) := hlb
      have HMAB : Hid (∀ W, Below w.heap.size w W → Calls Tryd.prog 15 #[.agg #[.string ag, .string aa, .slice ao al.length ac, .string at', .string ar], .agg #[.string bg, .string ba, .slice bo bl.length bc, .string bt, .string br]] W (MergeOut (⟨⟨ag, aa⟩, al, at', ar⟩ : MetaD) (⟨⟨bg, ba⟩, bl, bt, br⟩ : MetaD) W)) := fun W h => metaMerge_any (⟨⟨ag, aa⟩, al, at', ar⟩ : MetaD) (⟨⟨bg, ba⟩, bl, bt, br⟩ : MetaD) _ _ W (HA.out.below h) (HBS.out.below h) hsa hsb (by show al.length ≤ _; omega) (by show bl.length ≤ _; omega)
      have HMBA : Hid (∀ W, Below w.heap.size w W → Calls Tryd.prog 15 #[.agg #[.string bg, .string ba, .slice bo bl.length bc, .string bt, .string br], .agg #[.string ag, .string aa, .slice ao al.length ac, .string at', .string ar]] W (MergeOut (⟨⟨bg, ba⟩, bl, bt, br⟩ : MetaD) (⟨⟨ag, aa⟩, al, at', ar⟩ : MetaD) W)) := fun W h => metaMerge_any (⟨⟨bg, ba⟩, bl, bt, br⟩ : MetaD) (⟨⟨ag, aa⟩, al, at', ar⟩ : MetaD) _ _ W (HBS.out.below h) (HA.out.below h) hsb hsa (by show bl.length ≤ _; omega) (by show al.length ≤ _; omega)
      have HMAA : Hid (∀ W, Below w.heap.size w W → Calls Tryd.prog 15 #[.agg #[.string ag, .string aa, .slice ao al.length ac, .string at', .string ar], .agg #[.string ag, .string aa, .slice ao al.length ac, .string at', .string ar]] W (MergeOut (⟨⟨ag, aa⟩, al, at', ar⟩ : MetaD) (⟨⟨ag, aa⟩, al, at', ar⟩ : MetaD) W)) := fun W h => metaMerge_any (⟨⟨ag, aa⟩, al, at', ar⟩ : MetaD) (⟨⟨ag, aa⟩, al, at', ar⟩ : MetaD) _ _ W (HA.out.below h) (HA.out.below h) hsa hsa (by show al.length ≤ _; omega) (by show al.length ≤ _; omega)
      have HRA : Hid (∀ W, Below w.heap.size w W → Calls Tryd.prog 16 #[.agg #[.string ag, .string aa, .slice ao al.length ac, .string at', .string ar]] W fun e w' => e = .returned (.bool (mayM (⟨⟨ag, aa⟩, al, at', ar⟩ : MetaD))) ∧ Below W.heap.size W w') := fun W h => refMetaMay_of HPT'.out (⟨⟨ag, aa⟩, al, at', ar⟩ : MetaD) _ W (HA.out.below h) hsa
      have HRB : Hid (∀ W, Below w.heap.size w W → Calls Tryd.prog 16 #[.agg #[.string bg, .string ba, .slice bo bl.length bc, .string bt, .string br]] W fun e w' => e = .returned (.bool (mayM (⟨⟨bg, ba⟩, bl, bt, br⟩ : MetaD))) ∧ Below W.heap.size W w') := fun W h => refMetaMay_of HPT'.out (⟨⟨bg, ba⟩, bl, bt, br⟩ : MetaD) _ W (HBS.out.below h) hsb
      have HSZ : Hid (∀ W, Calls Tryd.prog 10 #[.agg #[.string ⟨#[]⟩, .string ⟨#[]⟩, .slice none 0 0, .string ⟨#[]⟩, .string ⟨#[]⟩], .agg #[.string ⟨#[]⟩, .string ⟨#[]⟩, .slice none 0 0, .string ⟨#[]⟩, .string ⟨#[]⟩]] W fun e w' => e = .returned (.bool true) ∧ Below W.heap.size W w') := fun W => by
        have h := refMetaSame_any ⟨⟨⟨#[]⟩, ⟨#[]⟩⟩, [], ⟨#[]⟩, ⟨#[]⟩⟩ ⟨⟨⟨#[]⟩, ⟨#[]⟩⟩, [], ⟨#[]⟩, ⟨#[]⟩⟩ (.slice none 0 0) (.slice none 0 0) W SliceOf.nil SliceOf.nil (by simp)
        rw [decide_eq_true rfl] at h
        exact h
      have HSA := Lib.hid (HA.out.below HB.out)
      have HSB := Lib.hid (HBS.out.below HB.out)
      obtain ⟨qa, hqa⟩ : ∃ q, mayM (⟨⟨ag, aa⟩, al, at', ar⟩ : MetaD) = q := ⟨_, rfl⟩
      obtain ⟨qb, hqb⟩ : ∃ q, mayM (⟨⟨bg, ba⟩, bl, bt, br⟩ : MetaD) = q := ⟨_, rfl⟩
      obtain ⟨qi, hqi⟩ : ∃ q, (decide (ag = bg) && decide (aa = ba)) = q := ⟨_, rfl⟩
      have hneq := fun W => neq_idV ag aa bg ba W
      rw [hqi] at hneq HMG HMG2
      rw [hqa] at HMG HMG2 HMG3 HRA
      rw [hqb] at HMG HMG2 HRB
      have HQA := Lib.hid hqa
      have HQB := Lib.hid hqb
      clear hsa hsb hla hlb HALL HA HBS HLGA HLGB hqa hqb hqi
      have x0 := HX.out.cell 0 _ rfl
      have x1 := HX.out.cell 1 _ rfl
      have x2 := HX.out.cell 2 _ rfl
      have x3 := HX.out.cell 3 _ rfl
      have x4 := HX.out.cell 4 _ rfl
      have xl := HX.out.lt
      have y0 := HY.out.cell 0 _ rfl
      have y1 := HY.out.cell 1 _ rfl
      have y2 := HY.out.cell 2 _ rfl
      have y3 := HY.out.cell 3 _ rfl
      have y4 := HY.out.cell 4 _ rfl
      have yl := HY.out.lt
      cases qa with
      | false =>
        have HF : Hid (mergeB (⟨⟨ag, aa⟩, al, at', ar⟩ : MetaD) (⟨⟨bg, ba⟩, bl, bt, br⟩ : MetaD) = false) := by show _ = _; rw [HMG.out]; rfl
        clear HSA HSB HMG HMG2 HMG3
        go_wp2_with fail
        refine (HMAB.out w2 HB.out).mono ?_
        rintro e w3 ⟨v1, M1, ho1, -, hm1, hb1, he1⟩
        rw [if_neg (by rw [HF.out]; decide)] at he1
        have he2 : e = .returned (.tuple #[.agg #[.string ⟨#[]⟩, .string ⟨#[]⟩, .slice none 0 0, .string ⟨#[]⟩, .string ⟨#[]⟩], .bool false]) := he1
        clear he1
        subst he2
        clear ho1 hm1
        have HX' := Lib.hid (HX.out.below hb1 HX.out.lt)
        have HY' := Lib.hid (HY.out.below hb1 HY.out.lt)
        have HB' := Lib.hid (HB.out.trans (hb1.mono HB.out.size))
        clear hb1 HX HY HB x0 x1 x2 x3 x4 xl y0 y1 y2 y3 y4 yl
        have HX := HX'
        have HY := HY'
        have HB := HB'
        clear HX' HY' HB'
        go_upto_region 4 with fail
        refine wp_world ?_
        intro W4 hW
        have hz : Box W4 w3.heap.size metaZ := by rw [hW]; exact Box.new _ metaZ _ _ rfl
        have hb1 : Below w3.heap.size w3 W4 := by rw [hW]; exact (Below.refl _ _).alloc (Nat.le_refl _) _
        clear hW
        have HZ := Lib.hid hz
        clear hz
        have HX' := Lib.hid (HX.out.below hb1 HX.out.lt)
        have HY' := Lib.hid (HY.out.below hb1 HY.out.lt)
        have HB' := Lib.hid (HB.out.trans (hb1.mono HB.out.size))
        clear hb1 HX HY HB
        have HX := HX'
        have HY := HY'
        have HB := HB'
        clear HX' HY' HB'
        have x0 := HX.out.cell 0 _ rfl
        have x1 := HX.out.cell 1 _ rfl
        have x2 := HX.out.cell 2 _ rfl
        have x3 := HX.out.cell 3 _ rfl
        have x4 := HX.out.cell 4 _ rfl
        have xl := HX.out.lt
        go_wp2_with fail
        refine (HRA.out W4 HB.out).mono ?_
        rintro e w5 ⟨rfl, hb1⟩
        have HX' := Lib.hid (HX.out.below hb1 HX.out.lt)
        have HY' := Lib.hid (HY.out.below hb1 HY.out.lt)
        have HZ' := Lib.hid (HZ.out.below hb1 HZ.out.lt)
        have HB' := Lib.hid (HB.out.trans (hb1.mono HB.out.size))
        clear hb1 HX HY HZ HB x0 x1 x2 x3 x4 xl
        have HX := HX'
        have HY := HY'
        have HZ := HZ'
        have HB := HB'
        clear HX' HY' HZ' HB'
        have x0 := HX.out.cell 0 _ rfl
        have x1 := HX.out.cell 1 _ rfl
        have x2 := HX.out.cell 2 _ rfl
        have x3 := HX.out.cell 3 _ rfl
        have x4 := HX.out.cell 4 _ rfl
        have xl := HX.out.lt
        have y0 := HY.out.cell 0 _ rfl
        have y1 := HY.out.cell 1 _ rfl
        have y2 := HY.out.cell 2 _ rfl
        have y3 := HY.out.cell 3 _ rfl
        have y4 := HY.out.cell 4 _ rfl
        have yl := HY.out.lt
        have z0 := HZ.out.cell 0 _ rfl
        have z1 := HZ.out.cell 1 _ rfl
        have z2 := HZ.out.cell 2 _ rfl
        have z3 := HZ.out.cell 3 _ rfl
        have z4 := HZ.out.cell 4 _ rfl
        have zl := HZ.out.lt
        go_wp2_with fail
        refine (HSZ.out w5).mono ?_
        rintro e w7 ⟨rfl, hb1⟩
        have HX' := Lib.hid (HX.out.below hb1 HX.out.lt)
        have HY' := Lib.hid (HY.out.below hb1 HY.out.lt)
        have HB' := Lib.hid (HB.out.trans (hb1.mono HB.out.size))
        clear hb1 HX HY HB x0 x1 x2 x3 x4 xl y0 y1 y2 y3 y4 yl z0 z1 z2 z3 z4 zl HZ
        have HX := HX'
        have HY := HY'
        have HB := HB'
        clear HX' HY' HB'
        go_wp2_with fail
        refine (metaLives_any _).mono ?_
        rintro e wl ⟨rfl, hb1⟩
        have HBL := Lib.hid (HB.out.trans (hb1.mono HB.out.size))
        clear hb1
        go_wp2
        go_ret
        exact ⟨rfl, HBL.out⟩
      | true =>
        cases qb with
        | false =>
          have HF : Hid (mergeB (⟨⟨ag, aa⟩, al, at', ar⟩ : MetaD) (⟨⟨bg, ba⟩, bl, bt, br⟩ : MetaD) = false) := by show _ = _; rw [HMG.out]; rfl
          clear HSA HSB HMG HMG2 HMG3
          go_wp2_with fail
          refine (HMAB.out w2 HB.out).mono ?_
          rintro e w3 ⟨v1, M1, ho1, -, hm1, hb1, he1⟩
          rw [if_neg (by rw [HF.out]; decide)] at he1
          have he2 : e = .returned (.tuple #[.agg #[.string ⟨#[]⟩, .string ⟨#[]⟩, .slice none 0 0, .string ⟨#[]⟩, .string ⟨#[]⟩], .bool false]) := he1
          clear he1
          subst he2
          clear ho1 hm1
          have HX' := Lib.hid (HX.out.below hb1 HX.out.lt)
          have HY' := Lib.hid (HY.out.below hb1 HY.out.lt)
          have HB' := Lib.hid (HB.out.trans (hb1.mono HB.out.size))
          clear hb1 HX HY HB x0 x1 x2 x3 x4 xl y0 y1 y2 y3 y4 yl
          have HX := HX'
          have HY := HY'
          have HB := HB'
          clear HX' HY' HB'
          go_upto_region 4 with fail
          refine wp_world ?_
          intro W4 hW
          have hz : Box W4 w3.heap.size metaZ := by rw [hW]; exact Box.new _ metaZ _ _ rfl
          have hb1 : Below w3.heap.size w3 W4 := by rw [hW]; exact (Below.refl _ _).alloc (Nat.le_refl _) _
          clear hW
          have HZ := Lib.hid hz
          clear hz
          have HX' := Lib.hid (HX.out.below hb1 HX.out.lt)
          have HY' := Lib.hid (HY.out.below hb1 HY.out.lt)
          have HB' := Lib.hid (HB.out.trans (hb1.mono HB.out.size))
          clear hb1 HX HY HB
          have HX := HX'
          have HY := HY'
          have HB := HB'
          clear HX' HY' HB'
          have x0 := HX.out.cell 0 _ rfl
          have x1 := HX.out.cell 1 _ rfl
          have x2 := HX.out.cell 2 _ rfl
          have x3 := HX.out.cell 3 _ rfl
          have x4 := HX.out.cell 4 _ rfl
          have xl := HX.out.lt
          go_wp2_with fail
          refine (HRA.out W4 HB.out).mono ?_
          rintro e w5 ⟨rfl, hb1⟩
          have HX' := Lib.hid (HX.out.below hb1 HX.out.lt)
          have HY' := Lib.hid (HY.out.below hb1 HY.out.lt)
          have HZ' := Lib.hid (HZ.out.below hb1 HZ.out.lt)
          have HB' := Lib.hid (HB.out.trans (hb1.mono HB.out.size))
          clear hb1 HX HY HZ HB x0 x1 x2 x3 x4 xl
          have HX := HX'
          have HY := HY'
          have HZ := HZ'
          have HB := HB'
          clear HX' HY' HZ' HB'
          have y0 := HY.out.cell 0 _ rfl
          have y1 := HY.out.cell 1 _ rfl
          have y2 := HY.out.cell 2 _ rfl
          have y3 := HY.out.cell 3 _ rfl
          have y4 := HY.out.cell 4 _ rfl
          have yl := HY.out.lt
          go_wp2_with fail
          refine (HRB.out w5 HB.out).mono ?_
          rintro e w6 ⟨rfl, hb1⟩
          have HX' := Lib.hid (HX.out.below hb1 HX.out.lt)
          have HY' := Lib.hid (HY.out.below hb1 HY.out.lt)
          have HZ' := Lib.hid (HZ.out.below hb1 HZ.out.lt)
          have HB' := Lib.hid (HB.out.trans (hb1.mono HB.out.size))
          clear hb1 HX HY HZ HB y0 y1 y2 y3 y4 yl
          have HX := HX'
          have HY := HY'
          have HZ := HZ'
          have HB := HB'
          clear HX' HY' HZ' HB'
          have x0 := HX.out.cell 0 _ rfl
          have x1 := HX.out.cell 1 _ rfl
          have x2 := HX.out.cell 2 _ rfl
          have x3 := HX.out.cell 3 _ rfl
          have x4 := HX.out.cell 4 _ rfl
          have xl := HX.out.lt
          have y0 := HY.out.cell 0 _ rfl
          have y1 := HY.out.cell 1 _ rfl
          have y2 := HY.out.cell 2 _ rfl
          have y3 := HY.out.cell 3 _ rfl
          have y4 := HY.out.cell 4 _ rfl
          have yl := HY.out.lt
          have z0 := HZ.out.cell 0 _ rfl
          have z1 := HZ.out.cell 1 _ rfl
          have z2 := HZ.out.cell 2 _ rfl
          have z3 := HZ.out.cell 3 _ rfl
          have z4 := HZ.out.cell 4 _ rfl
          have zl := HZ.out.lt
          go_wp2_with fail
          refine (HSZ.out w6).mono ?_
          rintro e w7 ⟨rfl, hb1⟩
          have HX' := Lib.hid (HX.out.below hb1 HX.out.lt)
          have HY' := Lib.hid (HY.out.below hb1 HY.out.lt)
          have HB' := Lib.hid (HB.out.trans (hb1.mono HB.out.size))
          clear hb1 HX HY HB x0 x1 x2 x3 x4 xl y0 y1 y2 y3 y4 yl z0 z1 z2 z3 z4 zl HZ
          have HX := HX'
          have HY := HY'
          have HB := HB'
          clear HX' HY' HB'
          go_wp2_with fail
          refine (metaLives_any _).mono ?_
          rintro e wl ⟨rfl, hb1⟩
          have HBL := Lib.hid (HB.out.trans (hb1.mono HB.out.size))
          clear hb1
          go_wp2
          go_ret
          exact ⟨rfl, HBL.out⟩
        | true =>
          cases qi with
          | false =>
            have HF : Hid (mergeB (⟨⟨ag, aa⟩, al, at', ar⟩ : MetaD) (⟨⟨bg, ba⟩, bl, bt, br⟩ : MetaD) = false) := by show _ = _; rw [HMG.out]; rfl
            clear HSA HSB HMG HMG2 HMG3
            go_wp2_with fail
            refine (HMAB.out w2 HB.out).mono ?_
            rintro e w3 ⟨v1, M1, ho1, -, hm1, hb1, he1⟩
            rw [if_neg (by rw [HF.out]; decide)] at he1
            have he2 : e = .returned (.tuple #[.agg #[.string ⟨#[]⟩, .string ⟨#[]⟩, .slice none 0 0, .string ⟨#[]⟩, .string ⟨#[]⟩], .bool false]) := he1
            clear he1
            subst he2
            clear ho1 hm1
            have HX' := Lib.hid (HX.out.below hb1 HX.out.lt)
            have HY' := Lib.hid (HY.out.below hb1 HY.out.lt)
            have HB' := Lib.hid (HB.out.trans (hb1.mono HB.out.size))
            clear hb1 HX HY HB x0 x1 x2 x3 x4 xl y0 y1 y2 y3 y4 yl
            have HX := HX'
            have HY := HY'
            have HB := HB'
            clear HX' HY' HB'
            go_upto_region 4 with fail
            refine wp_world ?_
            intro W4 hW
            have hz : Box W4 w3.heap.size metaZ := by rw [hW]; exact Box.new _ metaZ _ _ rfl
            have hb1 : Below w3.heap.size w3 W4 := by rw [hW]; exact (Below.refl _ _).alloc (Nat.le_refl _) _
            clear hW
            have HZ := Lib.hid hz
            clear hz
            have HX' := Lib.hid (HX.out.below hb1 HX.out.lt)
            have HY' := Lib.hid (HY.out.below hb1 HY.out.lt)
            have HB' := Lib.hid (HB.out.trans (hb1.mono HB.out.size))
            clear hb1 HX HY HB
            have HX := HX'
            have HY := HY'
            have HB := HB'
            clear HX' HY' HB'
            have x0 := HX.out.cell 0 _ rfl
            have x1 := HX.out.cell 1 _ rfl
            have x2 := HX.out.cell 2 _ rfl
            have x3 := HX.out.cell 3 _ rfl
            have x4 := HX.out.cell 4 _ rfl
            have xl := HX.out.lt
            go_wp2_with fail
            refine (HRA.out W4 HB.out).mono ?_
            rintro e w5 ⟨rfl, hb1⟩
            have HX' := Lib.hid (HX.out.below hb1 HX.out.lt)
            have HY' := Lib.hid (HY.out.below hb1 HY.out.lt)
            have HZ' := Lib.hid (HZ.out.below hb1 HZ.out.lt)
            have HB' := Lib.hid (HB.out.trans (hb1.mono HB.out.size))
            clear hb1 HX HY HZ HB x0 x1 x2 x3 x4 xl
            have HX := HX'
            have HY := HY'
            have HZ := HZ'
            have HB := HB'
            clear HX' HY' HZ' HB'
            have y0 := HY.out.cell 0 _ rfl
            have y1 := HY.out.cell 1 _ rfl
            have y2 := HY.out.cell 2 _ rfl
            have y3 := HY.out.cell 3 _ rfl
            have y4 := HY.out.cell 4 _ rfl
            have yl := HY.out.lt
            go_wp2_with fail
            refine (HRB.out w5 HB.out).mono ?_
            rintro e w6 ⟨rfl, hb1⟩
            have HX' := Lib.hid (HX.out.below hb1 HX.out.lt)
            have HY' := Lib.hid (HY.out.below hb1 HY.out.lt)
            have HZ' := Lib.hid (HZ.out.below hb1 HZ.out.lt)
            have HB' := Lib.hid (HB.out.trans (hb1.mono HB.out.size))
            clear hb1 HX HY HZ HB y0 y1 y2 y3 y4 yl
            have HX := HX'
            have HY := HY'
            have HZ := HZ'
            have HB := HB'
            clear HX' HY' HZ' HB'
            have x0 := HX.out.cell 0 _ rfl
            have x1 := HX.out.cell 1 _ rfl
            have x2 := HX.out.cell 2 _ rfl
            have x3 := HX.out.cell 3 _ rfl
            have x4 := HX.out.cell 4 _ rfl
            have xl := HX.out.lt
            have y0 := HY.out.cell 0 _ rfl
            have y1 := HY.out.cell 1 _ rfl
            have y2 := HY.out.cell 2 _ rfl
            have y3 := HY.out.cell 3 _ rfl
            have y4 := HY.out.cell 4 _ rfl
            have yl := HY.out.lt
            have z0 := HZ.out.cell 0 _ rfl
            have z1 := HZ.out.cell 1 _ rfl
            have z2 := HZ.out.cell 2 _ rfl
            have z3 := HZ.out.cell 3 _ rfl
            have z4 := HZ.out.cell 4 _ rfl
            have zl := HZ.out.lt
            go_wp2_with fail
            refine (HSZ.out w6).mono ?_
            rintro e w7 ⟨rfl, hb1⟩
            have HX' := Lib.hid (HX.out.below hb1 HX.out.lt)
            have HY' := Lib.hid (HY.out.below hb1 HY.out.lt)
            have HB' := Lib.hid (HB.out.trans (hb1.mono HB.out.size))
            clear hb1 HX HY HB x0 x1 x2 x3 x4 xl y0 y1 y2 y3 y4 yl z0 z1 z2 z3 z4 zl HZ
            have HX := HX'
            have HY := HY'
            have HB := HB'
            clear HX' HY' HB'
            go_wp2_with fail
            refine (metaLives_any _).mono ?_
            rintro e wl ⟨rfl, hb1⟩
            have HBL := Lib.hid (HB.out.trans (hb1.mono HB.out.size))
            clear hb1
            go_wp2
            go_ret
            exact ⟨rfl, HBL.out⟩
          | true =>
            clear x0 x1 x2 x3 x4 xl y0 y1 y2 y3 y4 yl
            have HGHP : Hid (mergeB (⟨⟨ag, aa⟩, al, at', ar⟩ : MetaD) (⟨⟨bg, ba⟩, bl, bt, br⟩ : MetaD) = true) := by show _ = _; rw [HMG.out]; rfl
            have HGHQ : Hid (mergeB (⟨⟨bg, ba⟩, bl, bt, br⟩ : MetaD) (⟨⟨ag, aa⟩, al, at', ar⟩ : MetaD) = true) := by show _ = _; rw [HMG2.out]; rfl
            have HGHR : Hid (mergeB (⟨⟨ag, aa⟩, al, at', ar⟩ : MetaD) (⟨⟨ag, aa⟩, al, at', ar⟩ : MetaD) = true) := HMG3.out
            have x0 := HX.out.cell 0 _ rfl
            have x1 := HX.out.cell 1 _ rfl
            have x2 := HX.out.cell 2 _ rfl
            have x3 := HX.out.cell 3 _ rfl
            have x4 := HX.out.cell 4 _ rfl
            have xl := HX.out.lt
            have y0 := HY.out.cell 0 _ rfl
            have y1 := HY.out.cell 1 _ rfl
            have y2 := HY.out.cell 2 _ rfl
            have y3 := HY.out.cell 3 _ rfl
            have y4 := HY.out.cell 4 _ rfl
            have yl := HY.out.lt
            go_wp2_with fail
            refine (HMAB.out w2 HB.out).mono ?_
            rintro e w30 ⟨v1, M1, ho1, hs1, -, hb1, he1⟩
            rw [if_pos HGHP.out] at he1
            have he2 : e = .returned (.tuple #[.agg #[.string ag, .string aa, v1, .string (lastV M1), .string (relV M1)], .bool true]) := he1
            clear he1
            subst he2
            have HSM1 := Lib.hid (hs1 HGHP.out)
            obtain ⟨v1a, v1c, rfl⟩ := ho1.shape
            have HVM1 := Lib.hid (ho1.slice strC_lV)
            clear ho1 hs1
            have HX' := Lib.hid (HX.out.below hb1 HX.out.lt)
            have HY' := Lib.hid (HY.out.below hb1 HY.out.lt)
            have HB' := Lib.hid (HB.out.trans (hb1.mono HB.out.size))
            have HSA' := Lib.hid (HSA.out.below hb1)
            have HSB' := Lib.hid (HSB.out.below hb1)
            clear hb1 HX HY HB HSA HSB x0 x1 x2 x3 x4 xl y0 y1 y2 y3 y4 yl
            have HX := HX'
            have HY := HY'
            have HB := HB'
            have HSA := HSA'
            have HSB := HSB'
            clear HX' HY' HB' HSA' HSB'
            go_upto_region 4 with fail
            refine wp_world ?_
            intro w3 hW
            have hz : Box w3 w30.heap.size [.string ag, .string aa, .slice v1a M1.length v1c, .string (lastV M1), .string (relV M1)] := by rw [hW]; exact Box.new _ [.string ag, .string aa, .slice v1a M1.length v1c, .string (lastV M1), .string (relV M1)] _ _ rfl
            have hb1 : Below w30.heap.size w30 w3 := by rw [hW]; exact (Below.refl _ _).alloc (Nat.le_refl _) _
            clear hW
            have HP := Lib.hid hz
            clear hz
            have HX' := Lib.hid (HX.out.below hb1 HX.out.lt)
            have HY' := Lib.hid (HY.out.below hb1 HY.out.lt)
            have HB' := Lib.hid (HB.out.trans (hb1.mono HB.out.size))
            have HSA' := Lib.hid (HSA.out.below hb1)
            have HSB' := Lib.hid (HSB.out.below hb1)
            have HVM1' := Lib.hid (HVM1.out.below hb1)
            clear hb1 HX HY HB HSA HSB HVM1
            have HX := HX'
            have HY := HY'
            have HB := HB'
            have HSA := HSA'
            have HSB := HSB'
            have HVM1 := HVM1'
            clear HX' HY' HB' HSA' HSB' HVM1'
            have x0 := HX.out.cell 0 _ rfl
            have x1 := HX.out.cell 1 _ rfl
            have x2 := HX.out.cell 2 _ rfl
            have x3 := HX.out.cell 3 _ rfl
            have x4 := HX.out.cell 4 _ rfl
            have xl := HX.out.lt
            go_wp2_with fail
            refine (HRA.out w3 HB.out).mono ?_
            rintro e w4 ⟨rfl, hb1⟩
            have HX' := Lib.hid (HX.out.below hb1 HX.out.lt)
            have HY' := Lib.hid (HY.out.below hb1 HY.out.lt)
            have HP' := Lib.hid (HP.out.below hb1 HP.out.lt)
            have HB' := Lib.hid (HB.out.trans (hb1.mono HB.out.size))
            have HSA' := Lib.hid (HSA.out.below hb1)
            have HSB' := Lib.hid (HSB.out.below hb1)
            have HVM1' := Lib.hid (HVM1.out.below hb1)
            clear hb1 HX HY HP HB HSA HSB HVM1 x0 x1 x2 x3 x4 xl
            have HX := HX'
            have HY := HY'
            have HP := HP'
            have HB := HB'
            have HSA := HSA'
            have HSB := HSB'
            have HVM1 := HVM1'
            clear HX' HY' HP' HB' HSA' HSB' HVM1'
            have y0 := HY.out.cell 0 _ rfl
            have y1 := HY.out.cell 1 _ rfl
            have y2 := HY.out.cell 2 _ rfl
            have y3 := HY.out.cell 3 _ rfl
            have y4 := HY.out.cell 4 _ rfl
            have yl := HY.out.lt
            go_wp2_with fail
            refine (HRB.out w4 HB.out).mono ?_
            rintro e w5 ⟨rfl, hb1⟩
            have HX' := Lib.hid (HX.out.below hb1 HX.out.lt)
            have HY' := Lib.hid (HY.out.below hb1 HY.out.lt)
            have HP' := Lib.hid (HP.out.below hb1 HP.out.lt)
            have HB' := Lib.hid (HB.out.trans (hb1.mono HB.out.size))
            have HSA' := Lib.hid (HSA.out.below hb1)
            have HSB' := Lib.hid (HSB.out.below hb1)
            have HVM1' := Lib.hid (HVM1.out.below hb1)
            clear hb1 HX HY HP HB HSA HSB HVM1 y0 y1 y2 y3 y4 yl
            have HX := HX'
            have HY := HY'
            have HP := HP'
            have HB := HB'
            have HSA := HSA'
            have HSB := HSB'
            have HVM1 := HVM1'
            clear HX' HY' HP' HB' HSA' HSB' HVM1'
            have x0 := HX.out.cell 0 _ rfl
            have x1 := HX.out.cell 1 _ rfl
            have x2 := HX.out.cell 2 _ rfl
            have x3 := HX.out.cell 3 _ rfl
            have x4 := HX.out.cell 4 _ rfl
            have xl := HX.out.lt
            have y0 := HY.out.cell 0 _ rfl
            have y1 := HY.out.cell 1 _ rfl
            have y2 := HY.out.cell 2 _ rfl
            have y3 := HY.out.cell 3 _ rfl
            have y4 := HY.out.cell 4 _ rfl
            have yl := HY.out.lt
            go_wp2_with fail
            refine (HMBA.out w5 HB.out).mono ?_
            rintro e w60 ⟨v2, M2, ho1, hs1, -, hb1, he1⟩
            rw [if_pos HGHQ.out] at he1
            have he2 : e = .returned (.tuple #[.agg #[.string bg, .string ba, v2, .string (lastV M2), .string (relV M2)], .bool true]) := he1
            clear he1
            subst he2
            have HSM2 := Lib.hid (hs1 HGHQ.out)
            obtain ⟨v2a, v2c, rfl⟩ := ho1.shape
            have HVM2 := Lib.hid (ho1.slice strC_lV)
            clear ho1 hs1
            have HX' := Lib.hid (HX.out.below hb1 HX.out.lt)
            have HY' := Lib.hid (HY.out.below hb1 HY.out.lt)
            have HP' := Lib.hid (HP.out.below hb1 HP.out.lt)
            have HB' := Lib.hid (HB.out.trans (hb1.mono HB.out.size))
            have HSA' := Lib.hid (HSA.out.below hb1)
            have HSB' := Lib.hid (HSB.out.below hb1)
            have HVM1' := Lib.hid (HVM1.out.below hb1)
            clear hb1 HX HY HP HB HSA HSB HVM1 x0 x1 x2 x3 x4 xl y0 y1 y2 y3 y4 yl
            have HX := HX'
            have HY := HY'
            have HP := HP'
            have HB := HB'
            have HSA := HSA'
            have HSB := HSB'
            have HVM1 := HVM1'
            clear HX' HY' HP' HB' HSA' HSB' HVM1'
            go_upto_region 7 with fail
            refine wp_world ?_
            intro w6 hW
            have hz : Box w6 w60.heap.size [.string bg, .string ba, .slice v2a M2.length v2c, .string (lastV M2), .string (relV M2)] := by rw [hW]; exact Box.new _ [.string bg, .string ba, .slice v2a M2.length v2c, .string (lastV M2), .string (relV M2)] _ _ rfl
            have hb1 : Below w60.heap.size w60 w6 := by rw [hW]; exact (Below.refl _ _).alloc (Nat.le_refl _) _
            clear hW
            have HQ := Lib.hid hz
            clear hz
            have HX' := Lib.hid (HX.out.below hb1 HX.out.lt)
            have HY' := Lib.hid (HY.out.below hb1 HY.out.lt)
            have HP' := Lib.hid (HP.out.below hb1 HP.out.lt)
            have HB' := Lib.hid (HB.out.trans (hb1.mono HB.out.size))
            have HSA' := Lib.hid (HSA.out.below hb1)
            have HSB' := Lib.hid (HSB.out.below hb1)
            have HVM1' := Lib.hid (HVM1.out.below hb1)
            have HVM2' := Lib.hid (HVM2.out.below hb1)
            clear hb1 HX HY HP HB HSA HSB HVM1 HVM2
            have HX := HX'
            have HY := HY'
            have HP := HP'
            have HB := HB'
            have HSA := HSA'
            have HSB := HSB'
            have HVM1 := HVM1'
            have HVM2 := HVM2'
            clear HX' HY' HP' HB' HSA' HSB' HVM1' HVM2'
            have x0 := HX.out.cell 0 _ rfl
            have x1 := HX.out.cell 1 _ rfl
            have x2 := HX.out.cell 2 _ rfl
            have x3 := HX.out.cell 3 _ rfl
            have x4 := HX.out.cell 4 _ rfl
            have xl := HX.out.lt
            have y0 := HY.out.cell 0 _ rfl
            have y1 := HY.out.cell 1 _ rfl
            have y2 := HY.out.cell 2 _ rfl
            have y3 := HY.out.cell 3 _ rfl
            have y4 := HY.out.cell 4 _ rfl
            have yl := HY.out.lt
            go_wp2_with fail
            refine (HMAA.out w6 HB.out).mono ?_
            rintro e w70 ⟨v3, M3, ho1, hs1, -, hb1, he1⟩
            rw [if_pos HGHR.out] at he1
            have he2 : e = .returned (.tuple #[.agg #[.string ag, .string aa, v3, .string (lastV M3), .string (relV M3)], .bool true]) := he1
            clear he1
            subst he2
            have HSM3 := Lib.hid (hs1 HGHR.out)
            obtain ⟨v3a, v3c, rfl⟩ := ho1.shape
            have HVM3 := Lib.hid (ho1.slice strC_lV)
            clear ho1 hs1
            have HX' := Lib.hid (HX.out.below hb1 HX.out.lt)
            have HY' := Lib.hid (HY.out.below hb1 HY.out.lt)
            have HP' := Lib.hid (HP.out.below hb1 HP.out.lt)
            have HQ' := Lib.hid (HQ.out.below hb1 HQ.out.lt)
            have HB' := Lib.hid (HB.out.trans (hb1.mono HB.out.size))
            have HSA' := Lib.hid (HSA.out.below hb1)
            have HSB' := Lib.hid (HSB.out.below hb1)
            have HVM1' := Lib.hid (HVM1.out.below hb1)
            have HVM2' := Lib.hid (HVM2.out.below hb1)
            clear hb1 HX HY HP HQ HB HSA HSB HVM1 HVM2 x0 x1 x2 x3 x4 xl y0 y1 y2 y3 y4 yl
            have HX := HX'
            have HY := HY'
            have HP := HP'
            have HQ := HQ'
            have HB := HB'
            have HSA := HSA'
            have HSB := HSB'
            have HVM1 := HVM1'
            have HVM2 := HVM2'
            clear HX' HY' HP' HQ' HB' HSA' HSB' HVM1' HVM2'
            go_upto_region 8 with fail
            refine wp_world ?_
            intro w7 hW
            have hz : Box w7 w70.heap.size [.string ag, .string aa, .slice v3a M3.length v3c, .string (lastV M3), .string (relV M3)] := by rw [hW]; exact Box.new _ [.string ag, .string aa, .slice v3a M3.length v3c, .string (lastV M3), .string (relV M3)] _ _ rfl
            have hb1 : Below w70.heap.size w70 w7 := by rw [hW]; exact (Below.refl _ _).alloc (Nat.le_refl _) _
            clear hW
            have HR := Lib.hid hz
            clear hz
            have HX' := Lib.hid (HX.out.below hb1 HX.out.lt)
            have HY' := Lib.hid (HY.out.below hb1 HY.out.lt)
            have HP' := Lib.hid (HP.out.below hb1 HP.out.lt)
            have HQ' := Lib.hid (HQ.out.below hb1 HQ.out.lt)
            have HB' := Lib.hid (HB.out.trans (hb1.mono HB.out.size))
            have HSA' := Lib.hid (HSA.out.below hb1)
            have HSB' := Lib.hid (HSB.out.below hb1)
            have HVM1' := Lib.hid (HVM1.out.below hb1)
            have HVM2' := Lib.hid (HVM2.out.below hb1)
            have HVM3' := Lib.hid (HVM3.out.below hb1)
            clear hb1 HX HY HP HQ HB HSA HSB HVM1 HVM2 HVM3
            have HX := HX'
            have HY := HY'
            have HP := HP'
            have HQ := HQ'
            have HB := HB'
            have HSA := HSA'
            have HSB := HSB'
            have HVM1 := HVM1'
            have HVM2 := HVM2'
            have HVM3 := HVM3'
            clear HX' HY' HP' HQ' HB' HSA' HSB' HVM1' HVM2' HVM3'
            have HK : Hid (MergedOk (⟨⟨ag, aa⟩, al, at', ar⟩ : MetaD) (⟨⟨bg, ba⟩, bl, bt, br⟩ : MetaD) M1 M2 M3) := merged_ok HQA.out HQB.out HLA.out HLB.out HSM1.out HSM2.out HSM3.out
            have HN1 : Hid (M1.length ≤ 80) := by
              have h1 := len_same HSM1.out.2
              have h2 := restM_len al bl
              have h3 := HLA.out
              have h4 := HLB.out
              rw [List.length_append] at h1
              show _ ≤ _
              omega
            have HZ1 : Hid (AllSmall M1) := small_same HSM1.out.2 (fun x hx => by
              rcases joinM_mem.1 hx with h | h
              · exact HZA.out x h
              · exact HZB.out x h)
            have HZ2 : Hid (AllSmall M2) := small_same HSM2.out.2 (fun x hx => by
              rcases joinM_mem.1 hx with h | h
              · exact HZB.out x h
              · exact HZA.out x h)
            have HOWN : Hid ((⟨⟨ag, aa⟩, M3, lastV M3, relV M3⟩ : MetaD) = (⟨⟨ag, aa⟩, al, at', ar⟩ : MetaD)) := by
              obtain ⟨-, -, -, -, -, h1, h2⟩ := mayM_iff.1 HQA.out
              have h3 : M3 = al := HK.out.own
              simp only at h1 h2
              show _ = _
              rw [h3, ← h1, ← h2]
            have HCS : Hid (∀ W, Below w7.heap.size w7 W → Calls Tryd.prog 10 #[.agg #[.string ag, .string aa, .slice v3a M3.length v3c, .string (lastV M3), .string (relV M3)], .agg #[.string ag, .string aa, .slice ao al.length ac, .string at', .string ar]] W fun e w' => e = .returned (.bool true) ∧ Below W.heap.size W w') := fun W h => by
              have h1 := refMetaSame_any ⟨⟨ag, aa⟩, M3, lastV M3, relV M3⟩ (⟨⟨ag, aa⟩, al, at', ar⟩ : MetaD) _ _ W (HVM3.out.below h) (HSA.out.below h) (by show M3.length ≤ _; rw [show M3 = al from HK.out.own]; have := HLA.out; omega)
              rw [decide_eq_true HOWN.out] at h1
              exact h1
            have HCY : Hid (∀ W, Below w7.heap.size w7 W → Calls Tryd.prog 16 #[.agg #[.string ag, .string aa, .slice v1a M1.length v1c, .string (lastV M1), .string (relV M1)]] W fun e w' => e = .returned (.bool true) ∧ Below W.heap.size W w') := fun W h => by
              have h1 := refMetaMay_of HPT'.out ⟨⟨ag, aa⟩, M1, lastV M1, relV M1⟩ _ W (HVM1.out.below h) ⟨HGA.out.1, HGA.out.2, by show M1.length ≤ _; have := HN1.out; omega, HZ1.out⟩
              rw [show mayM ⟨⟨ag, aa⟩, M1, lastV M1, relV M1⟩ = true from HK.out.may] at h1
              exact h1
            have e12 : ((M1.length : Int) == (M2.length : Int)) = true := by rw [beq_iff_eq, HK.out.len]
            have e12b : ((M1.length : Int) != (M2.length : Int)) = false := by rw [HK.out.len]; exact bne_self_eq_false _
            have e12c : (M1.length != M2.length) = false := by rw [HK.out.len]; exact bne_self_eq_false _
            have e12n : (M1.length == M2.length) = true := by rw [beq_iff_eq, HK.out.len]
            have x0 := HX.out.cell 0 _ rfl
            have x1 := HX.out.cell 1 _ rfl
            have x2 := HX.out.cell 2 _ rfl
            have x3 := HX.out.cell 3 _ rfl
            have x4 := HX.out.cell 4 _ rfl
            have xl := HX.out.lt
            have r0 := HR.out.cell 0 _ rfl
            have r1 := HR.out.cell 1 _ rfl
            have r2 := HR.out.cell 2 _ rfl
            have r3 := HR.out.cell 3 _ rfl
            have r4 := HR.out.cell 4 _ rfl
            have rl := HR.out.lt
            go_wp2_with fail
            refine (HCS.out w7 (Below.refl _ _)).mono ?_
            rintro e w8 ⟨rfl, hb1⟩
            have HBW := Lib.hid hb1
            have HX' := Lib.hid (HX.out.below hb1 HX.out.lt)
            have HY' := Lib.hid (HY.out.below hb1 HY.out.lt)
            have HP' := Lib.hid (HP.out.below hb1 HP.out.lt)
            have HQ' := Lib.hid (HQ.out.below hb1 HQ.out.lt)
            have HB' := Lib.hid (HB.out.trans (hb1.mono HB.out.size))
            have HSA' := Lib.hid (HSA.out.below hb1)
            have HSB' := Lib.hid (HSB.out.below hb1)
            have HVM1' := Lib.hid (HVM1.out.below hb1)
            have HVM2' := Lib.hid (HVM2.out.below hb1)
            clear hb1 HX HY HP HQ HB HSA HSB HVM1 HVM2 x0 x1 x2 x3 x4 xl r0 r1 r2 r3 r4 rl HR HCS HVM3
            have HX := HX'
            have HY := HY'
            have HP := HP'
            have HQ := HQ'
            have HB := HB'
            have HSA := HSA'
            have HSB := HSB'
            have HVM1 := HVM1'
            have HVM2 := HVM2'
            clear HX' HY' HP' HQ' HB' HSA' HSB' HVM1' HVM2'
            have p0 := HP.out.cell 0 _ rfl
            have p1 := HP.out.cell 1 _ rfl
            have p2 := HP.out.cell 2 _ rfl
            have p3 := HP.out.cell 3 _ rfl
            have p4 := HP.out.cell 4 _ rfl
            have pl := HP.out.lt
            go_wp2_with fail
            refine (HCY.out w8 HBW.out).mono ?_
            rintro e w9 ⟨rfl, hb1⟩
            have HX' := Lib.hid (HX.out.below hb1 HX.out.lt)
            have HY' := Lib.hid (HY.out.below hb1 HY.out.lt)
            have HP' := Lib.hid (HP.out.below hb1 HP.out.lt)
            have HQ' := Lib.hid (HQ.out.below hb1 HQ.out.lt)
            have HB' := Lib.hid (HB.out.trans (hb1.mono HB.out.size))
            have HSA' := Lib.hid (HSA.out.below hb1)
            have HSB' := Lib.hid (HSB.out.below hb1)
            have HVM1' := Lib.hid (HVM1.out.below hb1)
            have HVM2' := Lib.hid (HVM2.out.below hb1)
            clear hb1 HX HY HP HQ HB HSA HSB HVM1 HVM2 p0 p1 p2 p3 p4 pl HCY HBW
            have HX := HX'
            have HY := HY'
            have HP := HP'
            have HQ := HQ'
            have HB := HB'
            have HSA := HSA'
            have HSB := HSB'
            have HVM1 := HVM1'
            have HVM2 := HVM2'
            clear HX' HY' HP' HQ' HB' HSA' HSB' HVM1' HVM2'
            have p0 := HP.out.cell 0 _ rfl
            have p1 := HP.out.cell 1 _ rfl
            have p2 := HP.out.cell 2 _ rfl
            have p3 := HP.out.cell 3 _ rfl
            have p4 := HP.out.cell 4 _ rfl
            have pl := HP.out.lt
            have q0 := HQ.out.cell 0 _ rfl
            have q1 := HQ.out.cell 1 _ rfl
            have q2 := HQ.out.cell 2 _ rfl
            have q3 := HQ.out.cell 3 _ rfl
            have q4 := HQ.out.cell 4 _ rfl
            have ql := HQ.out.lt
            go_upto_region 11 with fail
            clear p0 p1 p2 p3 p4 pl q0 q1 q2 q3 q4 ql e12 e12n e12b e12c HRA HRB HMAB HMBA HMAA HSZ HOWN
            go_loopw [100] (fun i wr => ∃ k : Nat, i = .int .i64 k ∧ k ≤ M1.length ∧ Hid (Below w9.heap.size w9 wr)) (fun i _ => M1.length - (intOf i).toNat)
            case atStart => exact ⟨0, rfl, Nat.zero_le _, Below.refl _ _⟩
            case round =>
              obtain ⟨k, rfl, hk, HW⟩ := hrel
              by_cases hlt : k < M1.length
              · have HX1 := Lib.hid (HX.out.below HW.out HX.out.lt)
                have HY1 := Lib.hid (HY.out.below HW.out HY.out.lt)
                have HQ1 := Lib.hid (HQ.out.below HW.out HQ.out.lt)
                have HA1 := Lib.hid (HSA.out.below HW.out)
                have HB1 := Lib.hid (HSB.out.below HW.out)
                have hlt2 : k < M2.length := by have := HK.out.len; omega
                obtain ⟨c1, o1, hao, hbl, hc⟩ := (HVM1.out.below HW.out).at1 hlt
                cases hao
                obtain ⟨c2, o2, hao, hbl2, hc2⟩ := (HVM2.out.below HW.out).at1 hlt2
                cases hao
                have d1 : (k : Int) < (M1.length : Int) := by omega
                have d2 : (k : Int) < (M2.length : Int) := by omega
                have wk : IntKind.i64.wrap ((k : Int) + 1) = (k : Int) + 1 := IntWalk.i64_in _ (by have := HN1.out; omega)
                have HCM : Hid (cmpSV M1[k] M2[k] = 0) := HK.out.cmp k hlt hlt2
                have hz1 : M1[k].size ≤ 900000 := HZ1.out _ (List.getElem_mem hlt)
                have hz2 : M2[k].size ≤ 900000 := HZ2.out _ (List.getElem_mem hlt2)
                have HCC : Hid (∀ W, Calls Tryd.prog 18 #[.string M1[k], .string M2[k]] W fun e w' => e = .returned (.int .i64 0) ∧ Below W.heap.size W w') := fun W => by
                  have h := refCmpOk_of HPT'.out M1[k] M2[k] W hz1 hz2
                  rwa [HCM.out] at h
                have HIN := Lib.hid (HK.out.mem _ (List.getElem_mem hlt))
                have HKL : Hid (k + 1 ≤ M1.length) := hlt
                have HHA := Lib.hid (hasM_any M1[k] HA1.out (by have := HLA.out; omega))
                have HHB := Lib.hid (hasM_any M1[k] HB1.out (by have := HLB.out; omega))
                generalize M1[k] = xk at *
                generalize M2[k] = yk at *
                have x2 := HX1.out.cell 2 _ rfl
                have xl := HX1.out.lt
                have y2 := HY1.out.cell 2 _ rfl
                have yl := HY1.out.lt
                have q2 := HQ1.out.cell 2 _ rfl
                have ql := HQ1.out.lt
                obtain ⟨q, hq⟩ : ∃ q, memB al xk = q := ⟨_, rfl⟩
                rw [hq] at HHA
                clear HCM hz1 hz2 hlt hlt2 HX1 HY1 HQ1 HA1 HB1
                go_wp2_with fail
                refine HHA.out.mono ?_
                rintro e w2 ⟨rfl, rfl⟩
                cases q with
                | true =>
                  go_wp2_with fail
                  refine (HCC.out _).mono ?_
                  rintro e w3 ⟨rfl, hb3⟩
                  have HW3 := Lib.hid (HW.out.trans (hb3.mono HW.out.size))
                  clear hb3
                  go_wp2
                  go_roundw
                  case rel => exact ⟨k + 1, by first | rfl | go_num, HKL.out, HW3⟩
                  case measure => simp [intOf]; have := HKL.out; omega
                | false =>
                  have HMB2 : Hid (memB bl xk = true) := by
                    rcases HIN.out with h | h
                    · have h9 := memB_iff.2 h
                      rw [hq] at h9
                      cases h9
                    · exact memB_iff.2 h
                  rw [HMB2.out] at HHB
                  go_wp2_with fail
                  refine HHB.out.mono ?_
                  rintro e w2 ⟨rfl, rfl⟩
                  go_wp2_with fail
                  refine (HCC.out _).mono ?_
                  rintro e w3 ⟨rfl, hb3⟩
                  have HW3 := Lib.hid (HW.out.trans (hb3.mono HW.out.size))
                  clear hb3
                  go_wp2
                  go_roundw
                  case rel => exact ⟨k + 1, by first | rfl | go_num, HKL.out, HW3⟩
                  case measure => simp [intOf]; have := HKL.out; omega
              · obtain rfl : k = M1.length := by omega
                have d1 : ¬ (M1.length : Int) < (M1.length : Int) := by omega
                have hb1 := HW.out
                clear HQ HVM2 HZ2 hk hlt
                have HX' := Lib.hid (HX.out.below hb1 HX.out.lt)
                have HY' := Lib.hid (HY.out.below hb1 HY.out.lt)
                have HP' := Lib.hid (HP.out.below hb1 HP.out.lt)
                have HB' := Lib.hid (HB.out.trans (hb1.mono HB.out.size))
                have HSA' := Lib.hid (HSA.out.below hb1)
                have HSB' := Lib.hid (HSB.out.below hb1)
                have HVM1' := Lib.hid (HVM1.out.below hb1)
                clear hb1 HX HY HP HB HSA HSB HVM1 HW
                have HX := HX'
                have HY := HY'
                have HP := HP'
                have HB := HB'
                have HSA := HSA'
                have HSB := HSB'
                have HVM1 := HVM1'
                clear HX' HY' HP' HB' HSA' HSB' HVM1'
                go_upto_region 16 with fail
                clear d1
                have HAL : Hid (Below wr.heap.size wr (wr.drew.alloc (.cells #[] 9))) := (belowDrew1 wr).trans ((Below.refl _ wr.drew).alloc (Nat.le_refl _) _)
                have HOE : Hid (Owns wr.heap.size 9 1 strC (wr.drew.alloc (.cells #[] 9)) (.slice (some ⟨wr.heap.size, 0, none⟩) 0 0) ([] : List S)) := Owns.empty (w := wr.drew) rfl (Nat.le_refl _)
                have x2 := HX.out.cell 2 _ rfl
                have xl := HX.out.lt
                have y2 := HY.out.cell 2 _ rfl
                have yl := HY.out.lt
                go_region_law (first
                  | (refine step_append_slice _ rfl (.tmp 128) (.tmp 130) 29 rfl wr.heap.size 9 Tryd.underlying29 info_str rfl (by decide) strC_lV (.slice (some ⟨wr.heap.size, 0, none⟩) 0 0) [] (by simp [Act.eval]) HOE.out (.slice ao al.length ac) al (by simp [Act.eval]) (HSA.out.below HAL.out) (strC_onesV _) (by have h1 := HLA.out; simp only [List.length_nil]; omega) (by decide) (by simp) ?_; intro a8 n8 c8 w8 ho8 hg8; have HO8 := Lib.hid ho8; have HG8 : Hid (Below wr.heap.size wr w8) := HAL.out.trans (below_grown hg8 (by simp) |>.mono (Nat.le_refl _)); have hx8 := (HX.out.below HG8.out HX.out.lt).cell 2 _ rfl; have hx8l := (HX.out.below HG8.out HX.out.lt).lt; have hy8 := (HY.out.below HG8.out HY.out.lt).cell 2 _ rfl; have hy8l := (HY.out.below HG8.out HY.out.lt).lt; clear ho8 hg8)
                  | (refine step_append_slice _ rfl (.tmp 131) (.tmp 133) 29 rfl wr.heap.size 9 Tryd.underlying29 info_str rfl (by decide) strC_lV (.slice a8 n8 c8) ([] ++ al) (by simp [Act.eval]) HO8.out (.slice bo bl.length bc) bl (by simp [Act.eval]) (HSB.out.below HG8.out) (strC_onesV _) (by have h1 := HLA.out; have h2 := HLB.out; simp only [List.nil_append]; omega) (by decide) HG8.out.size ?_; intro a9 n9 c9 w9 ho9 hg9; have HO9 := Lib.hid ho9; have HG9 := Lib.hid (own_belowM HG8.out HO8.out hg9 HG8.out.size); clear ho9 hg9))
                all_goals
                  have hn9 : n9 = (al ++ bl).length := by
                    obtain ⟨_, _, e⟩ := HO9.out.shape
                    rw [List.nil_append] at e
                    injection e
                  subst hn9
                  have HJ9 : Hid (SliceOf 1 strC w9 (.slice a9 (al ++ bl).length c9) (al ++ bl)) := by
                    have h9 := HO9.out.slice strC_lV
                    rw [List.nil_append] at h9
                    exact h9
                  have HV9 := Lib.hid (HVM1.out.below HG9.out)
                  have HP9 := Lib.hid (HP.out.below HG9.out HP.out.lt)
                  have HB9 := Lib.hid (HB.out.trans (HG9.out.mono HB.out.size))
                  have HBK := Lib.hid HK.out.back
                  have HJL : Hid ((al ++ bl).length ≤ 80) := by have h1 := HLA.out; have h2 := HLB.out; show _ ≤ _; rw [List.length_append]; omega
                  clear HX HY HP HB HSA HSB HVM1 HO9 HG9 HO8 HG8 HAL HOE x2 xl y2 yl hx8 hx8l hy8 hy8l HK HSM1 HSM2 HSM3 HZA HZB HLA HLB
                  simp only at HBK
                  generalize al ++ bl = jl at *
                  simp only [Act.put, List.getElem_toArray, List.getElem_cons_succ, List.getElem_cons_zero, List.setIfInBounds_toArray, List.set_cons_succ, List.set_cons_zero]
                  go_wp2
                  go_loopw [136] (fun i wx => ∃ k : Nat, i = .int .i64 k ∧ k ≤ jl.length ∧ w9 = wx) (fun i _ => jl.length - (intOf i).toNat)
                  case atStart => exact ⟨0, rfl, Nat.zero_le _, rfl⟩
                  case round =>
                    obtain ⟨k, rfl, hk, rfl⟩ := hrel
                    by_cases hlt : k < jl.length
                    · obtain ⟨c1, o1, hao, hbl, hc⟩ := HJ9.out.at1 hlt
                      cases hao
                      have d1 : (k : Int) < (jl.length : Int) := by omega
                      have wk : IntKind.i64.wrap ((k : Int) + 1) = (k : Int) + 1 := IntWalk.i64_in _ (by have := HJL.out; omega)
                      have HHM := hasM_any jl[k] HV9.out (by have := HN1.out; omega)
                      rw [memB_iff.2 (HBK.out _ (List.getElem_mem hlt))] at HHM
                      have HHM' := Lib.hid HHM
                      have HKL : Hid (k + 1 ≤ jl.length) := hlt
                      clear HHM
                      generalize jl[k] = xk at *
                      clear hlt
                      have p2 := HP9.out.cell 2 _ rfl
                      have pl := HP9.out.lt
                      go_wp2_with fail
                      refine HHM'.out.mono ?_
                      rintro e w2 ⟨rfl, rfl⟩
                      go_wp2
                      go_roundw
                      case rel => exact ⟨k + 1, by first | rfl | go_num, HKL.out, (by trivial)⟩
                      case measure => simp [intOf]; have := HKL.out; omega
                    · obtain rfl : k = jl.length := by omega
                      have d1 : ¬ (jl.length : Int) < (jl.length : Int) := by omega
                      go_wp2_with fail
                      refine (metaLives_any _).mono ?_
                      rintro e wl ⟨rfl, hb1⟩
                      have HBL := Lib.hid (HB9.out.trans (hb1.mono HB9.out.size))
                      clear hb1
                      go_wp2
                      go_ret
                      exact ⟨rfl, HBL.out⟩

end Go.Proofs.YtecffghcpknmjaaDoor
