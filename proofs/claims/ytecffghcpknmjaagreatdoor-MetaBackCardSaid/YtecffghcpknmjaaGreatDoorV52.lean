/- The law MetaBack returns true; the conditions stand in the theorem. -/
import Derived.Test.YtecffghcpknmjaaGreatDoorV51
import Derived.Test.YtecffghcpknmjaaGreatDoorV47
import Derived.Test.YtecffghcpknmjaaGreatDoorJK12
import Derived.Test.YtecffghcpknmjaaGreatDoorJK04
import Derived.Test.YtecffghcpknmjaaGreatDoorJK03
import Derived.Test.YtecffghcpknmjaaGreatDoorJK13
namespace Go.Proofs.YtecffghcpknmjaaGreatDoor
open Go Go.RowKit

/-- What is asked of a Meta in the walk: its tree's printing and so on. -/
theorem metaRead_back (m : MetaD) (hM : mayM m = true) (hl : m.vers.length ≤ 40) (W : World) (av kv : Value) (h : NodeOf W (writeM m) av kv) :
    Calls Tryz.prog 8 #[nodeV (writeM m) av kv] W fun e w' => ∃ (vo : Option Addr) (vc : Nat), SliceOf 1 strC w' (.slice vo m.vers.length vc) m.vers ∧ e = .returned (.tuple #[metaAg m (.slice vo m.vers.length vc), .int .i64 0, .string ⟨#[]⟩]) ∧ Below W.heap.size W w' := by
  have h1 := metaRead_any (writeM m) W av kv h (light_write (good_may hM) hl)
  rw [read_writeM hM] at h1
  refine h1.mono fun e w' hp => ?_
  obtain ⟨hb, v, hv, he⟩ := hp
  obtain ⟨vo, vc, rfl⟩ := hv.shape
  exact ⟨vo, vc, hv, he, hb⟩
theorem node_shape {t : Tr} {w : World} {av kv : Value} (h : NodeOf w t av kv) : ∃ ao ac ko kc, av = .slice ao t.attrs.length ac ∧ kv = .slice ko t.kids.length kc := by
  obtain ⟨ao, ac, ko, kc, h1, h2, -, -⟩ := h.shape
  exact ⟨ao, ac, ko, kc, h1, h2⟩
set_option maxRecDepth 100000 in
set_option maxHeartbeats 16000000 in
theorem metaBack_of (HPT : RefPartsOk) (m : MetaD) (v : Value) (mx : Int) (w : World) (h : SliceOf 1 strC w v m.vers) (hm : w.cell? ⟨0, 0, none⟩ = some (.int .i64 mx)) :
    Calls Tryz.prog 3 #[metaAg m v] w fun e w' => e = .returned (.bool true) ∧ Below w.heap.size w w' := by
  have hw0 : 0 < w.heap.size := World.block_lt_of_cell? w _ hm
  have HS := Lib.hid h
  obtain ⟨xo, xc, rfl⟩ := h.shape
  have HLI : Hid (∀ W, Below w.heap.size w W → Calls Tryz.prog 4 #[metaAg m (.slice xo m.vers.length xc)] W fun e w' => e = .returned (.bool (lightM m)) ∧ Below W.heap.size W w') := fun W hb => lightM_any m _ W (HS.out.below hb)
  have HSM : Hid (lightM m = true → MetaSm m ∧ m.vers.length ≤ 40) := fun h => ⟨(lightM_sm h).1, (lightM_sm h).2.2.1⟩
  have HMY : Hid (lightM m = true → ∀ W, Below w.heap.size w W → Calls Tryz.prog 5 #[metaAg m (.slice xo m.vers.length xc)] W fun e w' => e = .returned (.bool (mayM m)) ∧ Below W.heap.size W w') := fun hl W hb => refMetaMay_of HPT m _ W (HS.out.below hb) (lightM_sm hl).1
  have HWR : Hid (lightM m = true → ∀ W, Below w.heap.size w W → Calls Tryz.prog 7 #[metaAg m (.slice xo m.vers.length xc)] W (WriteMP (writeM m) W)) := fun hl W hb => writeM_any m _ W (HS.out.below hb) (by have := (lightM_sm hl).2.2.1; omega)
  have HRD : Hid (lightM m = true → mayM m = true → ∀ W av kv, NodeOf W (writeM m) av kv → Calls Tryz.prog 8 #[nodeV (writeM m) av kv] W fun e w' => ∃ (vo : Option Addr) (vc : Nat), SliceOf 1 strC w' (.slice vo m.vers.length vc) m.vers ∧ e = .returned (.tuple #[metaAg m (.slice vo m.vers.length vc), .int .i64 0, .string ⟨#[]⟩]) ∧ Below W.heap.size W w') := fun hl hM W av kv hn => metaRead_back m hM (lightM_sm hl).2.2.1 W av kv hn
  have HPR : Hid (lightM m = true → mayM m = true → ∀ W av kv, NodeOf W (writeM m) av kv → Calls Tryz.prog 10 #[nodeV (writeM m) av kv] W fun e w' => e = .returned (.string (bs (writeM m).pr)) ∧ Below W.heap.size W w') := fun hl hM W av kv hn => treePrint_any _ W av kv hn (by have := wt_write (good_may hM) (lightM_sm hl).2.2.1; omega)
  have HBD : Hid (lightM m = true → mayM m = true → ∀ W, Below w.heap.size w W → Calls Tryz.prog 9 #[.string (bs (writeM m).pr)] W fun e w' => ∃ av kv, e = .returned (.tuple #[nodeV (writeM m) av kv, .int .i64 0, .agg #[.int .i64 0, .int .i64 0, .int .i64 0]]) ∧ NodeOf w' (writeM m) av kv ∧ Below W.heap.size W w') := fun hl hM W hb => by
    have h1 := build_any (bs (writeM m).pr) mx W (by rw [bs_size]; have h2 := pr_len (writeM m); have h3 := wt_write (good_may hM) (lightM_sm hl).2.2.1; omega) ((hb.cell (by exact hw0)).trans hm)
    rw [bs_data, tree_back (may_write (good_may hM) (lightM_sm hl).2.2.1)] at h1
    exact h1
  have HTM : Hid (lightM m = true → mayM m = true → ∀ W av kv, NodeOf W (writeM m) av kv → Calls Tryz.prog 11 #[nodeV (writeM m) av kv] W fun e w' => e = .returned (.bool true) ∧ Below W.heap.size W w') := fun hl hM W av kv hn => by
    have h3 := wt_write (good_may hM) (lightM_sm hl).2.2.1
    have h4 := cnt_wt (writeM m)
    refine (refMay_any _ W av kv hn (fine_wt _ _ (Nat.le_refl _) (by omega)) (by omega)).mono fun e w' hp => ?_
    obtain ⟨z, rfl, hz, hb⟩ := hp
    rw [hz.2 (may_write (good_may hM) (lightM_sm hl).2.2.1)]
    exact ⟨rfl, hb⟩
  have HSA : Hid (lightM m = true → ∀ W vo vc, Below w.heap.size w W → SliceOf 1 strC W (.slice vo m.vers.length vc) m.vers → Calls Tryz.prog 12 #[metaAg m (.slice xo m.vers.length xc), metaAg m (.slice vo m.vers.length vc)] W fun e w' => e = .returned (.bool true) ∧ Below W.heap.size W w') := fun hl W vo vc hb hv => by
    have h1 := refMetaSame_any m m (.slice xo m.vers.length xc) (.slice vo m.vers.length vc) W (HS.out.below hb) hv (by have := (lightM_sm hl).2.2.1; omega)
    rw [decide_eq_true rfl] at h1
    exact h1
  clear h HPT hm hw0 HS HSM
  obtain ⟨⟨mg, ma⟩, l, la, re⟩ := m
  unfold metaAg metaC nodeV at *
  simp only at HLI HMY HWR HRD HPR HBD HTM HSA ⊢
  obtain ⟨T, hT⟩ : ∃ T, T = writeM ⟨⟨mg, ma⟩, l, la, re⟩ := ⟨_, rfl⟩
  rw [← hT] at HWR HRD HPR HBD HTM
  generalize lightM ⟨⟨mg, ma⟩, l, la, re⟩ = ql at *
  generalize mayM ⟨⟨mg, ma⟩, l, la, re⟩ = qm at *
  clear hT
  go_enter Tryz.func3, Tryz.ntmps3
  go_upto_region 1 with fail
  refine wp_world ?_
  intro W hW
  have x1 : Box W w.heap.size [.string mg, .string ma, .slice xo l.length xc, .string la, .string re] := by rw [hW]; exact Box.new w [.string mg, .string ma, .slice xo l.length xc, .string la, .string re] _ _ rfl
  have hb : Below w.heap.size w W := by rw [hW]; exact (Below.refl _ w).alloc (Nat.le_refl _) _
  clear hW
  have HX := Lib.hid x1
  have HB := Lib.hid hb
  clear x1 hb
  have x0 := HX.out.cell 0 _ rfl
  have x1 := HX.out.cell 1 _ rfl
  have x2 := HX.out.cell 2 _ rfl
  have x3 := HX.out.cell 3 _ rfl
  have x4 := HX.out.cell 4 _ rfl
  have xl := HX.out.lt
  go_wp2_with fail
  refine (HLI.out W HB.out).mono ?_
  rintro e w1 ⟨rfl, hb⟩
  replace HX := Lib.hid (HX.out.below hb HX.out.lt)
  replace HB := Lib.hid (HB.out.trans (hb.mono HB.out.size))
  clear hb x0 x1 x2 x3 x4 xl HLI
  cases ql with
  | false =>
    go_wp2_with fail
    refine (metaLives_any w1).mono ?_
    rintro e w2 ⟨rfl, hb⟩
    replace HB := Lib.hid (HB.out.trans (hb.mono HB.out.size))
    clear hb
    go_wp2
    go_ret
    exact ⟨rfl, HB.out⟩
  | true =>
    have x0 := HX.out.cell 0 _ rfl
    have x1 := HX.out.cell 1 _ rfl
    have x2 := HX.out.cell 2 _ rfl
    have x3 := HX.out.cell 3 _ rfl
    have x4 := HX.out.cell 4 _ rfl
    have xl := HX.out.lt
    go_wp2_with fail
    refine (HMY.out (by trivial) w1 HB.out).mono ?_
    rintro e w2 ⟨rfl, hb⟩
    replace HX := Lib.hid (HX.out.below hb HX.out.lt)
    replace HB := Lib.hid (HB.out.trans (hb.mono HB.out.size))
    clear hb x0 x1 x2 x3 x4 xl HMY
    cases qm with
    | false =>
      go_wp2_with fail
      refine (metaLives_any w2).mono ?_
      rintro e w3 ⟨rfl, hb⟩
      replace HB := Lib.hid (HB.out.trans (hb.mono HB.out.size))
      clear hb
      go_wp2
      go_ret
      exact ⟨rfl, HB.out⟩
    | true =>
      have x0 := HX.out.cell 0 _ rfl
      have x1 := HX.out.cell 1 _ rfl
      have x2 := HX.out.cell 2 _ rfl
      have x3 := HX.out.cell 3 _ rfl
      have x4 := HX.out.cell 4 _ rfl
      have xl := HX.out.lt
      have HWR2 := Lib.hid (HWR.out (by trivial) w2 HB.out)
      clear HWR
      go_wp2_with fail
      refine HWR2.out.mono ?_
      intro e w3 hp
      obtain ⟨kv, he, hn, hb⟩ := hp
      obtain ⟨a0, c0, ko, kc, ha, rfl⟩ := node_shape hn
      clear ha
      unfold nodeV at he
      subst he
      replace HX := Lib.hid (HX.out.below hb HX.out.lt)
      replace HB := Lib.hid (HB.out.trans (hb.mono HB.out.size))
      have HN := Lib.hid hn
      clear hb hn x0 x1 x2 x3 x4 xl HWR2
      go_upto_region 4 with fail
      refine wp_world ?_
      intro W4 hW
      have y1 : Box W4 w3.heap.size [.string (bs T.name), .slice none 0 0, .slice ko T.kids.length kc, .string (bs T.text)] := by rw [hW]; exact Box.new w3 [.string (bs T.name), .slice none 0 0, .slice ko T.kids.length kc, .string (bs T.text)] _ _ rfl
      have hb : Below w3.heap.size w3 W4 := by rw [hW]; exact (Below.refl _ _).alloc (Nat.le_refl _) _
      clear hW
      have HY := Lib.hid y1
      replace HX := Lib.hid (HX.out.below hb HX.out.lt)
      replace HB := Lib.hid (HB.out.trans (hb.mono HB.out.size))
      replace HN := Lib.hid (HN.out.later hb)
      clear y1 hb
      have HR1 := Lib.hid (HRD.out (by trivial) (by trivial) W4 _ _ HN.out)
      have y0 := HY.out.cell 0 _ rfl
      have y1 := HY.out.cell 1 _ rfl
      have y2 := HY.out.cell 2 _ rfl
      have y3 := HY.out.cell 3 _ rfl
      have yl := HY.out.lt
      go_wp2_with fail
      refine HR1.out.mono ?_
      rintro e w5 ⟨uo, uc, hu, rfl, hb⟩
      have HU := Lib.hid hu
      replace HX := Lib.hid (HX.out.below hb HX.out.lt)
      replace HY := Lib.hid (HY.out.below hb HY.out.lt)
      replace HB := Lib.hid (HB.out.trans (hb.mono HB.out.size))
      replace HN := Lib.hid (HN.out.later hb)
      clear hb hu HR1 y0 y1 y2 y3 yl
      go_upto_region 5 with fail
      refine wp_world ?_
      intro W5 hW
      have z1 : Box W5 w5.heap.size [.string mg, .string ma, .slice uo l.length uc, .string la, .string re] := by rw [hW]; exact Box.new w5 [.string mg, .string ma, .slice uo l.length uc, .string la, .string re] _ _ rfl
      have hb : Below w5.heap.size w5 W5 := by rw [hW]; exact (Below.refl _ _).alloc (Nat.le_refl _) _
      clear hW
      have HZ := Lib.hid z1
      replace HU := Lib.hid (HU.out.below hb)
      replace HX := Lib.hid (HX.out.below hb HX.out.lt)
      replace HY := Lib.hid (HY.out.below hb HY.out.lt)
      replace HB := Lib.hid (HB.out.trans (hb.mono HB.out.size))
      replace HN := Lib.hid (HN.out.later hb)
      clear z1 hb
      have HP1 := Lib.hid (HPR.out (by trivial) (by trivial) W5 _ _ HN.out)
      have y0 := HY.out.cell 0 _ rfl
      have y1 := HY.out.cell 1 _ rfl
      have y2 := HY.out.cell 2 _ rfl
      have y3 := HY.out.cell 3 _ rfl
      have yl := HY.out.lt
      go_wp2_with fail
      refine HP1.out.mono ?_
      rintro e w6 ⟨rfl, hb⟩
      replace HU := Lib.hid (HU.out.below hb)
      replace HX := Lib.hid (HX.out.below hb HX.out.lt)
      replace HY := Lib.hid (HY.out.below hb HY.out.lt)
      replace HZ := Lib.hid (HZ.out.below hb HZ.out.lt)
      replace HB := Lib.hid (HB.out.trans (hb.mono HB.out.size))
      replace HN := Lib.hid (HN.out.later hb)
      clear hb HP1 HPR y0 y1 y2 y3 yl
      have HB1 := Lib.hid (HBD.out (by trivial) (by trivial) w6 HB.out)
      clear HBD
      generalize (bs T.pr : S) = TP at *
      go_wp2_with fail
      refine HB1.out.mono ?_
      rintro e w7 ⟨av, kv, rfl, hn, hb⟩
      obtain ⟨b0, b1, b2, b3, rfl, rfl⟩ := node_shape hn
      have HK := Lib.hid hn
      replace HU := Lib.hid (HU.out.below hb)
      replace HX := Lib.hid (HX.out.below hb HX.out.lt)
      replace HY := Lib.hid (HY.out.below hb HY.out.lt)
      replace HZ := Lib.hid (HZ.out.below hb HZ.out.lt)
      replace HB := Lib.hid (HB.out.trans (hb.mono HB.out.size))
      replace HN := Lib.hid (HN.out.later hb)
      clear hb hn HB1
      go_upto_region 6 with fail
      refine wp_world ?_
      intro W7 hW
      have t1 : Box W7 w7.heap.size [.string (bs T.name), .slice b0 T.attrs.length b1, .slice b2 T.kids.length b3, .string (bs T.text)] := by rw [hW]; exact (Box.new w7 [.string (bs T.name), .slice b0 T.attrs.length b1, .slice b2 T.kids.length b3, .string (bs T.text)] _ _ rfl).alloc _
      have hb : Below w7.heap.size w7 W7 := by rw [hW]; exact ((Below.refl _ _).alloc (Nat.le_refl _) _).alloc (by simp) _
      clear hW
      have HT := Lib.hid t1
      replace HU := Lib.hid (HU.out.below hb)
      replace HX := Lib.hid (HX.out.below hb HX.out.lt)
      replace HY := Lib.hid (HY.out.below hb HY.out.lt)
      replace HZ := Lib.hid (HZ.out.below hb HZ.out.lt)
      replace HB := Lib.hid (HB.out.trans (hb.mono HB.out.size))
      replace HN := Lib.hid (HN.out.later hb)
      replace HK := Lib.hid (HK.out.later hb)
      clear t1 hb
      have HR2 := Lib.hid (HRD.out (by trivial) (by trivial) W7 _ _ HK.out)
      have y0 := HT.out.cell 0 _ rfl
      have y1 := HT.out.cell 1 _ rfl
      have y2 := HT.out.cell 2 _ rfl
      have y3 := HT.out.cell 3 _ rfl
      have yl := HT.out.lt
      go_wp2_with fail
      refine HR2.out.mono ?_
      rintro e w8 ⟨so, sc, hs, rfl, hb⟩
      have HV := Lib.hid hs
      replace HU := Lib.hid (HU.out.below hb)
      replace HX := Lib.hid (HX.out.below hb HX.out.lt)
      replace HY := Lib.hid (HY.out.below hb HY.out.lt)
      replace HZ := Lib.hid (HZ.out.below hb HZ.out.lt)
      replace HB := Lib.hid (HB.out.trans (hb.mono HB.out.size))
      replace HN := Lib.hid (HN.out.later hb)
      clear hb hs HR2 HRD HK HT y0 y1 y2 y3 yl
      go_upto_region 7 with fail
      refine wp_world ?_
      intro W8 hW
      have s1 : Box W8 w8.heap.size [.string mg, .string ma, .slice so l.length sc, .string la, .string re] := by rw [hW]; exact Box.new w8 [.string mg, .string ma, .slice so l.length sc, .string la, .string re] _ _ rfl
      have hb : Below w8.heap.size w8 W8 := by rw [hW]; exact (Below.refl _ _).alloc (Nat.le_refl _) _
      clear hW
      have HQ := Lib.hid s1
      replace HU := Lib.hid (HU.out.below hb)
      replace HV := Lib.hid (HV.out.below hb)
      replace HX := Lib.hid (HX.out.below hb HX.out.lt)
      replace HY := Lib.hid (HY.out.below hb HY.out.lt)
      replace HZ := Lib.hid (HZ.out.below hb HZ.out.lt)
      replace HB := Lib.hid (HB.out.trans (hb.mono HB.out.size))
      replace HN := Lib.hid (HN.out.later hb)
      clear s1 hb
      have HT1 := Lib.hid (HTM.out (by trivial) (by trivial) W8 _ _ HN.out)
      have y0 := HY.out.cell 0 _ rfl
      have y1 := HY.out.cell 1 _ rfl
      have y2 := HY.out.cell 2 _ rfl
      have y3 := HY.out.cell 3 _ rfl
      have yl := HY.out.lt
      go_wp2_with fail
      refine HT1.out.mono ?_
      rintro e w9 ⟨rfl, hb⟩
      replace HU := Lib.hid (HU.out.below hb)
      replace HV := Lib.hid (HV.out.below hb)
      replace HX := Lib.hid (HX.out.below hb HX.out.lt)
      replace HZ := Lib.hid (HZ.out.below hb HZ.out.lt)
      replace HQ := Lib.hid (HQ.out.below hb HQ.out.lt)
      replace HB := Lib.hid (HB.out.trans (hb.mono HB.out.size))
      clear hb HT1 HTM HN HY y0 y1 y2 y3 yl
      have HS1 := Lib.hid (HSA.out (by trivial) w9 uo uc HB.out HU.out)
      have x0 := HX.out.cell 0 _ rfl
      have x1 := HX.out.cell 1 _ rfl
      have x2 := HX.out.cell 2 _ rfl
      have x3 := HX.out.cell 3 _ rfl
      have x4 := HX.out.cell 4 _ rfl
      have xl := HX.out.lt
      have z0 := HZ.out.cell 0 _ rfl
      have z1 := HZ.out.cell 1 _ rfl
      have z2 := HZ.out.cell 2 _ rfl
      have z3 := HZ.out.cell 3 _ rfl
      have z4 := HZ.out.cell 4 _ rfl
      have zl := HZ.out.lt
      go_wp2_with fail
      refine HS1.out.mono ?_
      rintro e w10 ⟨rfl, hb⟩
      replace HV := Lib.hid (HV.out.below hb)
      replace HX := Lib.hid (HX.out.below hb HX.out.lt)
      replace HQ := Lib.hid (HQ.out.below hb HQ.out.lt)
      replace HB := Lib.hid (HB.out.trans (hb.mono HB.out.size))
      clear hb HS1 HZ HU z0 z1 z2 z3 z4 zl x0 x1 x2 x3 x4 xl
      have HS2 := Lib.hid (HSA.out (by trivial) w10 so sc HB.out HV.out)
      have x0 := HX.out.cell 0 _ rfl
      have x1 := HX.out.cell 1 _ rfl
      have x2 := HX.out.cell 2 _ rfl
      have x3 := HX.out.cell 3 _ rfl
      have x4 := HX.out.cell 4 _ rfl
      have xl := HX.out.lt
      have z0 := HQ.out.cell 0 _ rfl
      have z1 := HQ.out.cell 1 _ rfl
      have z2 := HQ.out.cell 2 _ rfl
      have z3 := HQ.out.cell 3 _ rfl
      have z4 := HQ.out.cell 4 _ rfl
      have zl := HQ.out.lt
      go_wp2_with fail
      refine HS2.out.mono ?_
      rintro e w11 ⟨rfl, hb⟩
      replace HB := Lib.hid (HB.out.trans (hb.mono HB.out.size))
      clear hb HS2 HSA HQ HX HV z0 z1 z2 z3 z4 zl x0 x1 x2 x3 x4 xl
      go_wp2_with fail
      refine (metaLives_any w11).mono ?_
      rintro e w12 ⟨rfl, hb⟩
      replace HB := Lib.hid (HB.out.trans (hb.mono HB.out.size))
      clear hb
      go_wp2
      go_ret
      exact ⟨rfl, HB.out⟩

end Go.Proofs.YtecffghcpknmjaaGreatDoor
