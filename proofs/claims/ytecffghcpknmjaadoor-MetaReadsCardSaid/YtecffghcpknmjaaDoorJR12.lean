/- The walk of the document's Read of a Meta; the conditions stand in the theorem. -/
import Derived.Test.YtecffghcpknmjaaDoorJR10
import Derived.Test.YtecffghcpknmjaaDoorJR11
import Derived.Test.YtecffghcpknmjaaDoorJR05
namespace Go.Proofs.YtecffghcpknmjaaDoor
open Go Go.RowKit

/-- What the document's Read answers. -/
def ReadD (r : Except Bs MetaD) (w : World) (e : Ending) (w' : World) : Prop := Below w.heap.size w w' ∧ match r with
  | .error x => e = .returned (.tuple #[.agg metaZ.toArray, .string (bs (x ++ [33]))])
  | .ok m => ∃ v, SliceOf 1 strC w' v m.vers ∧ e = .returned (.tuple #[metaAg m v, .string ⟨#[]⟩])
theorem oneK_no {L : List TrV} {m : Bs} {t : Tr} (h : L.map (·.1) = kidsF m t.kids) (hn : L.length ≠ 1) : oneK m t = none := by
  unfold oneK
  rw [← h]
  match L, hn with
  | [], _ => rfl
  | [y], h => exact absurd rfl h
  | _ :: _ :: _, _ => rfl
theorem oneK_yes {y : TrV} {m : Bs} {t : Tr} (h : [y].map (·.1) = kidsF m t.kids) : oneK m t = some y.1 := by
  unfold oneK
  rw [← h]
  rfl
theorem idK_no {m : Bs} {t : Tr} (h : oneK m t = none) : idK m t = none := by unfold idK; rw [h]
theorem idK_bad {m : Bs} {t k : Tr} (h : oneK m t = some k) (hn : ¬ (isIdB (bs (tx k)) = true ∧ kidsF [] k.kids = [])) : idK m t = none := by
  unfold idK
  rw [h]
  exact if_neg hn
theorem idK_yes {m : Bs} {t k : Tr} (h : oneK m t = some k) (h1 : isIdB (bs (tx k)) = true) (h2 : kidsF [] k.kids = []) : idK m t = some (tx k) := by
  unfold idK
  rw [h]
  exact if_pos ⟨h1, h2⟩
/-- How far the two ids are read. -/
def IdsAt (R : Except Bs MetaD) (t : Tr) (k : Nat) (g a : S) : Prop := match k with
  | 0 => R = readM1 t ∧ g = ⟨#[]⟩ ∧ a = ⟨#[]⟩
  | 1 => ∃ x, R = readM2 t x ∧ g = bs x ∧ a = ⟨#[]⟩ ∧ g.size ≤ 64
  | _ => ∃ x y, R = readM3 t x y ∧ g = bs x ∧ a = bs y ∧ g.size ≤ 64 ∧ a.size ≤ 64
/-- How far the rest is read. -/
def RestAt (R : Except Bs MetaD) (x y : Bs) (i : Tr) (k : Nat) (l r : S) (vl : List S) : Prop := match k with
  | 0 => R = readM4 x y i ∧ l = ⟨#[]⟩ ∧ r = ⟨#[]⟩ ∧ vl = []
  | 1 => ∃ la, R = readM5 x y i la ∧ l = bs (tx la) ∧ r = ⟨#[]⟩ ∧ vl = []
  | 2 => ∃ la, R = readM5 x y i la ∧ ¬ 1 < (kidsF nmR i.kids).length ∧ l = bs (tx la) ∧ r = lastTx (kidsF nmR i.kids) ∧ vl = []
  | _ => ∃ la vs, R = readM6 x y i la vs ∧ LightT vs ∧ l = bs (tx la) ∧ r = lastTx (kidsF nmR i.kids) ∧ vl = txs (kidsF nmVer vs.kids)
set_option maxRecDepth 100000 in
set_option maxHeartbeats 64000000 in
theorem docMetaRead_of (HPT : RefPartsOk) (t : Tr) (w : World) (av kv : Value) (ht : NodeOf w t av kv) (hl : LightT t) : Calls Tryd.prog 24 #[nodeV t av kv] w (ReadD (readM t) w) := by
  have HPT' := Lib.hid HPT
  have HLT := Lib.hid hl
  have HT0 := Lib.hid ht
  obtain ⟨ao, ac, ko, kc, rfl, rfl, -, -⟩ := ht.shape
  have HR : Hid (readM t = if t.name = nmMeta then readM1 t else .error t.name) := rfl
  generalize readM t = R at *
  clear ht hl HPT
  unfold nodeV
  go_enter Tryd.func24, Tryd.ntmps24
  go_upto_region 2 with fail
  refine wp_world ?_
  intro W hW
  have x1 : Box W w.heap.size [.string (bs t.name), .slice ao t.attrs.length ac, .slice ko t.kids.length kc, .string (bs t.text)] := by rw [hW]; exact ((Box.new w [.string (bs t.name), .slice ao t.attrs.length ac, .slice ko t.kids.length kc, .string (bs t.text)] _ _ rfl).alloc _).alloc _
  have y1 : Box W (w.heap.size + 1) [.string ⟨#[]⟩, .string ⟨#[]⟩, .slice none 0 0, .string ⟨#[]⟩, .string ⟨#[]⟩] := by rw [hW]; exact (Box.new _ [.string ⟨#[]⟩, .string ⟨#[]⟩, .slice none 0 0, .string ⟨#[]⟩, .string ⟨#[]⟩] _ _ (by simp)).alloc _
  have y2 : Box W (w.heap.size + 2) [.string ⟨#[]⟩, .string ⟨#[]⟩, .slice none 0 0, .string ⟨#[]⟩, .string ⟨#[]⟩] := by rw [hW]; exact Box.new _ [.string ⟨#[]⟩, .string ⟨#[]⟩, .slice none 0 0, .string ⟨#[]⟩, .string ⟨#[]⟩] _ _ (by simp)
  have hb : Below w.heap.size w W := by rw [hW]; exact (((Below.refl _ w).alloc (Nat.le_refl _) _).alloc (by simp) _).alloc (by simp; omega) _
  clear hW
  have HT : Hid (NdF w W w.heap.size t (.slice ao t.attrs.length ac) (.slice ko t.kids.length kc)) := ⟨x1, nodeXX HT0.out hb⟩
  have HZ := Lib.hid y1
  have HM := Lib.hid y2
  have HB := Lib.hid hb
  have HS : Hid (w.heap.size + 3 ≤ W.heap.size) := by have := y2.lt; show _ ≤ _; omega
  clear x1 y1 y2 hb HT0
  have hnm := bsLit t.name nmMeta
  have x0 := HT.out.box.cell 0 _ rfl
  have x1 := HT.out.box.cell 1 _ rfl
  have x2 := HT.out.box.cell 2 _ rfl
  have x3 := HT.out.box.cell 3 _ rfl
  have xl := HT.out.box.lt
  by_cases hn : t.name = nmMeta
  · have HR1 : Hid (R = readM1 t) := by show _ = _; rw [HR.out, if_pos hn]
    rw [decide_eq_true hn] at hnm
    clear HR hn
    have HR := HR1
    clear HR1
    go_upto_region 4 with fail
    clear hnm x0 x1 x2 x3 xl
    go_upto_region 5 with fail
    refine wp_world ?_
    intro W3 hW
    have HRW : Hid (Box W3 W.heap.size [.string ⟨#[103, 114, 111, 117, 112, 73, 100]⟩, .string ⟨#[97, 114, 116, 105, 102, 97, 99, 116, 73, 100]⟩]) := by show Box _ _ _; rw [hW]; exact Box.new W [.string ⟨#[103, 114, 111, 117, 112, 73, 100]⟩, .string ⟨#[97, 114, 116, 105, 102, 97, 99, 116, 73, 100]⟩] _ _ rfl
    have hb : Below W.heap.size W W3 := by rw [hW]; exact (Below.refl _ _).alloc (Nat.le_refl _) _
    have HBN : Hid (w.heap.size + 3 ≤ W.heap.size) := HS.out
    replace HT := Lib.hid (HT.out.below hb)
    replace HZ := Lib.hid (HZ.out.below hb HZ.out.lt)
    replace HM := Lib.hid (HM.out.below hb HM.out.lt)
    replace HB := Lib.hid (HB.out.trans (hb.mono HB.out.size))
    replace HS : Hid (w.heap.size + 3 ≤ W3.heap.size) := by have h1 := HS.out; have h2 := hb.size; show _ ≤ _; omega
    clear hW hb
    generalize W.heap.size = bn at *
    go_loopw [25] (fun i2 wx => ∃ (z : Int) (k : Nat) (g a : S), i2 = .int .i64 z ∧ z = (k : Int) ∧ k ≤ 2 ∧ Hid (IdsAt R t k g a) ∧ Hid (NdF w wx w.heap.size t (.slice ao t.attrs.length ac) (.slice ko t.kids.length kc)) ∧ Hid (Box wx (w.heap.size + 1) [.string ⟨#[]⟩, .string ⟨#[]⟩, .slice none 0 0, .string ⟨#[]⟩, .string ⟨#[]⟩]) ∧ Hid (Box wx (w.heap.size + 2) [.string g, .string a, .slice none 0 0, .string ⟨#[]⟩, .string ⟨#[]⟩]) ∧ Hid (Box wx bn [.string ⟨#[103, 114, 111, 117, 112, 73, 100]⟩, .string ⟨#[97, 114, 116, 105, 102, 97, 99, 116, 73, 100]⟩]) ∧ Hid (w.heap.size + 3 ≤ wx.heap.size) ∧ Hid (Below w.heap.size w wx)) (fun i2 _ => 2 - (intOf i2).toNat)
    case atStart => exact ⟨0, 0, _, _, rfl, rfl, by omega, ⟨HR.out, rfl, rfl⟩, HT, HZ, HM, HRW, HS, HB⟩
    case round =>
      clear HT HZ HM HRW HS HB HR
      obtain ⟨z, k, g, a, rfl, hz, hk, HI, HT, HZ, HM, HRW, HS, HB⟩ := hrel
      obtain ⟨wo, rfl⟩ : ∃ wo : World, wo = wr := ⟨_, rfl⟩
      rcases (show k = 0 ∨ k = 1 ∨ k = 2 by omega) with rfl | rfl | rfl
      · obtain rfl : z = 0 := hz
        obtain ⟨hr, rfl, rfl⟩ := HI.out
        have HRX := Lib.hid hr
        clear hr HI hk
        have r0 := HRW.out.cell 0 _ rfl
        have r1 := HRW.out.cell 1 _ rfl
        have rl := HRW.out.lt
        have HKD := Lib.hid (refKids_x t nmG wo _ _ HT.out.node (by have := lightT_kidl HLT.out; omega))
        unfold nodeV bs at HKD
        have x0 := HT.out.box.cell 0 _ rfl
        have x1 := HT.out.box.cell 1 _ rfl
        have x2 := HT.out.box.cell 2 _ rfl
        have x3 := HT.out.box.cell 3 _ rfl
        have xl := HT.out.box.lt
        go_wp2_with fail
        refine HKD.out.mono ?_
        rintro e w1 ⟨v, L, rfl, hL, hc⟩
        have hb1 := hc.below
        have HLR : Hid (RowF w w1 (w.heap.size + 3) v L) := RowF.of hc HS.out
        have HLK := Lib.hid hL
        replace HT := Lib.hid (HT.out.below hb1)
        replace HZ := Lib.hid (HZ.out.below hb1 HZ.out.lt)
        replace HM := Lib.hid (HM.out.below hb1 HM.out.lt)
        replace HB := Lib.hid (HB.out.trans (hb1.mono HB.out.size))
        replace HS : Hid (w.heap.size + 3 ≤ w1.heap.size) := by have h1 := HS.out; have h2 := hb1.size; show _ ≤ _; omega
        replace HRW := Lib.hid (HRW.out.below hb1 HRW.out.lt)
        obtain ⟨Lo, Lc, rfl⟩ := HLR.out.own.shape
        clear hb1 hL hc HKD x0 x1 x2 x3 xl r0 r1 rl
        by_cases hn : L.length = 1
        · obtain ⟨y, rfl⟩ : ∃ y, L = [y] := by
            match L, hn with
            | [y], _ => exact ⟨y, rfl⟩
          have HONE := Lib.hid (oneK_yes HLK.out)
          have HLY := Lib.hid (oneK_light HLT.out HONE.out)
          have HNY := Lib.hid (HLR.out.nodes y (by simp))
          clear hn HLK
          obtain ⟨b, hLo, hbl, c0, c1, c2, c3⟩ := row_at HLR.out.own (k := 0) rfl
          cases hLo
          simp only [Nat.zero_mul, Nat.zero_add] at c0 c1 c2 c3
          obtain ⟨y, yav, ykv⟩ := y
          simp only at c0 c1 c2 c3 HONE HLY HNY
          simp only [List.length_singleton]
          obtain ⟨yao, yac, yko, ykc, rfl, rfl, -, -⟩ := HNY.out.shape
          have HTX : Hid (∀ W, Below w1.heap.size w1 W → Calls Tryd.prog 52 #[nodeV y (.slice yao y.attrs.length yac) (.slice yko y.kids.length ykc)] W fun e w' => e = .returned (.string (bs (tx y))) ∧ Below W.heap.size W w') := fun W hb => refText23_any y W _ _ (HNY.out.later hb).node (by have := HLY.out.textL; omega)
          unfold nodeV at HTX
          have HSZ : Hid ((bs (tx y) : S).size ≤ 9223372036854775807) := by have := tx_len HLY.out; show _ ≤ _; rw [bs_size]; omega
          go_wp2_with fail
          refine (HTX.out w1 (Below.refl _ _)).mono ?_
          rintro e w2 ⟨rfl, hb⟩
          replace HT := Lib.hid (HT.out.below hb)
          replace HZ := Lib.hid (HZ.out.below hb HZ.out.lt)
          replace HM := Lib.hid (HM.out.below hb HM.out.lt)
          replace HB := Lib.hid (HB.out.trans (hb.mono HB.out.size))
          replace HS : Hid (w.heap.size + 3 ≤ w2.heap.size) := by have h1 := HS.out; have h2 := hb.size; show _ ≤ _; omega
          replace HLR := Lib.hid (HLR.out.below hb)
          replace HRW := Lib.hid (HRW.out.below hb HRW.out.lt)
          have HB12 := Lib.hid hb
          clear hb c0 c1 c2 c3 hbl
          obtain ⟨ty, hty⟩ : ∃ ty : S, bs (tx y) = ty := ⟨_, rfl⟩
          rw [hty] at HTX HSZ ⊢
          have HTY := Lib.hid hty
          clear hty
          have HII := Lib.hid (refIsId_any ty w2 HSZ.out)
          go_wp2_with fail
          refine HII.out.mono ?_
          rintro e w3 ⟨rfl, rfl⟩
          clear HII
          cases hq : isIdB ty with
          | false =>
            have HBAD : Hid (idK nmG t = none) := idK_bad HONE.out (by rintro ⟨h, -⟩; rw [show bs (tx y) = ty from HTY.out, hq] at h; cases h)
            clear hq HTX HSZ HLR HNY
            have HRE : Hid (R = .error erG) := by show _ = _; rw [HRX.out]; unfold readM1; rw [HBAD.out]
            have hcat9 : (⟨#[109, 101, 116, 97, 100, 97, 116, 97, 47]⟩ : S) ++ ⟨#[103, 114, 111, 117, 112, 73, 100]⟩ = ⟨#[109, 101, 116, 97, 100, 97, 116, 97, 47, 103, 114, 111, 117, 112, 73, 100]⟩ := by decide
            have hcat16 : (⟨#[109, 101, 116, 97, 100, 97, 116, 97, 47, 103, 114, 111, 117, 112, 73, 100]⟩ : S) ++ ⟨#[33]⟩ = ⟨#[109, 101, 116, 97, 100, 97, 116, 97, 47, 103, 114, 111, 117, 112, 73, 100, 33]⟩ := by decide
            go_wp2_with ((with_reducible show wpList _ _ _ (Oper.mk none (Op.store 31 (.tmp 2) (.tmp 52)) _ _ _ _ :: _) _ _); refine wpList_store_box rfl 31 (.tmp 2) (.tmp 52) rfl (w.heap.size + 1) _ [.string ⟨#[]⟩, .string ⟨#[]⟩, .slice none 0 0, .string ⟨#[]⟩, .string ⟨#[]⟩] rfl rfl HZ.out rfl (by kernel_rfl) (by simp [Value.oneCell']) ?_; intro W7 v7 hg7; have HV7 := Lib.hid v7; have HB7 := Lib.hid (grB HB.out hg7 (by omega) (Nat.le_refl _)); clear v7 hg7)
            have z0 := HV7.out.cell 0 _ rfl
            have z1 := HV7.out.cell 1 _ rfl
            have z2 := HV7.out.cell 2 _ rfl
            have z3 := HV7.out.cell 3 _ rfl
            have z4 := HV7.out.cell 4 _ rfl
            have zl := HV7.out.lt
            clear HZ HM HB
            go_wp2
            refine bodyPost_ret (v := .tuple #[.agg metaZ.toArray, .string ⟨#[109, 101, 116, 97, 100, 97, 116, 97, 47, 103, 114, 111, 117, 112, 73, 100, 33]⟩]) (by simp [results, Tryd.results24, go_sem, z0, z1, z2, z3, z4, metaZ]) rfl ?_
            rw [HRE.out]
            exact ⟨HB7.out, rfl⟩
          | true =>
            have HQ := Lib.hid hq
            clear hq
            obtain ⟨b, hLo, hbl, c0, c1, c2, c3⟩ := row_at HLR.out.own (k := 0) rfl
            cases hLo
            simp only [Nat.zero_mul, Nat.zero_add] at c0 c1 c2 c3
            have HKD := Lib.hid (refKids_x y [] w2 _ _ (HNY.out.later HB12.out) (by have := lightT_kidl HLY.out; omega))
            unfold nodeV bs at HKD
            have bl := hbl
            go_wp2_with fail
            refine HKD.out.mono ?_
            rintro e w4 ⟨v, L2, rfl, hL, hc⟩
            have hb1 := hc.below
            have HL2R : Hid (RowF w w4 (w.heap.size + 3) v L2) := RowF.of hc HS.out
            have HL2K := Lib.hid hL
            have HKB := Lib.hid hb1
            replace HT := Lib.hid (HT.out.below hb1)
            replace HZ := Lib.hid (HZ.out.below hb1 HZ.out.lt)
            replace HM := Lib.hid (HM.out.below hb1 HM.out.lt)
            replace HB := Lib.hid (HB.out.trans (hb1.mono HB.out.size))
            replace HS : Hid (w.heap.size + 3 ≤ w4.heap.size) := by have h1 := HS.out; have h2 := hb1.size; show _ ≤ _; omega
            replace HLR := Lib.hid (HLR.out.below hb1)
            replace HRW := Lib.hid (HRW.out.below hb1 HRW.out.lt)
            obtain ⟨L2o, L2c, rfl⟩ := HL2R.out.own.shape
            clear hb1 hL hc HKD bl c0 c1 c2 c3 hbl
            have HB14 : Hid (Below w1.heap.size w1 w4) := HB12.out.trans (HKB.out.mono HB12.out.size)
            by_cases hn2 : L2.length = 0
            · have e1 : decide ((0 : Int) < (L2.length : Int)) = false := decide_eq_false (by omega)
              have e2 : decide (0 < L2.length) = false := decide_eq_false (by omega)
              have e3 : ¬ (0 : Int) < (L2.length : Int) := by omega
              have HYES : Hid (idK nmG t = some (tx y)) := idK_yes HONE.out (by rw [show bs (tx y) = ty from HTY.out]; exact HQ.out) (by rw [← HL2K.out, List.eq_nil_of_length_eq_zero hn2]; rfl)
              clear hn2 HL2R HL2K
              obtain ⟨b, hLo, hbl, c0, c1, c2, c3⟩ := row_at HLR.out.own (k := 0) rfl
              cases hLo
              simp only [Nat.zero_mul, Nat.zero_add] at c0 c1 c2 c3
              have HTX4 := Lib.hid (HTX.out w4 HB14.out)
              go_wp2_with fail
              refine HTX4.out.mono ?_
              rintro e w5 ⟨rfl, hb⟩
              replace HT := Lib.hid (HT.out.below hb)
              replace HZ := Lib.hid (HZ.out.below hb HZ.out.lt)
              replace HM := Lib.hid (HM.out.below hb HM.out.lt)
              replace HB := Lib.hid (HB.out.trans (hb.mono HB.out.size))
              replace HS : Hid (w.heap.size + 3 ≤ w5.heap.size) := by have h1 := HS.out; have h2 := hb.size; show _ ≤ _; omega
              replace HLR := Lib.hid (HLR.out.below hb)
              replace HRW := Lib.hid (HRW.out.below hb HRW.out.lt)
              clear hb c0 c1 c2 c3 hbl HTX HTX4 HNY HB12 HB14 HKB e1 e2 e3
              have mk := HM.out.cell 0 _ rfl
              have ml := HM.out.lt
              have mf := HM.out.free 0
              go_upto_region 13 with fail
              refine wp_world ?_
              intro W3 hW
              have HM3 : Hid (Box W3 (w.heap.size + 2) [.string ty, .string ⟨#[]⟩, .slice none 0 0, .string ⟨#[]⟩, .string ⟨#[]⟩]) := by show Box _ _ _; rw [hW]; exact HM.out.set 0 _
              have hg : w5.grownBy W3 (some (w.heap.size + 2)) := by rw [hW]; exact setCell_grown _ _ _ _
              have HT3 := Lib.hid (HT.out.put hg (by omega) (by omega))
              have HZ3 := Lib.hid (HZ.out.grown hg (by simp))
              have HRW3 := Lib.hid (HRW.out.grown hg (by have := HBN.out; simp; omega))
              have HS3 : Hid (w.heap.size + 3 ≤ W3.heap.size) := by have h1 := HS.out; have h2 := hg.size; show _ ≤ _; omega
              have HB3 := Lib.hid (grB HB.out hg (by omega) (Nat.le_refl _))
              have HI3 : Hid (IdsAt R t 1 ty ⟨#[]⟩) := ⟨tx y, by show _ = _; rw [HRX.out]; unfold readM1; rw [HYES.out], HTY.out.symm, rfl, by have h := idK_sz HYES.out; rwa [show bs (tx y) = ty from HTY.out] at h⟩
              clear hW hg mk ml mf HM HT HZ HRW HS HB HLR
              go_wp2
              go_roundw
              case rel => exact ⟨1, 1, _, _, by first | rfl | go_num, rfl, by omega, HI3, HT3, HZ3, HM3, HRW3, HS3, HB3⟩
              case measure => simp [intOf]
            · have e1 : decide ((0 : Int) < (L2.length : Int)) = true := decide_eq_true (by omega)
              have e2 : decide (0 < L2.length) = true := decide_eq_true (by omega)
              have e3 : (0 : Int) < (L2.length : Int) := by omega
              have HBAD : Hid (idK nmG t = none) := idK_bad HONE.out (by rintro ⟨-, h⟩; rw [← HL2K.out, List.map_eq_nil_iff] at h; exact hn2 (by rw [h]; rfl))
              clear hn2 HL2R HL2K HTX HSZ HLR HNY HB14 HKB
              have HRE : Hid (R = .error erG) := by show _ = _; rw [HRX.out]; unfold readM1; rw [HBAD.out]
              have hcat9 : (⟨#[109, 101, 116, 97, 100, 97, 116, 97, 47]⟩ : S) ++ ⟨#[103, 114, 111, 117, 112, 73, 100]⟩ = ⟨#[109, 101, 116, 97, 100, 97, 116, 97, 47, 103, 114, 111, 117, 112, 73, 100]⟩ := by decide
              have hcat16 : (⟨#[109, 101, 116, 97, 100, 97, 116, 97, 47, 103, 114, 111, 117, 112, 73, 100]⟩ : S) ++ ⟨#[33]⟩ = ⟨#[109, 101, 116, 97, 100, 97, 116, 97, 47, 103, 114, 111, 117, 112, 73, 100, 33]⟩ := by decide
              go_wp2_with ((with_reducible show wpList _ _ _ (Oper.mk none (Op.store 31 (.tmp 2) (.tmp 52)) _ _ _ _ :: _) _ _); refine wpList_store_box rfl 31 (.tmp 2) (.tmp 52) rfl (w.heap.size + 1) _ [.string ⟨#[]⟩, .string ⟨#[]⟩, .slice none 0 0, .string ⟨#[]⟩, .string ⟨#[]⟩] rfl rfl HZ.out rfl (by kernel_rfl) (by simp [Value.oneCell']) ?_; intro W7 v7 hg7; have HV7 := Lib.hid v7; have HB7 := Lib.hid (grB HB.out hg7 (by omega) (Nat.le_refl _)); clear v7 hg7)
              have z0 := HV7.out.cell 0 _ rfl
              have z1 := HV7.out.cell 1 _ rfl
              have z2 := HV7.out.cell 2 _ rfl
              have z3 := HV7.out.cell 3 _ rfl
              have z4 := HV7.out.cell 4 _ rfl
              have zl := HV7.out.lt
              clear HZ HM HB
              go_wp2
              refine bodyPost_ret (v := .tuple #[.agg metaZ.toArray, .string ⟨#[109, 101, 116, 97, 100, 97, 116, 97, 47, 103, 114, 111, 117, 112, 73, 100, 33]⟩]) (by simp [results, Tryd.results24, go_sem, z0, z1, z2, z3, z4, metaZ]) rfl ?_
              rw [HRE.out]
              exact ⟨HB7.out, rfl⟩
        · have e1 : ((L.length : Int) != 1) = true := by rw [bne_iff_ne]; omega
          have e2 : (L.length != 1) = true := by rw [bne_iff_ne]; exact hn
          have e3 : ((L.length : Int) == 1) = false := by rw [beq_eq_false_iff_ne]; omega
          have e4 : (L.length == 1) = false := by rw [beq_eq_false_iff_ne]; exact hn

          have HBAD : Hid (idK nmG t = none) := idK_no (oneK_no HLK.out hn)
          clear hn HLR HLK
          have HRE : Hid (R = .error erG) := by show _ = _; rw [HRX.out]; unfold readM1; rw [HBAD.out]
          have hcat9 : (⟨#[109, 101, 116, 97, 100, 97, 116, 97, 47]⟩ : S) ++ ⟨#[103, 114, 111, 117, 112, 73, 100]⟩ = ⟨#[109, 101, 116, 97, 100, 97, 116, 97, 47, 103, 114, 111, 117, 112, 73, 100]⟩ := by decide
          have hcat16 : (⟨#[109, 101, 116, 97, 100, 97, 116, 97, 47, 103, 114, 111, 117, 112, 73, 100]⟩ : S) ++ ⟨#[33]⟩ = ⟨#[109, 101, 116, 97, 100, 97, 116, 97, 47, 103, 114, 111, 117, 112, 73, 100, 33]⟩ := by decide
          go_wp2_with ((with_reducible show wpList _ _ _ (Oper.mk none (Op.store 31 (.tmp 2) (.tmp 52)) _ _ _ _ :: _) _ _); refine wpList_store_box rfl 31 (.tmp 2) (.tmp 52) rfl (w.heap.size + 1) _ [.string ⟨#[]⟩, .string ⟨#[]⟩, .slice none 0 0, .string ⟨#[]⟩, .string ⟨#[]⟩] rfl rfl HZ.out rfl (by kernel_rfl) (by simp [Value.oneCell']) ?_; intro W7 v7 hg7; have HV7 := Lib.hid v7; have HB7 := Lib.hid (grB HB.out hg7 (by omega) (Nat.le_refl _)); clear v7 hg7)
          have z0 := HV7.out.cell 0 _ rfl
          have z1 := HV7.out.cell 1 _ rfl
          have z2 := HV7.out.cell 2 _ rfl
          have z3 := HV7.out.cell 3 _ rfl
          have z4 := HV7.out.cell 4 _ rfl
          have zl := HV7.out.lt
          clear HZ HM HB
          go_wp2
          refine bodyPost_ret (v := .tuple #[.agg metaZ.toArray, .string ⟨#[109, 101, 116, 97, 100, 97, 116, 97, 47, 103, 114, 111, 117, 112, 73, 100, 33]⟩]) (by simp [results, Tryd.results24, go_sem, z0, z1, z2, z3, z4, metaZ]) rfl ?_
          rw [HRE.out]
          exact ⟨HB7.out, rfl⟩
      · obtain rfl : z = 1 := hz
        obtain ⟨gx, hr, rfl, rfl, hgz⟩ := HI.out
        have HRX := Lib.hid hr
        have HGZ := Lib.hid hgz
        clear hr HI hk hgz
        have r0 := HRW.out.cell 0 _ rfl
        have r1 := HRW.out.cell 1 _ rfl
        have rl := HRW.out.lt
        have HKD := Lib.hid (refKids_x t nmA wo _ _ HT.out.node (by have := lightT_kidl HLT.out; omega))
        unfold nodeV bs at HKD
        have x0 := HT.out.box.cell 0 _ rfl
        have x1 := HT.out.box.cell 1 _ rfl
        have x2 := HT.out.box.cell 2 _ rfl
        have x3 := HT.out.box.cell 3 _ rfl
        have xl := HT.out.box.lt
        go_wp2_with fail
        refine HKD.out.mono ?_
        rintro e w1 ⟨v, L, rfl, hL, hc⟩
        have hb1 := hc.below
        have HLR : Hid (RowF w w1 (w.heap.size + 3) v L) := RowF.of hc HS.out
        have HLK := Lib.hid hL
        replace HT := Lib.hid (HT.out.below hb1)
        replace HZ := Lib.hid (HZ.out.below hb1 HZ.out.lt)
        replace HM := Lib.hid (HM.out.below hb1 HM.out.lt)
        replace HB := Lib.hid (HB.out.trans (hb1.mono HB.out.size))
        replace HS : Hid (w.heap.size + 3 ≤ w1.heap.size) := by have h1 := HS.out; have h2 := hb1.size; show _ ≤ _; omega
        replace HRW := Lib.hid (HRW.out.below hb1 HRW.out.lt)
        obtain ⟨Lo, Lc, rfl⟩ := HLR.out.own.shape
        clear hb1 hL hc HKD x0 x1 x2 x3 xl r0 r1 rl
        by_cases hn : L.length = 1
        · obtain ⟨y, rfl⟩ : ∃ y, L = [y] := by
            match L, hn with
            | [y], _ => exact ⟨y, rfl⟩
          have HONE := Lib.hid (oneK_yes HLK.out)
          have HLY := Lib.hid (oneK_light HLT.out HONE.out)
          have HNY := Lib.hid (HLR.out.nodes y (by simp))
          clear hn HLK
          obtain ⟨b, hLo, hbl, c0, c1, c2, c3⟩ := row_at HLR.out.own (k := 0) rfl
          cases hLo
          simp only [Nat.zero_mul, Nat.zero_add] at c0 c1 c2 c3
          obtain ⟨y, yav, ykv⟩ := y
          simp only at c0 c1 c2 c3 HONE HLY HNY
          simp only [List.length_singleton]
          obtain ⟨yao, yac, yko, ykc, rfl, rfl, -, -⟩ := HNY.out.shape
          have HTX : Hid (∀ W, Below w1.heap.size w1 W → Calls Tryd.prog 52 #[nodeV y (.slice yao y.attrs.length yac) (.slice yko y.kids.length ykc)] W fun e w' => e = .returned (.string (bs (tx y))) ∧ Below W.heap.size W w') := fun W hb => refText23_any y W _ _ (HNY.out.later hb).node (by have := HLY.out.textL; omega)
          unfold nodeV at HTX
          have HSZ : Hid ((bs (tx y) : S).size ≤ 9223372036854775807) := by have := tx_len HLY.out; show _ ≤ _; rw [bs_size]; omega
          go_wp2_with fail
          refine (HTX.out w1 (Below.refl _ _)).mono ?_
          rintro e w2 ⟨rfl, hb⟩
          replace HT := Lib.hid (HT.out.below hb)
          replace HZ := Lib.hid (HZ.out.below hb HZ.out.lt)
          replace HM := Lib.hid (HM.out.below hb HM.out.lt)
          replace HB := Lib.hid (HB.out.trans (hb.mono HB.out.size))
          replace HS : Hid (w.heap.size + 3 ≤ w2.heap.size) := by have h1 := HS.out; have h2 := hb.size; show _ ≤ _; omega
          replace HLR := Lib.hid (HLR.out.below hb)
          replace HRW := Lib.hid (HRW.out.below hb HRW.out.lt)
          have HB12 := Lib.hid hb
          clear hb c0 c1 c2 c3 hbl
          obtain ⟨ty, hty⟩ : ∃ ty : S, bs (tx y) = ty := ⟨_, rfl⟩
          rw [hty] at HTX HSZ ⊢
          have HTY := Lib.hid hty
          clear hty
          have HII := Lib.hid (refIsId_any ty w2 HSZ.out)
          go_wp2_with fail
          refine HII.out.mono ?_
          rintro e w3 ⟨rfl, rfl⟩
          clear HII
          cases hq : isIdB ty with
          | false =>
            have HBAD : Hid (idK nmA t = none) := idK_bad HONE.out (by rintro ⟨h, -⟩; rw [show bs (tx y) = ty from HTY.out, hq] at h; cases h)
            clear hq HTX HSZ HLR HNY
            have HRE : Hid (R = .error erA) := by show _ = _; rw [HRX.out]; unfold readM2; rw [HBAD.out]
            have hcat9 : (⟨#[109, 101, 116, 97, 100, 97, 116, 97, 47]⟩ : S) ++ ⟨#[97, 114, 116, 105, 102, 97, 99, 116, 73, 100]⟩ = ⟨#[109, 101, 116, 97, 100, 97, 116, 97, 47, 97, 114, 116, 105, 102, 97, 99, 116, 73, 100]⟩ := by decide
            have hcat19 : (⟨#[109, 101, 116, 97, 100, 97, 116, 97, 47, 97, 114, 116, 105, 102, 97, 99, 116, 73, 100]⟩ : S) ++ ⟨#[33]⟩ = ⟨#[109, 101, 116, 97, 100, 97, 116, 97, 47, 97, 114, 116, 105, 102, 97, 99, 116, 73, 100, 33]⟩ := by decide
            go_wp2_with ((with_reducible show wpList _ _ _ (Oper.mk none (Op.store 31 (.tmp 2) (.tmp 52)) _ _ _ _ :: _) _ _); refine wpList_store_box rfl 31 (.tmp 2) (.tmp 52) rfl (w.heap.size + 1) _ [.string ⟨#[]⟩, .string ⟨#[]⟩, .slice none 0 0, .string ⟨#[]⟩, .string ⟨#[]⟩] rfl rfl HZ.out rfl (by kernel_rfl) (by simp [Value.oneCell']) ?_; intro W7 v7 hg7; have HV7 := Lib.hid v7; have HB7 := Lib.hid (grB HB.out hg7 (by omega) (Nat.le_refl _)); clear v7 hg7)
            have z0 := HV7.out.cell 0 _ rfl
            have z1 := HV7.out.cell 1 _ rfl
            have z2 := HV7.out.cell 2 _ rfl
            have z3 := HV7.out.cell 3 _ rfl
            have z4 := HV7.out.cell 4 _ rfl
            have zl := HV7.out.lt
            clear HZ HM HB
            go_wp2
            refine bodyPost_ret (v := .tuple #[.agg metaZ.toArray, .string ⟨#[109, 101, 116, 97, 100, 97, 116, 97, 47, 97, 114, 116, 105, 102, 97, 99, 116, 73, 100, 33]⟩]) (by simp [results, Tryd.results24, go_sem, z0, z1, z2, z3, z4, metaZ]) rfl ?_
            rw [HRE.out]
            exact ⟨HB7.out, rfl⟩
          | true =>
            have HQ := Lib.hid hq
            clear hq
            obtain ⟨b, hLo, hbl, c0, c1, c2, c3⟩ := row_at HLR.out.own (k := 0) rfl
            cases hLo
            simp only [Nat.zero_mul, Nat.zero_add] at c0 c1 c2 c3
            have HKD := Lib.hid (refKids_x y [] w2 _ _ (HNY.out.later HB12.out) (by have := lightT_kidl HLY.out; omega))
            unfold nodeV bs at HKD
            have bl := hbl
            go_wp2_with fail
            refine HKD.out.mono ?_
            rintro e w4 ⟨v, L2, rfl, hL, hc⟩
            have hb1 := hc.below
            have HL2R : Hid (RowF w w4 (w.heap.size + 3) v L2) := RowF.of hc HS.out
            have HL2K := Lib.hid hL
            have HKB := Lib.hid hb1
            replace HT := Lib.hid (HT.out.below hb1)
            replace HZ := Lib.hid (HZ.out.below hb1 HZ.out.lt)
            replace HM := Lib.hid (HM.out.below hb1 HM.out.lt)
            replace HB := Lib.hid (HB.out.trans (hb1.mono HB.out.size))
            replace HS : Hid (w.heap.size + 3 ≤ w4.heap.size) := by have h1 := HS.out; have h2 := hb1.size; show _ ≤ _; omega
            replace HLR := Lib.hid (HLR.out.below hb1)
            replace HRW := Lib.hid (HRW.out.below hb1 HRW.out.lt)
            obtain ⟨L2o, L2c, rfl⟩ := HL2R.out.own.shape
            clear hb1 hL hc HKD bl c0 c1 c2 c3 hbl
            have HB14 : Hid (Below w1.heap.size w1 w4) := HB12.out.trans (HKB.out.mono HB12.out.size)
            by_cases hn2 : L2.length = 0
            · have e1 : decide ((0 : Int) < (L2.length : Int)) = false := decide_eq_false (by omega)
              have e2 : decide (0 < L2.length) = false := decide_eq_false (by omega)
              have e3 : ¬ (0 : Int) < (L2.length : Int) := by omega
              have HYES : Hid (idK nmA t = some (tx y)) := idK_yes HONE.out (by rw [show bs (tx y) = ty from HTY.out]; exact HQ.out) (by rw [← HL2K.out, List.eq_nil_of_length_eq_zero hn2]; rfl)
              clear hn2 HL2R HL2K
              obtain ⟨b, hLo, hbl, c0, c1, c2, c3⟩ := row_at HLR.out.own (k := 0) rfl
              cases hLo
              simp only [Nat.zero_mul, Nat.zero_add] at c0 c1 c2 c3
              have HTX4 := Lib.hid (HTX.out w4 HB14.out)
              go_wp2_with fail
              refine HTX4.out.mono ?_
              rintro e w5 ⟨rfl, hb⟩
              replace HT := Lib.hid (HT.out.below hb)
              replace HZ := Lib.hid (HZ.out.below hb HZ.out.lt)
              replace HM := Lib.hid (HM.out.below hb HM.out.lt)
              replace HB := Lib.hid (HB.out.trans (hb.mono HB.out.size))
              replace HS : Hid (w.heap.size + 3 ≤ w5.heap.size) := by have h1 := HS.out; have h2 := hb.size; show _ ≤ _; omega
              replace HLR := Lib.hid (HLR.out.below hb)
              replace HRW := Lib.hid (HRW.out.below hb HRW.out.lt)
              clear hb c0 c1 c2 c3 hbl HTX HTX4 HNY HB12 HB14 HKB e1 e2 e3
              have mk := HM.out.cell 1 _ rfl
              have ml := HM.out.lt
              have mf := HM.out.free 1
              go_upto_region 13 with fail
              refine wp_world ?_
              intro W3 hW
              have HM3 : Hid (Box W3 (w.heap.size + 2) [.string (bs gx), .string ty, .slice none 0 0, .string ⟨#[]⟩, .string ⟨#[]⟩]) := by show Box _ _ _; rw [hW]; exact HM.out.set 1 _
              have hg : w5.grownBy W3 (some (w.heap.size + 2)) := by rw [hW]; exact setCell_grown _ _ _ _
              have HT3 := Lib.hid (HT.out.put hg (by omega) (by omega))
              have HZ3 := Lib.hid (HZ.out.grown hg (by simp))
              have HRW3 := Lib.hid (HRW.out.grown hg (by have := HBN.out; simp; omega))
              have HS3 : Hid (w.heap.size + 3 ≤ W3.heap.size) := by have h1 := HS.out; have h2 := hg.size; show _ ≤ _; omega
              have HB3 := Lib.hid (grB HB.out hg (by omega) (Nat.le_refl _))
              have HI3 : Hid (IdsAt R t 2 (bs gx) ty) := ⟨gx, tx y, by show _ = _; rw [HRX.out]; unfold readM2; rw [HYES.out], rfl, HTY.out.symm, HGZ.out, by have h := idK_sz HYES.out; rwa [show bs (tx y) = ty from HTY.out] at h⟩
              clear hW hg mk ml mf HM HT HZ HRW HS HB HLR
              go_wp2
              go_roundw
              case rel => exact ⟨2, 2, _, _, by first | rfl | go_num, rfl, by omega, HI3, HT3, HZ3, HM3, HRW3, HS3, HB3⟩
              case measure => simp [intOf]
            · have e1 : decide ((0 : Int) < (L2.length : Int)) = true := decide_eq_true (by omega)
              have e2 : decide (0 < L2.length) = true := decide_eq_true (by omega)
              have e3 : (0 : Int) < (L2.length : Int) := by omega
              have HBAD : Hid (idK nmA t = none) := idK_bad HONE.out (by rintro ⟨-, h⟩; rw [← HL2K.out, List.map_eq_nil_iff] at h; exact hn2 (by rw [h]; rfl))
              clear hn2 HL2R HL2K HTX HSZ HLR HNY HB14 HKB
              have HRE : Hid (R = .error erA) := by show _ = _; rw [HRX.out]; unfold readM2; rw [HBAD.out]
              have hcat9 : (⟨#[109, 101, 116, 97, 100, 97, 116, 97, 47]⟩ : S) ++ ⟨#[97, 114, 116, 105, 102, 97, 99, 116, 73, 100]⟩ = ⟨#[109, 101, 116, 97, 100, 97, 116, 97, 47, 97, 114, 116, 105, 102, 97, 99, 116, 73, 100]⟩ := by decide
              have hcat19 : (⟨#[109, 101, 116, 97, 100, 97, 116, 97, 47, 97, 114, 116, 105, 102, 97, 99, 116, 73, 100]⟩ : S) ++ ⟨#[33]⟩ = ⟨#[109, 101, 116, 97, 100, 97, 116, 97, 47, 97, 114, 116, 105, 102, 97, 99, 116, 73, 100, 33]⟩ := by decide
              go_wp2_with ((with_reducible show wpList _ _ _ (Oper.mk none (Op.store 31 (.tmp 2) (.tmp 52)) _ _ _ _ :: _) _ _); refine wpList_store_box rfl 31 (.tmp 2) (.tmp 52) rfl (w.heap.size + 1) _ [.string ⟨#[]⟩, .string ⟨#[]⟩, .slice none 0 0, .string ⟨#[]⟩, .string ⟨#[]⟩] rfl rfl HZ.out rfl (by kernel_rfl) (by simp [Value.oneCell']) ?_; intro W7 v7 hg7; have HV7 := Lib.hid v7; have HB7 := Lib.hid (grB HB.out hg7 (by omega) (Nat.le_refl _)); clear v7 hg7)
              have z0 := HV7.out.cell 0 _ rfl
              have z1 := HV7.out.cell 1 _ rfl
              have z2 := HV7.out.cell 2 _ rfl
              have z3 := HV7.out.cell 3 _ rfl
              have z4 := HV7.out.cell 4 _ rfl
              have zl := HV7.out.lt
              clear HZ HM HB
              go_wp2
              refine bodyPost_ret (v := .tuple #[.agg metaZ.toArray, .string ⟨#[109, 101, 116, 97, 100, 97, 116, 97, 47, 97, 114, 116, 105, 102, 97, 99, 116, 73, 100, 33]⟩]) (by simp [results, Tryd.results24, go_sem, z0, z1, z2, z3, z4, metaZ]) rfl ?_
              rw [HRE.out]
              exact ⟨HB7.out, rfl⟩
        · have e1 : ((L.length : Int) != 1) = true := by rw [bne_iff_ne]; omega
          have e2 : (L.length != 1) = true := by rw [bne_iff_ne]; exact hn
          have e3 : ((L.length : Int) == 1) = false := by rw [beq_eq_false_iff_ne]; omega
          have e4 : (L.length == 1) = false := by rw [beq_eq_false_iff_ne]; exact hn

          have HBAD : Hid (idK nmA t = none) := idK_no (oneK_no HLK.out hn)
          clear hn HLR HLK
          have HRE : Hid (R = .error erA) := by show _ = _; rw [HRX.out]; unfold readM2; rw [HBAD.out]
          have hcat9 : (⟨#[109, 101, 116, 97, 100, 97, 116, 97, 47]⟩ : S) ++ ⟨#[97, 114, 116, 105, 102, 97, 99, 116, 73, 100]⟩ = ⟨#[109, 101, 116, 97, 100, 97, 116, 97, 47, 97, 114, 116, 105, 102, 97, 99, 116, 73, 100]⟩ := by decide
          have hcat19 : (⟨#[109, 101, 116, 97, 100, 97, 116, 97, 47, 97, 114, 116, 105, 102, 97, 99, 116, 73, 100]⟩ : S) ++ ⟨#[33]⟩ = ⟨#[109, 101, 116, 97, 100, 97, 116, 97, 47, 97, 114, 116, 105, 102, 97, 99, 116, 73, 100, 33]⟩ := by decide
          go_wp2_with ((with_reducible show wpList _ _ _ (Oper.mk none (Op.store 31 (.tmp 2) (.tmp 52)) _ _ _ _ :: _) _ _); refine wpList_store_box rfl 31 (.tmp 2) (.tmp 52) rfl (w.heap.size + 1) _ [.string ⟨#[]⟩, .string ⟨#[]⟩, .slice none 0 0, .string ⟨#[]⟩, .string ⟨#[]⟩] rfl rfl HZ.out rfl (by kernel_rfl) (by simp [Value.oneCell']) ?_; intro W7 v7 hg7; have HV7 := Lib.hid v7; have HB7 := Lib.hid (grB HB.out hg7 (by omega) (Nat.le_refl _)); clear v7 hg7)
          have z0 := HV7.out.cell 0 _ rfl
          have z1 := HV7.out.cell 1 _ rfl
          have z2 := HV7.out.cell 2 _ rfl
          have z3 := HV7.out.cell 3 _ rfl
          have z4 := HV7.out.cell 4 _ rfl
          have zl := HV7.out.lt
          clear HZ HM HB
          go_wp2
          refine bodyPost_ret (v := .tuple #[.agg metaZ.toArray, .string ⟨#[109, 101, 116, 97, 100, 97, 116, 97, 47, 97, 114, 116, 105, 102, 97, 99, 116, 73, 100, 33]⟩]) (by simp [results, Tryd.results24, go_sem, z0, z1, z2, z3, z4, metaZ]) rfl ?_
          rw [HRE.out]
          exact ⟨HB7.out, rfl⟩
      · obtain rfl : z = 2 := hz
        obtain ⟨gx, ax, hr, rfl, rfl, hgz, haz⟩ := HI.out
        have HRX := Lib.hid hr
        have HGZ := Lib.hid hgz
        have HAZ := Lib.hid haz
        clear hr HI hk hgz haz HRW
        have HKD := Lib.hid (refKids_x t nmV wo _ _ HT.out.node (by have := lightT_kidl HLT.out; omega))
        unfold nodeV bs at HKD
        have x0 := HT.out.box.cell 0 _ rfl
        have x1 := HT.out.box.cell 1 _ rfl
        have x2 := HT.out.box.cell 2 _ rfl
        have x3 := HT.out.box.cell 3 _ rfl
        have xl := HT.out.box.lt
        go_wp2_with fail
        refine HKD.out.mono ?_
        rintro e w1 ⟨v, L, rfl, hL, hc⟩
        have hb1 := hc.below
        have HLR : Hid (RowF w w1 (w.heap.size + 3) v L) := RowF.of hc HS.out
        have HLK := Lib.hid hL
        replace HT := Lib.hid (HT.out.below hb1)
        replace HZ := Lib.hid (HZ.out.below hb1 HZ.out.lt)
        replace HM := Lib.hid (HM.out.below hb1 HM.out.lt)
        replace HB := Lib.hid (HB.out.trans (hb1.mono HB.out.size))
        replace HS : Hid (w.heap.size + 3 ≤ w1.heap.size) := by have h1 := HS.out; have h2 := hb1.size; show _ ≤ _; omega
        obtain ⟨Lo, Lc, rfl⟩ := HLR.out.own.shape
        clear hb1 hL hc HKD x0 x1 x2 x3 xl
        by_cases hn : L.length = 1
        · obtain ⟨i, rfl⟩ : ∃ y, L = [y] := by
            match L, hn with
            | [y], _ => exact ⟨y, rfl⟩
          have HONE := Lib.hid (oneK_yes HLK.out)
          have HLI := Lib.hid (oneK_light HLT.out HONE.out)
          have HNI := Lib.hid (HLR.out.nodes i (by simp))
          obtain ⟨i, iav, ikv⟩ := i
          simp only at HONE HLI HNI
          simp only [List.length_singleton]
          obtain ⟨iao, iac, iko, ikc, rfl, rfl, -, -⟩ := HNI.out.shape
          obtain ⟨bL, hLo, -, -, -, -, -⟩ := row_at HLR.out.own (k := 0) rfl
          cases hLo
          have HR4 : Hid (R = readM4 gx ax i) := by show _ = _; rw [HRX.out]; unfold readM3; rw [HONE.out]
          clear hn HLK HRX HONE HNI HT
          go_upto_region 18 with fail
          refine wp_world ?_
          intro W3 hW
          have HRW : Hid (Box W3 w1.heap.size [.string ⟨#[108, 97, 116, 101, 115, 116]⟩, .string ⟨#[114, 101, 108, 101, 97, 115, 101]⟩, .string ⟨#[118, 101, 114, 115, 105, 111, 110, 115]⟩]) := by show Box _ _ _; rw [hW]; exact Box.new w1 [.string ⟨#[108, 97, 116, 101, 115, 116]⟩, .string ⟨#[114, 101, 108, 101, 97, 115, 101]⟩, .string ⟨#[118, 101, 114, 115, 105, 111, 110, 115]⟩] _ _ rfl
          have hb : Below w1.heap.size w1 W3 := by rw [hW]; exact (Below.refl _ _).alloc (Nat.le_refl _) _
          have HBN3 : Hid (w.heap.size + 3 ≤ w1.heap.size) := HS.out
          replace HZ := Lib.hid (HZ.out.below hb HZ.out.lt)
          replace HM := Lib.hid (HM.out.below hb HM.out.lt)
          replace HB := Lib.hid (HB.out.trans (hb.mono HB.out.size))
          replace HS : Hid (w.heap.size + 3 ≤ W3.heap.size) := by have h1 := HS.out; have h2 := hb.size; show _ ≤ _; omega
          replace HLR := Lib.hid (HLR.out.below hb)
          have HS3 : Hid (w1.heap.size + 1 ≤ W3.heap.size) := by have := HRW.out.lt; show _ ≤ _; omega
          clear hW hb
          generalize w1.heap.size = b3 at *
          go_loopw [79] (fun i2 wx => ∃ (z : Int) (k : Nat) (l r : S) (vl : List S) (vo : Option Addr) (vn vc : Nat), i2 = .int .i64 z ∧ z = (k : Int) ∧ k ≤ 3 ∧ Hid (RestAt R gx ax i k l r vl) ∧ Hid (Box wx (w.heap.size + 1) [.string ⟨#[]⟩, .string ⟨#[]⟩, .slice none 0 0, .string ⟨#[]⟩, .string ⟨#[]⟩]) ∧ Hid (Box wx (w.heap.size + 2) [.string (bs gx), .string (bs ax), .slice vo vn vc, .string l, .string r]) ∧ Hid (Owns (b3 + 1) 9 1 strC wx (.slice vo vn vc) vl) ∧ Hid (Box wx b3 [.string ⟨#[108, 97, 116, 101, 115, 116]⟩, .string ⟨#[114, 101, 108, 101, 97, 115, 101]⟩, .string ⟨#[118, 101, 114, 115, 105, 111, 110, 115]⟩]) ∧ Hid (RowF w wx (w.heap.size + 3) (.slice (some ⟨bL, 0, none⟩) 1 Lc) [(i, .slice iao i.attrs.length iac, .slice iko i.kids.length ikc)]) ∧ Hid (w.heap.size + 3 ≤ wx.heap.size) ∧ Hid (b3 + 1 ≤ wx.heap.size) ∧ Hid (Below w.heap.size w wx)) (fun i2 _ => 3 - (intOf i2).toNat)
          case atStart => exact ⟨0, 0, _, _, [], none, 0, 0, rfl, rfl, by omega, ⟨HR4.out, rfl, rfl, rfl⟩, HZ, HM, Owns.nil, HRW, HLR, HS, HS3, HB⟩
          case round =>
            clear HZ HM HRW HLR HS HS3 HB HR4
            obtain ⟨z, k, l, r, vl, vo, vn, vc, rfl, hz, hk, HI, HZ, HM, HO, HRW, HLR, HS, HS3, HB⟩ := hrel
            obtain ⟨wp, rfl⟩ : ∃ wp : World, wp = wr := ⟨_, rfl⟩
            rcases (show k = 0 ∨ k = 1 ∨ k = 2 ∨ k = 3 by omega) with rfl | rfl | rfl | rfl
            · obtain rfl : z = 0 := hz
              obtain ⟨hr, rfl, rfl, rfl⟩ := HI.out
              have HR4 := Lib.hid hr
              clear hr HI hk
              have r0 := HRW.out.cell 0 _ rfl
              have r1 := HRW.out.cell 1 _ rfl
              have r2 := HRW.out.cell 2 _ rfl
              have rl := HRW.out.lt
              obtain ⟨b, hLo, hbl, c0, c1, c2, c3⟩ := row_at HLR.out.own (k := 0) rfl
              rw [show b = bL by cases hLo; rfl] at hbl c0 c1 c2 c3
              clear hLo
              simp only [Nat.zero_mul, Nat.zero_add] at c0 c1 c2 c3
              have HNI := Lib.hid (HLR.out.nodes _ (List.mem_singleton.2 rfl))
              have HKD := Lib.hid (refKids_x i nmL wp _ _ HNI.out (by have := lightT_kidl HLI.out; omega))
              unfold nodeV bs at HKD
              go_wp2_with fail
              refine HKD.out.mono ?_
              rintro e w4 ⟨v, K, rfl, hL, hc⟩
              have hb1 := hc.below
              have HKR : Hid (RowF w w4 (w.heap.size + 3) v K) := RowF.of hc HS.out
              have HKK := Lib.hid hL
              replace HZ := Lib.hid (HZ.out.below hb1 HZ.out.lt)
              replace HM := Lib.hid (HM.out.below hb1 HM.out.lt)
              replace HO := Lib.hid (HO.out.below hb1)
              replace HRW := Lib.hid (HRW.out.below hb1 HRW.out.lt)
              replace HLR := Lib.hid (HLR.out.below hb1)
              replace HS : Hid (w.heap.size + 3 ≤ w4.heap.size) := by have h1 := HS.out; have h2 := hb1.size; show _ ≤ _; omega
              replace HS3 : Hid (b3 + 1 ≤ w4.heap.size) := by have h1 := HS3.out; have h2 := hb1.size; show _ ≤ _; omega
              replace HB := Lib.hid (HB.out.trans (hb1.mono HB.out.size))
              obtain ⟨Ko, Kc, rfl⟩ := HKR.out.own.shape
              have HKL : Hid (K.length = (kidsF nmL i.kids).length) := by show _ = _; rw [← HKK.out, List.length_map]
              have HKM : Hid (K.length ≤ 300) := by
                have h1 := List.length_filter_le (isKid nmL) i.kids
                have h2 := lightT_kidl HLI.out
                have h3 := HKL.out
                unfold kidsF at h3
                show _ ≤ _; omega
              clear hb1 hL hc HKD c0 c1 c2 c3 hbl r0 r1 r2 rl HNI
              by_cases hn : K.length = 1
              · have g1 : decide ((1 : Int) < (K.length : Int)) = false := decide_eq_false (by omega)
                have g2 : decide (1 < K.length) = false := decide_eq_false (by omega)
                have g3 : ¬ (1 : Int) < (K.length : Int) := by omega

                have g4 : ((K.length : Int) == 0) = false := by rw [beq_eq_false_iff_ne]; omega
                have g5 : (K.length == 0) = false := by rw [beq_eq_false_iff_ne]; omega

                have HI3 : Hid (RestAt R gx ax i 1 (lastTx (kidsF nmL i.kids)) ⟨#[]⟩ []) := by
                  obtain ⟨y0, hy0⟩ : ∃ y0, K = [y0] := by
                    match K, hn with
                    | [y], _ => exact ⟨y, rfl⟩
                  have hkk := HKK.out
                  rw [hy0] at hkk
                  have ho := oneK_yes hkk
                  refine ⟨y0.1, by rw [HR4.out]; unfold readM4; rw [ho], ?_, rfl, rfl⟩
                  rw [← hkk]; rfl
                clear hn
                go_wp2
                clear g1 g2 g3 g4 g5
                go_loopw [106] (fun i3 wx => ∃ q : Nat, i3 = .int .i64 q ∧ q ≤ K.length ∧ Hid (Box wx (w.heap.size + 1) [.string ⟨#[]⟩, .string ⟨#[]⟩, .slice none 0 0, .string ⟨#[]⟩, .string ⟨#[]⟩]) ∧ Hid (Box wx (w.heap.size + 2) [.string (bs gx), .string (bs ax), .slice vo vn vc, .string (lastTx ((kidsF nmL i.kids).take q)), .string ⟨#[]⟩]) ∧ Hid (Owns (b3 + 1) 9 1 strC wx (.slice vo vn vc) []) ∧ Hid (Box wx b3 [.string ⟨#[108, 97, 116, 101, 115, 116]⟩, .string ⟨#[114, 101, 108, 101, 97, 115, 101]⟩, .string ⟨#[118, 101, 114, 115, 105, 111, 110, 115]⟩]) ∧ Hid (RowF w wx (w.heap.size + 3) (.slice (some ⟨bL, 0, none⟩) 1 Lc) [(i, .slice iao i.attrs.length iac, .slice iko i.kids.length ikc)]) ∧ Hid (RowF w wx (w.heap.size + 3) (.slice Ko K.length Kc) K) ∧ Hid (w.heap.size + 3 ≤ wx.heap.size) ∧ Hid (b3 + 1 ≤ wx.heap.size) ∧ Hid (Below w.heap.size w wx)) (fun i3 _ => K.length - (intOf i3).toNat)
                case atStart => exact ⟨0, rfl, Nat.zero_le _, HZ, HM, HO, HRW, HLR, HKR, HS, HS3, HB⟩
                case round =>
                  clear HZ HM HO HRW HLR HKR HS HS3 HB
                  obtain ⟨q, rfl, hq, HZ, HM, HO, HRW, HLR, HKR, HS, HS3, HB⟩ := hrel
                  obtain ⟨wq, rfl⟩ : ∃ wq : World, wq = wr := ⟨_, rfl⟩
                  by_cases hlt : q < K.length
                  · obtain ⟨b, hKo, hbl, c0, c1, c2, c3⟩ := row_at HKR.out.own (List.getElem?_eq_getElem hlt)
                    cases hKo
                    have HNY := Lib.hid (HKR.out.nodes K[q] (List.getElem_mem hlt))
                    have hkk : q < (kidsF nmL i.kids).length := by rw [← HKL.out]; exact hlt
                    have hyk : K[q].1 = (kidsF nmL i.kids)[q] := by
                      have h := HKK.out
                      have e : (K.map (·.1))[q]? = (kidsF nmL i.kids)[q]? := by rw [h]
                      rw [List.getElem?_map, List.getElem?_eq_getElem hlt, List.getElem?_eq_getElem hkk] at e
                      exact Option.some.inj e
                    have HLY : Hid (LightT K[q].1) := by show LightT _; rw [hyk]; exact kidsF_light HLI.out _ (List.getElem_mem hkk)
                    have HYT : Hid (lastTx ((kidsF nmL i.kids).take (q + 1)) = bs (tx K[q].1)) := by show _ = _; rw [lastTx_take hkk, hyk]
                    have HQL : Hid (q + 1 ≤ K.length) := hlt
                    have d1 : (q : Int) < (K.length : Int) := by omega
                    have wk : IntKind.i64.wrap ((q : Int) + 1) = (q : Int) + 1 := IntWalk.i64_in _ (by have := HKM.out; omega)
                    generalize K[q] = y at *
                    obtain ⟨y, yav, ykv⟩ := y
                    simp only at c0 c1 c2 c3 HNY HYT HLY
                    obtain ⟨yao, yac, yko, ykc, rfl, rfl, -, -⟩ := HNY.out.shape
                    have HTX : Hid (∀ W, Below wq.heap.size wq W → Calls Tryd.prog 52 #[nodeV y (.slice yao y.attrs.length yac) (.slice yko y.kids.length ykc)] W fun e w' => e = .returned (.string (bs (tx y))) ∧ Below W.heap.size W w') := fun W hb => refText23_any y W _ _ (HNY.out.later hb).node (by have := HLY.out.textL; omega)
                    unfold nodeV at HTX
                    generalize tx y = ty at *
                    clear HNY HLY hkk hyk hlt
                    go_upto_region 26 with fail
                    refine wp_world ?_
                    intro W1 hW
                    have HYB : Hid (Box W1 wq.heap.size [.string (bs y.name), .slice yao y.attrs.length yac, .slice yko y.kids.length ykc, .string (bs y.text)]) := by show Box _ _ _; rw [hW]; exact Box.new wq [.string (bs y.name), .slice yao y.attrs.length yac, .slice yko y.kids.length ykc, .string (bs y.text)] _ _ rfl
                    have hb : Below wq.heap.size wq W1 := by rw [hW]; exact (Below.refl _ _).alloc (Nat.le_refl _) _
                    clear hW c0 c1 c2 c3 hbl d1
                    have HBQ := Lib.hid hb
                    replace HZ := Lib.hid (HZ.out.below hb HZ.out.lt)
                    replace HM := Lib.hid (HM.out.below hb HM.out.lt)
                    replace HO := Lib.hid (HO.out.below hb)
                    replace HRW := Lib.hid (HRW.out.below hb HRW.out.lt)
                    replace HLR := Lib.hid (HLR.out.below hb)
                    replace HS : Hid (w.heap.size + 3 ≤ W1.heap.size) := by have h1 := HS.out; have h2 := hb.size; show _ ≤ _; omega
                    replace HS3 : Hid (b3 + 1 ≤ W1.heap.size) := by have h1 := HS3.out; have h2 := hb.size; show _ ≤ _; omega
                    replace HB := Lib.hid (HB.out.trans (hb.mono HB.out.size))
                    replace HKR := Lib.hid (HKR.out.below hb)
                    clear hb
                    have HTZ := Lib.hid (HTX.out W1 HBQ.out)
                    clear HTX HBQ
                    have x0 := HYB.out.cell 0 _ rfl
                    have x1 := HYB.out.cell 1 _ rfl
                    have x2 := HYB.out.cell 2 _ rfl
                    have x3 := HYB.out.cell 3 _ rfl
                    have xl := HYB.out.lt
                    go_wp2_with fail
                    refine HTZ.out.mono ?_
                    rintro e W2 ⟨rfl, hb⟩
                    replace HZ := Lib.hid (HZ.out.below hb HZ.out.lt)
                    replace HM := Lib.hid (HM.out.below hb HM.out.lt)
                    replace HO := Lib.hid (HO.out.below hb)
                    replace HRW := Lib.hid (HRW.out.below hb HRW.out.lt)
                    replace HLR := Lib.hid (HLR.out.below hb)
                    replace HS : Hid (w.heap.size + 3 ≤ W2.heap.size) := by have h1 := HS.out; have h2 := hb.size; show _ ≤ _; omega
                    replace HS3 : Hid (b3 + 1 ≤ W2.heap.size) := by have h1 := HS3.out; have h2 := hb.size; show _ ≤ _; omega
                    replace HB := Lib.hid (HB.out.trans (hb.mono HB.out.size))
                    replace HKR := Lib.hid (HKR.out.below hb)
                    clear hb HTZ x0 x1 x2 x3 xl HYB
                    have mk := HM.out.cell 3 _ rfl
                    have ml := HM.out.lt
                    have mf := HM.out.free 3
                    go_upto_region 36 with fail
                    refine wp_world ?_
                    intro W3 hW
                    have HM3 : Hid (Box W3 (w.heap.size + 2) [.string (bs gx), .string (bs ax), .slice vo vn vc, .string (lastTx ((kidsF nmL i.kids).take (q + 1))), .string ⟨#[]⟩]) := by show Box _ _ _; rw [hW, show lastTx _ = bs ty from HYT.out]; exact HM.out.set 3 _
                    have hg : W2.grownBy W3 (some (w.heap.size + 2)) := by rw [hW]; exact setCell_grown _ _ _ _
                    replace HZ := Lib.hid (HZ.out.grown hg (by simp))
                    replace HO := Lib.hid (HO.out.keptR hg (by have := HBN3.out; omega))
                    replace HRW := Lib.hid (HRW.out.grown hg (by have := HBN3.out; simp; omega))
                    replace HLR := Lib.hid (HLR.out.put hg (by omega) (by omega))
                    replace HS : Hid (w.heap.size + 3 ≤ W3.heap.size) := by have h1 := HS.out; have h2 := hg.size; show _ ≤ _; omega
                    replace HS3 : Hid (b3 + 1 ≤ W3.heap.size) := by have h1 := HS3.out; have h2 := hg.size; show _ ≤ _; omega
                    replace HB := Lib.hid (grB HB.out hg (by omega) (Nat.le_refl _))
                    replace HKR := Lib.hid (HKR.out.put hg (by omega) (by omega))
                    clear hW hg mk ml mf HM
                    go_wp2
                    go_roundw
                    case rel => exact ⟨q + 1, by first | rfl | go_num, HQL.out, HZ, HM3, HO, HRW, HLR, HKR, HS, HS3, HB⟩
                    case measure => simp [intOf]; have := HQL.out; omega
                  · obtain rfl : q = K.length := by omega
                    have d1 : ¬ (K.length : Int) < (K.length : Int) := by omega
                    have HM1 := HM.out
                    rw [List.take_of_length_le (by rw [HKL.out]; exact Nat.le_refl _)] at HM1
                    replace HM := Lib.hid HM1
                    clear HM1 HKR HKK
                    go_wp2
                    go_roundw
                    case rel => exact ⟨1, 1, _, _, [], vo, vn, vc, by first | rfl | go_num, rfl, by omega, HI3, HZ, HM, HO, HRW, HLR, HS, HS3, HB⟩
                    case measure => simp [intOf]
              · have HBAD : Hid (oneK nmL i = none) := oneK_no HKK.out hn
                by_cases hz0 : K.length = 0
                · have g1 : decide ((1 : Int) < (K.length : Int)) = false := decide_eq_false (by omega)
                  have g2 : decide (1 < K.length) = false := decide_eq_false (by omega)
                  have g3 : ¬ (1 : Int) < (K.length : Int) := by omega

                  have g4 : ((K.length : Int) == 0) = true := by rw [beq_iff_eq]; omega
                  have g5 : (K.length == 0) = true := by rw [beq_iff_eq]; omega

                  clear hz0 hn HKR HKK
                  have HRE : Hid (R = .error erL) := by show _ = _; rw [HR4.out]; unfold readM4; rw [HBAD.out]
                  have hcat20 : (⟨#[109, 101, 116, 97, 100, 97, 116, 97, 47, 118, 101, 114, 115, 105, 111, 110, 105, 110, 103, 47]⟩ : S) ++ ⟨#[108, 97, 116, 101, 115, 116]⟩ = ⟨#[109, 101, 116, 97, 100, 97, 116, 97, 47, 118, 101, 114, 115, 105, 111, 110, 105, 110, 103, 47, 108, 97, 116, 101, 115, 116]⟩ := by decide
                  have hcat26 : (⟨#[109, 101, 116, 97, 100, 97, 116, 97, 47, 118, 101, 114, 115, 105, 111, 110, 105, 110, 103, 47, 108, 97, 116, 101, 115, 116]⟩ : S) ++ ⟨#[33]⟩ = ⟨#[109, 101, 116, 97, 100, 97, 116, 97, 47, 118, 101, 114, 115, 105, 111, 110, 105, 110, 103, 47, 108, 97, 116, 101, 115, 116, 33]⟩ := by decide
                  go_wp2_with ((with_reducible show wpList _ _ _ (Oper.mk none (Op.store 31 (.tmp 2) (.tmp 100)) _ _ _ _ :: _) _ _); refine wpList_store_box rfl 31 (.tmp 2) (.tmp 100) rfl (w.heap.size + 1) _ [.string ⟨#[]⟩, .string ⟨#[]⟩, .slice none 0 0, .string ⟨#[]⟩, .string ⟨#[]⟩] rfl rfl HZ.out rfl (by kernel_rfl) (by simp [Value.oneCell']) ?_; intro W7 v7 hg7; have HV7 := Lib.hid v7; have HB7 := Lib.hid (grB HB.out hg7 (by omega) (Nat.le_refl _)); clear v7 hg7)
                  have z0 := HV7.out.cell 0 _ rfl
                  have z1 := HV7.out.cell 1 _ rfl
                  have z2 := HV7.out.cell 2 _ rfl
                  have z3 := HV7.out.cell 3 _ rfl
                  have z4 := HV7.out.cell 4 _ rfl
                  have zl := HV7.out.lt
                  clear HZ HM HB
                  go_wp2
                  refine bodyPost_ret (v := .tuple #[.agg metaZ.toArray, .string ⟨#[109, 101, 116, 97, 100, 97, 116, 97, 47, 118, 101, 114, 115, 105, 111, 110, 105, 110, 103, 47, 108, 97, 116, 101, 115, 116, 33]⟩]) (by simp [results, Tryd.results24, go_sem, z0, z1, z2, z3, z4, metaZ]) rfl ?_
                  rw [HRE.out]
                  exact ⟨HB7.out, rfl⟩
                · have g1 : decide ((1 : Int) < (K.length : Int)) = true := decide_eq_true (by omega)
                  have g2 : decide (1 < K.length) = true := decide_eq_true (by omega)
                  have g3 : (1 : Int) < (K.length : Int) := by omega

                  clear hz0 hn HKR HKK
                  have HRE : Hid (R = .error erL) := by show _ = _; rw [HR4.out]; unfold readM4; rw [HBAD.out]
                  have hcat20 : (⟨#[109, 101, 116, 97, 100, 97, 116, 97, 47, 118, 101, 114, 115, 105, 111, 110, 105, 110, 103, 47]⟩ : S) ++ ⟨#[108, 97, 116, 101, 115, 116]⟩ = ⟨#[109, 101, 116, 97, 100, 97, 116, 97, 47, 118, 101, 114, 115, 105, 111, 110, 105, 110, 103, 47, 108, 97, 116, 101, 115, 116]⟩ := by decide
                  have hcat26 : (⟨#[109, 101, 116, 97, 100, 97, 116, 97, 47, 118, 101, 114, 115, 105, 111, 110, 105, 110, 103, 47, 108, 97, 116, 101, 115, 116]⟩ : S) ++ ⟨#[33]⟩ = ⟨#[109, 101, 116, 97, 100, 97, 116, 97, 47, 118, 101, 114, 115, 105, 111, 110, 105, 110, 103, 47, 108, 97, 116, 101, 115, 116, 33]⟩ := by decide
                  go_wp2_with ((with_reducible show wpList _ _ _ (Oper.mk none (Op.store 31 (.tmp 2) (.tmp 100)) _ _ _ _ :: _) _ _); refine wpList_store_box rfl 31 (.tmp 2) (.tmp 100) rfl (w.heap.size + 1) _ [.string ⟨#[]⟩, .string ⟨#[]⟩, .slice none 0 0, .string ⟨#[]⟩, .string ⟨#[]⟩] rfl rfl HZ.out rfl (by kernel_rfl) (by simp [Value.oneCell']) ?_; intro W7 v7 hg7; have HV7 := Lib.hid v7; have HB7 := Lib.hid (grB HB.out hg7 (by omega) (Nat.le_refl _)); clear v7 hg7)
                  have z0 := HV7.out.cell 0 _ rfl
                  have z1 := HV7.out.cell 1 _ rfl
                  have z2 := HV7.out.cell 2 _ rfl
                  have z3 := HV7.out.cell 3 _ rfl
                  have z4 := HV7.out.cell 4 _ rfl
                  have zl := HV7.out.lt
                  clear HZ HM HB
                  go_wp2
                  refine bodyPost_ret (v := .tuple #[.agg metaZ.toArray, .string ⟨#[109, 101, 116, 97, 100, 97, 116, 97, 47, 118, 101, 114, 115, 105, 111, 110, 105, 110, 103, 47, 108, 97, 116, 101, 115, 116, 33]⟩]) (by simp [results, Tryd.results24, go_sem, z0, z1, z2, z3, z4, metaZ]) rfl ?_
                  rw [HRE.out]
                  exact ⟨HB7.out, rfl⟩
            · obtain rfl : z = 1 := hz
              obtain ⟨la, hr, rfl, rfl, rfl⟩ := HI.out
              have HR5 := Lib.hid hr
              clear hr HI hk
              have r0 := HRW.out.cell 0 _ rfl
              have r1 := HRW.out.cell 1 _ rfl
              have r2 := HRW.out.cell 2 _ rfl
              have rl := HRW.out.lt
              obtain ⟨b, hLo, hbl, c0, c1, c2, c3⟩ := row_at HLR.out.own (k := 0) rfl
              rw [show b = bL by cases hLo; rfl] at hbl c0 c1 c2 c3
              clear hLo
              simp only [Nat.zero_mul, Nat.zero_add] at c0 c1 c2 c3
              have HNI := Lib.hid (HLR.out.nodes _ (List.mem_singleton.2 rfl))
              have HKD := Lib.hid (refKids_x i nmR wp _ _ HNI.out (by have := lightT_kidl HLI.out; omega))
              unfold nodeV bs at HKD
              go_wp2_with fail
              refine HKD.out.mono ?_
              rintro e w4 ⟨v, K, rfl, hL, hc⟩
              have hb1 := hc.below
              have HKR : Hid (RowF w w4 (w.heap.size + 3) v K) := RowF.of hc HS.out
              have HKK := Lib.hid hL
              replace HZ := Lib.hid (HZ.out.below hb1 HZ.out.lt)
              replace HM := Lib.hid (HM.out.below hb1 HM.out.lt)
              replace HO := Lib.hid (HO.out.below hb1)
              replace HRW := Lib.hid (HRW.out.below hb1 HRW.out.lt)
              replace HLR := Lib.hid (HLR.out.below hb1)
              replace HS : Hid (w.heap.size + 3 ≤ w4.heap.size) := by have h1 := HS.out; have h2 := hb1.size; show _ ≤ _; omega
              replace HS3 : Hid (b3 + 1 ≤ w4.heap.size) := by have h1 := HS3.out; have h2 := hb1.size; show _ ≤ _; omega
              replace HB := Lib.hid (HB.out.trans (hb1.mono HB.out.size))
              obtain ⟨Ko, Kc, rfl⟩ := HKR.out.own.shape
              have HKL : Hid (K.length = (kidsF nmR i.kids).length) := by show _ = _; rw [← HKK.out, List.length_map]
              have HKM : Hid (K.length ≤ 300) := by
                have h1 := List.length_filter_le (isKid nmR) i.kids
                have h2 := lightT_kidl HLI.out
                have h3 := HKL.out
                unfold kidsF at h3
                show _ ≤ _; omega
              clear hb1 hL hc HKD c0 c1 c2 c3 hbl r0 r1 r2 rl HNI
              by_cases hn : 1 < K.length
              · have g1 : decide ((1 : Int) < (K.length : Int)) = true := decide_eq_true (by omega)
                have g2 : decide (1 < K.length) = true := decide_eq_true (by omega)
                have g3 : (1 : Int) < (K.length : Int) := by omega

                have HYES : Hid (1 < (kidsF nmR i.kids).length) := by rw [← HKL.out]; exact hn
                clear hn HKR HKK
                have HRE : Hid (R = .error erR) := by show _ = _; rw [HR5.out]; unfold readM5; rw [if_pos HYES.out]
                have hcat20 : (⟨#[109, 101, 116, 97, 100, 97, 116, 97, 47, 118, 101, 114, 115, 105, 111, 110, 105, 110, 103, 47]⟩ : S) ++ ⟨#[114, 101, 108, 101, 97, 115, 101]⟩ = ⟨#[109, 101, 116, 97, 100, 97, 116, 97, 47, 118, 101, 114, 115, 105, 111, 110, 105, 110, 103, 47, 114, 101, 108, 101, 97, 115, 101]⟩ := by decide
                have hcat27 : (⟨#[109, 101, 116, 97, 100, 97, 116, 97, 47, 118, 101, 114, 115, 105, 111, 110, 105, 110, 103, 47, 114, 101, 108, 101, 97, 115, 101]⟩ : S) ++ ⟨#[33]⟩ = ⟨#[109, 101, 116, 97, 100, 97, 116, 97, 47, 118, 101, 114, 115, 105, 111, 110, 105, 110, 103, 47, 114, 101, 108, 101, 97, 115, 101, 33]⟩ := by decide
                go_wp2_with ((with_reducible show wpList _ _ _ (Oper.mk none (Op.store 31 (.tmp 2) (.tmp 100)) _ _ _ _ :: _) _ _); refine wpList_store_box rfl 31 (.tmp 2) (.tmp 100) rfl (w.heap.size + 1) _ [.string ⟨#[]⟩, .string ⟨#[]⟩, .slice none 0 0, .string ⟨#[]⟩, .string ⟨#[]⟩] rfl rfl HZ.out rfl (by kernel_rfl) (by simp [Value.oneCell']) ?_; intro W7 v7 hg7; have HV7 := Lib.hid v7; have HB7 := Lib.hid (grB HB.out hg7 (by omega) (Nat.le_refl _)); clear v7 hg7)
                have z0 := HV7.out.cell 0 _ rfl
                have z1 := HV7.out.cell 1 _ rfl
                have z2 := HV7.out.cell 2 _ rfl
                have z3 := HV7.out.cell 3 _ rfl
                have z4 := HV7.out.cell 4 _ rfl
                have zl := HV7.out.lt
                clear HZ HM HB
                go_wp2
                refine bodyPost_ret (v := .tuple #[.agg metaZ.toArray, .string ⟨#[109, 101, 116, 97, 100, 97, 116, 97, 47, 118, 101, 114, 115, 105, 111, 110, 105, 110, 103, 47, 114, 101, 108, 101, 97, 115, 101, 33]⟩]) (by simp [results, Tryd.results24, go_sem, z0, z1, z2, z3, z4, metaZ]) rfl ?_
                rw [HRE.out]
                exact ⟨HB7.out, rfl⟩
              · have g1 : decide ((1 : Int) < (K.length : Int)) = false := decide_eq_false (by omega)
                have g2 : decide (1 < K.length) = false := decide_eq_false (by omega)
                have g3 : ¬ (1 : Int) < (K.length : Int) := by omega

                have HNOT : Hid (¬ 1 < (kidsF nmR i.kids).length) := by rw [← HKL.out]; exact hn
                have HI3 : Hid (RestAt R gx ax i 2 (bs (tx la)) (lastTx (kidsF nmR i.kids)) []) := ⟨la, HR5.out, HNOT.out, rfl, rfl, rfl⟩
                by_cases hz0 : K.length = 0
                · have g4 : ((K.length : Int) == 0) = true := by rw [beq_iff_eq]; omega
                  have g5 : (K.length == 0) = true := by rw [beq_iff_eq]; omega

                  clear hz0 hn
                  go_wp2
                  clear g1 g2 g3 g4 g5
                  go_loopw [106] (fun i3 wx => ∃ q : Nat, i3 = .int .i64 q ∧ q ≤ K.length ∧ Hid (Box wx (w.heap.size + 1) [.string ⟨#[]⟩, .string ⟨#[]⟩, .slice none 0 0, .string ⟨#[]⟩, .string ⟨#[]⟩]) ∧ Hid (Box wx (w.heap.size + 2) [.string (bs gx), .string (bs ax), .slice vo vn vc, .string (bs (tx la)), .string (lastTx ((kidsF nmR i.kids).take q))]) ∧ Hid (Owns (b3 + 1) 9 1 strC wx (.slice vo vn vc) []) ∧ Hid (Box wx b3 [.string ⟨#[108, 97, 116, 101, 115, 116]⟩, .string ⟨#[114, 101, 108, 101, 97, 115, 101]⟩, .string ⟨#[118, 101, 114, 115, 105, 111, 110, 115]⟩]) ∧ Hid (RowF w wx (w.heap.size + 3) (.slice (some ⟨bL, 0, none⟩) 1 Lc) [(i, .slice iao i.attrs.length iac, .slice iko i.kids.length ikc)]) ∧ Hid (RowF w wx (w.heap.size + 3) (.slice Ko K.length Kc) K) ∧ Hid (w.heap.size + 3 ≤ wx.heap.size) ∧ Hid (b3 + 1 ≤ wx.heap.size) ∧ Hid (Below w.heap.size w wx)) (fun i3 _ => K.length - (intOf i3).toNat)
                  case atStart => exact ⟨0, rfl, Nat.zero_le _, HZ, HM, HO, HRW, HLR, HKR, HS, HS3, HB⟩
                  case round =>
                    clear HZ HM HO HRW HLR HKR HS HS3 HB
                    obtain ⟨q, rfl, hq, HZ, HM, HO, HRW, HLR, HKR, HS, HS3, HB⟩ := hrel
                    obtain ⟨wq, rfl⟩ : ∃ wq : World, wq = wr := ⟨_, rfl⟩
                    by_cases hlt : q < K.length
                    · obtain ⟨b, hKo, hbl, c0, c1, c2, c3⟩ := row_at HKR.out.own (List.getElem?_eq_getElem hlt)
                      cases hKo
                      have HNY := Lib.hid (HKR.out.nodes K[q] (List.getElem_mem hlt))
                      have hkk : q < (kidsF nmR i.kids).length := by rw [← HKL.out]; exact hlt
                      have hyk : K[q].1 = (kidsF nmR i.kids)[q] := by
                        have h := HKK.out
                        have e : (K.map (·.1))[q]? = (kidsF nmR i.kids)[q]? := by rw [h]
                        rw [List.getElem?_map, List.getElem?_eq_getElem hlt, List.getElem?_eq_getElem hkk] at e
                        exact Option.some.inj e
                      have HLY : Hid (LightT K[q].1) := by show LightT _; rw [hyk]; exact kidsF_light HLI.out _ (List.getElem_mem hkk)
                      have HYT : Hid (lastTx ((kidsF nmR i.kids).take (q + 1)) = bs (tx K[q].1)) := by show _ = _; rw [lastTx_take hkk, hyk]
                      have HQL : Hid (q + 1 ≤ K.length) := hlt
                      have d1 : (q : Int) < (K.length : Int) := by omega
                      have wk : IntKind.i64.wrap ((q : Int) + 1) = (q : Int) + 1 := IntWalk.i64_in _ (by have := HKM.out; omega)
                      generalize K[q] = y at *
                      obtain ⟨y, yav, ykv⟩ := y
                      simp only at c0 c1 c2 c3 HNY HYT HLY
                      obtain ⟨yao, yac, yko, ykc, rfl, rfl, -, -⟩ := HNY.out.shape
                      have HTX : Hid (∀ W, Below wq.heap.size wq W → Calls Tryd.prog 52 #[nodeV y (.slice yao y.attrs.length yac) (.slice yko y.kids.length ykc)] W fun e w' => e = .returned (.string (bs (tx y))) ∧ Below W.heap.size W w') := fun W hb => refText23_any y W _ _ (HNY.out.later hb).node (by have := HLY.out.textL; omega)
                      unfold nodeV at HTX
                      generalize tx y = ty at *
                      clear HNY HLY hkk hyk hlt
                      go_upto_region 26 with fail
                      refine wp_world ?_
                      intro W1 hW
                      have HYB : Hid (Box W1 wq.heap.size [.string (bs y.name), .slice yao y.attrs.length yac, .slice yko y.kids.length ykc, .string (bs y.text)]) := by show Box _ _ _; rw [hW]; exact Box.new wq [.string (bs y.name), .slice yao y.attrs.length yac, .slice yko y.kids.length ykc, .string (bs y.text)] _ _ rfl
                      have hb : Below wq.heap.size wq W1 := by rw [hW]; exact (Below.refl _ _).alloc (Nat.le_refl _) _
                      clear hW c0 c1 c2 c3 hbl d1
                      have HBQ := Lib.hid hb
                      replace HZ := Lib.hid (HZ.out.below hb HZ.out.lt)
                      replace HM := Lib.hid (HM.out.below hb HM.out.lt)
                      replace HO := Lib.hid (HO.out.below hb)
                      replace HRW := Lib.hid (HRW.out.below hb HRW.out.lt)
                      replace HLR := Lib.hid (HLR.out.below hb)
                      replace HS : Hid (w.heap.size + 3 ≤ W1.heap.size) := by have h1 := HS.out; have h2 := hb.size; show _ ≤ _; omega
                      replace HS3 : Hid (b3 + 1 ≤ W1.heap.size) := by have h1 := HS3.out; have h2 := hb.size; show _ ≤ _; omega
                      replace HB := Lib.hid (HB.out.trans (hb.mono HB.out.size))
                      replace HKR := Lib.hid (HKR.out.below hb)
                      clear hb
                      have HTZ := Lib.hid (HTX.out W1 HBQ.out)
                      clear HTX HBQ
                      have x0 := HYB.out.cell 0 _ rfl
                      have x1 := HYB.out.cell 1 _ rfl
                      have x2 := HYB.out.cell 2 _ rfl
                      have x3 := HYB.out.cell 3 _ rfl
                      have xl := HYB.out.lt
                      go_wp2_with fail
                      refine HTZ.out.mono ?_
                      rintro e W2 ⟨rfl, hb⟩
                      replace HZ := Lib.hid (HZ.out.below hb HZ.out.lt)
                      replace HM := Lib.hid (HM.out.below hb HM.out.lt)
                      replace HO := Lib.hid (HO.out.below hb)
                      replace HRW := Lib.hid (HRW.out.below hb HRW.out.lt)
                      replace HLR := Lib.hid (HLR.out.below hb)
                      replace HS : Hid (w.heap.size + 3 ≤ W2.heap.size) := by have h1 := HS.out; have h2 := hb.size; show _ ≤ _; omega
                      replace HS3 : Hid (b3 + 1 ≤ W2.heap.size) := by have h1 := HS3.out; have h2 := hb.size; show _ ≤ _; omega
                      replace HB := Lib.hid (HB.out.trans (hb.mono HB.out.size))
                      replace HKR := Lib.hid (HKR.out.below hb)
                      clear hb HTZ x0 x1 x2 x3 xl HYB
                      have mk := HM.out.cell 4 _ rfl
                      have ml := HM.out.lt
                      have mf := HM.out.free 4
                      go_upto_region 36 with fail
                      refine wp_world ?_
                      intro W3 hW
                      have HM3 : Hid (Box W3 (w.heap.size + 2) [.string (bs gx), .string (bs ax), .slice vo vn vc, .string (bs (tx la)), .string (lastTx ((kidsF nmR i.kids).take (q + 1)))]) := by show Box _ _ _; rw [hW, show lastTx _ = bs ty from HYT.out]; exact HM.out.set 4 _
                      have hg : W2.grownBy W3 (some (w.heap.size + 2)) := by rw [hW]; exact setCell_grown _ _ _ _
                      replace HZ := Lib.hid (HZ.out.grown hg (by simp))
                      replace HO := Lib.hid (HO.out.keptR hg (by have := HBN3.out; omega))
                      replace HRW := Lib.hid (HRW.out.grown hg (by have := HBN3.out; simp; omega))
                      replace HLR := Lib.hid (HLR.out.put hg (by omega) (by omega))
                      replace HS : Hid (w.heap.size + 3 ≤ W3.heap.size) := by have h1 := HS.out; have h2 := hg.size; show _ ≤ _; omega
                      replace HS3 : Hid (b3 + 1 ≤ W3.heap.size) := by have h1 := HS3.out; have h2 := hg.size; show _ ≤ _; omega
                      replace HB := Lib.hid (grB HB.out hg (by omega) (Nat.le_refl _))
                      replace HKR := Lib.hid (HKR.out.put hg (by omega) (by omega))
                      clear hW hg mk ml mf HM
                      go_wp2
                      go_roundw
                      case rel => exact ⟨q + 1, by first | rfl | go_num, HQL.out, HZ, HM3, HO, HRW, HLR, HKR, HS, HS3, HB⟩
                      case measure => simp [intOf]; have := HQL.out; omega
                    · obtain rfl : q = K.length := by omega
                      have d1 : ¬ (K.length : Int) < (K.length : Int) := by omega
                      have HM1 := HM.out
                      rw [List.take_of_length_le (by rw [HKL.out]; exact Nat.le_refl _)] at HM1
                      replace HM := Lib.hid HM1
                      clear HM1 HKR HKK
                      go_wp2
                      go_roundw
                      case rel => exact ⟨2, 2, _, _, [], vo, vn, vc, by first | rfl | go_num, rfl, by omega, HI3, HZ, HM, HO, HRW, HLR, HS, HS3, HB⟩
                      case measure => simp [intOf]
                · have g4 : ((K.length : Int) == 0) = false := by rw [beq_eq_false_iff_ne]; omega
                  have g5 : (K.length == 0) = false := by rw [beq_eq_false_iff_ne]; omega

                  clear hz0 hn
                  go_wp2
                  clear g1 g2 g3 g4 g5
                  go_loopw [106] (fun i3 wx => ∃ q : Nat, i3 = .int .i64 q ∧ q ≤ K.length ∧ Hid (Box wx (w.heap.size + 1) [.string ⟨#[]⟩, .string ⟨#[]⟩, .slice none 0 0, .string ⟨#[]⟩, .string ⟨#[]⟩]) ∧ Hid (Box wx (w.heap.size + 2) [.string (bs gx), .string (bs ax), .slice vo vn vc, .string (bs (tx la)), .string (lastTx ((kidsF nmR i.kids).take q))]) ∧ Hid (Owns (b3 + 1) 9 1 strC wx (.slice vo vn vc) []) ∧ Hid (Box wx b3 [.string ⟨#[108, 97, 116, 101, 115, 116]⟩, .string ⟨#[114, 101, 108, 101, 97, 115, 101]⟩, .string ⟨#[118, 101, 114, 115, 105, 111, 110, 115]⟩]) ∧ Hid (RowF w wx (w.heap.size + 3) (.slice (some ⟨bL, 0, none⟩) 1 Lc) [(i, .slice iao i.attrs.length iac, .slice iko i.kids.length ikc)]) ∧ Hid (RowF w wx (w.heap.size + 3) (.slice Ko K.length Kc) K) ∧ Hid (w.heap.size + 3 ≤ wx.heap.size) ∧ Hid (b3 + 1 ≤ wx.heap.size) ∧ Hid (Below w.heap.size w wx)) (fun i3 _ => K.length - (intOf i3).toNat)
                  case atStart => exact ⟨0, rfl, Nat.zero_le _, HZ, HM, HO, HRW, HLR, HKR, HS, HS3, HB⟩
                  case round =>
                    clear HZ HM HO HRW HLR HKR HS HS3 HB
                    obtain ⟨q, rfl, hq, HZ, HM, HO, HRW, HLR, HKR, HS, HS3, HB⟩ := hrel
                    obtain ⟨wq, rfl⟩ : ∃ wq : World, wq = wr := ⟨_, rfl⟩
                    by_cases hlt : q < K.length
                    · obtain ⟨b, hKo, hbl, c0, c1, c2, c3⟩ := row_at HKR.out.own (List.getElem?_eq_getElem hlt)
                      cases hKo
                      have HNY := Lib.hid (HKR.out.nodes K[q] (List.getElem_mem hlt))
                      have hkk : q < (kidsF nmR i.kids).length := by rw [← HKL.out]; exact hlt
                      have hyk : K[q].1 = (kidsF nmR i.kids)[q] := by
                        have h := HKK.out
                        have e : (K.map (·.1))[q]? = (kidsF nmR i.kids)[q]? := by rw [h]
                        rw [List.getElem?_map, List.getElem?_eq_getElem hlt, List.getElem?_eq_getElem hkk] at e
                        exact Option.some.inj e
                      have HLY : Hid (LightT K[q].1) := by show LightT _; rw [hyk]; exact kidsF_light HLI.out _ (List.getElem_mem hkk)
                      have HYT : Hid (lastTx ((kidsF nmR i.kids).take (q + 1)) = bs (tx K[q].1)) := by show _ = _; rw [lastTx_take hkk, hyk]
                      have HQL : Hid (q + 1 ≤ K.length) := hlt
                      have d1 : (q : Int) < (K.length : Int) := by omega
                      have wk : IntKind.i64.wrap ((q : Int) + 1) = (q : Int) + 1 := IntWalk.i64_in _ (by have := HKM.out; omega)
                      generalize K[q] = y at *
                      obtain ⟨y, yav, ykv⟩ := y
                      simp only at c0 c1 c2 c3 HNY HYT HLY
                      obtain ⟨yao, yac, yko, ykc, rfl, rfl, -, -⟩ := HNY.out.shape
                      have HTX : Hid (∀ W, Below wq.heap.size wq W → Calls Tryd.prog 52 #[nodeV y (.slice yao y.attrs.length yac) (.slice yko y.kids.length ykc)] W fun e w' => e = .returned (.string (bs (tx y))) ∧ Below W.heap.size W w') := fun W hb => refText23_any y W _ _ (HNY.out.later hb).node (by have := HLY.out.textL; omega)
                      unfold nodeV at HTX
                      generalize tx y = ty at *
                      clear HNY HLY hkk hyk hlt
                      go_upto_region 26 with fail
                      refine wp_world ?_
                      intro W1 hW
                      have HYB : Hid (Box W1 wq.heap.size [.string (bs y.name), .slice yao y.attrs.length yac, .slice yko y.kids.length ykc, .string (bs y.text)]) := by show Box _ _ _; rw [hW]; exact Box.new wq [.string (bs y.name), .slice yao y.attrs.length yac, .slice yko y.kids.length ykc, .string (bs y.text)] _ _ rfl
                      have hb : Below wq.heap.size wq W1 := by rw [hW]; exact (Below.refl _ _).alloc (Nat.le_refl _) _
                      clear hW c0 c1 c2 c3 hbl d1
                      have HBQ := Lib.hid hb
                      replace HZ := Lib.hid (HZ.out.below hb HZ.out.lt)
                      replace HM := Lib.hid (HM.out.below hb HM.out.lt)
                      replace HO := Lib.hid (HO.out.below hb)
                      replace HRW := Lib.hid (HRW.out.below hb HRW.out.lt)
                      replace HLR := Lib.hid (HLR.out.below hb)
                      replace HS : Hid (w.heap.size + 3 ≤ W1.heap.size) := by have h1 := HS.out; have h2 := hb.size; show _ ≤ _; omega
                      replace HS3 : Hid (b3 + 1 ≤ W1.heap.size) := by have h1 := HS3.out; have h2 := hb.size; show _ ≤ _; omega
                      replace HB := Lib.hid (HB.out.trans (hb.mono HB.out.size))
                      replace HKR := Lib.hid (HKR.out.below hb)
                      clear hb
                      have HTZ := Lib.hid (HTX.out W1 HBQ.out)
                      clear HTX HBQ
                      have x0 := HYB.out.cell 0 _ rfl
                      have x1 := HYB.out.cell 1 _ rfl
                      have x2 := HYB.out.cell 2 _ rfl
                      have x3 := HYB.out.cell 3 _ rfl
                      have xl := HYB.out.lt
                      go_wp2_with fail
                      refine HTZ.out.mono ?_
                      rintro e W2 ⟨rfl, hb⟩
                      replace HZ := Lib.hid (HZ.out.below hb HZ.out.lt)
                      replace HM := Lib.hid (HM.out.below hb HM.out.lt)
                      replace HO := Lib.hid (HO.out.below hb)
                      replace HRW := Lib.hid (HRW.out.below hb HRW.out.lt)
                      replace HLR := Lib.hid (HLR.out.below hb)
                      replace HS : Hid (w.heap.size + 3 ≤ W2.heap.size) := by have h1 := HS.out; have h2 := hb.size; show _ ≤ _; omega
                      replace HS3 : Hid (b3 + 1 ≤ W2.heap.size) := by have h1 := HS3.out; have h2 := hb.size; show _ ≤ _; omega
                      replace HB := Lib.hid (HB.out.trans (hb.mono HB.out.size))
                      replace HKR := Lib.hid (HKR.out.below hb)
                      clear hb HTZ x0 x1 x2 x3 xl HYB
                      have mk := HM.out.cell 4 _ rfl
                      have ml := HM.out.lt
                      have mf := HM.out.free 4
                      go_upto_region 36 with fail
                      refine wp_world ?_
                      intro W3 hW
                      have HM3 : Hid (Box W3 (w.heap.size + 2) [.string (bs gx), .string (bs ax), .slice vo vn vc, .string (bs (tx la)), .string (lastTx ((kidsF nmR i.kids).take (q + 1)))]) := by show Box _ _ _; rw [hW, show lastTx _ = bs ty from HYT.out]; exact HM.out.set 4 _
                      have hg : W2.grownBy W3 (some (w.heap.size + 2)) := by rw [hW]; exact setCell_grown _ _ _ _
                      replace HZ := Lib.hid (HZ.out.grown hg (by simp))
                      replace HO := Lib.hid (HO.out.keptR hg (by have := HBN3.out; omega))
                      replace HRW := Lib.hid (HRW.out.grown hg (by have := HBN3.out; simp; omega))
                      replace HLR := Lib.hid (HLR.out.put hg (by omega) (by omega))
                      replace HS : Hid (w.heap.size + 3 ≤ W3.heap.size) := by have h1 := HS.out; have h2 := hg.size; show _ ≤ _; omega
                      replace HS3 : Hid (b3 + 1 ≤ W3.heap.size) := by have h1 := HS3.out; have h2 := hg.size; show _ ≤ _; omega
                      replace HB := Lib.hid (grB HB.out hg (by omega) (Nat.le_refl _))
                      replace HKR := Lib.hid (HKR.out.put hg (by omega) (by omega))
                      clear hW hg mk ml mf HM
                      go_wp2
                      go_roundw
                      case rel => exact ⟨q + 1, by first | rfl | go_num, HQL.out, HZ, HM3, HO, HRW, HLR, HKR, HS, HS3, HB⟩
                      case measure => simp [intOf]; have := HQL.out; omega
                    · obtain rfl : q = K.length := by omega
                      have d1 : ¬ (K.length : Int) < (K.length : Int) := by omega
                      have HM1 := HM.out
                      rw [List.take_of_length_le (by rw [HKL.out]; exact Nat.le_refl _)] at HM1
                      replace HM := Lib.hid HM1
                      clear HM1 HKR HKK
                      go_wp2
                      go_roundw
                      case rel => exact ⟨2, 2, _, _, [], vo, vn, vc, by first | rfl | go_num, rfl, by omega, HI3, HZ, HM, HO, HRW, HLR, HS, HS3, HB⟩
                      case measure => simp [intOf]
            · obtain rfl : z = 2 := hz
              obtain ⟨la, hr, hnr, rfl, rfl, rfl⟩ := HI.out
              have HR5 := Lib.hid hr
              have HNR := Lib.hid hnr
              clear hr HI hk hnr
              have r0 := HRW.out.cell 0 _ rfl
              have r1 := HRW.out.cell 1 _ rfl
              have r2 := HRW.out.cell 2 _ rfl
              have rl := HRW.out.lt
              obtain ⟨b, hLo, hbl, c0, c1, c2, c3⟩ := row_at HLR.out.own (k := 0) rfl
              rw [show b = bL by cases hLo; rfl] at hbl c0 c1 c2 c3
              clear hLo
              simp only [Nat.zero_mul, Nat.zero_add] at c0 c1 c2 c3
              have HNI := Lib.hid (HLR.out.nodes _ (List.mem_singleton.2 rfl))
              have HKD := Lib.hid (refKids_x i nmVs wp _ _ HNI.out (by have := lightT_kidl HLI.out; omega))
              unfold nodeV bs at HKD
              go_wp2_with fail
              refine HKD.out.mono ?_
              rintro e w4 ⟨v, K, rfl, hL, hc⟩
              have hb1 := hc.below
              have HKR : Hid (RowF w w4 (w.heap.size + 3) v K) := RowF.of hc HS.out
              have HKK := Lib.hid hL
              replace HZ := Lib.hid (HZ.out.below hb1 HZ.out.lt)
              replace HM := Lib.hid (HM.out.below hb1 HM.out.lt)
              replace HO := Lib.hid (HO.out.below hb1)
              replace HRW := Lib.hid (HRW.out.below hb1 HRW.out.lt)
              replace HLR := Lib.hid (HLR.out.below hb1)
              replace HS : Hid (w.heap.size + 3 ≤ w4.heap.size) := by have h1 := HS.out; have h2 := hb1.size; show _ ≤ _; omega
              replace HS3 : Hid (b3 + 1 ≤ w4.heap.size) := by have h1 := HS3.out; have h2 := hb1.size; show _ ≤ _; omega
              replace HB := Lib.hid (HB.out.trans (hb1.mono HB.out.size))
              obtain ⟨Ko, Kc, rfl⟩ := HKR.out.own.shape
              have HKL : Hid (K.length = (kidsF nmVs i.kids).length) := by show _ = _; rw [← HKK.out, List.length_map]
              have HKM : Hid (K.length ≤ 300) := by
                have h1 := List.length_filter_le (isKid nmVs) i.kids
                have h2 := lightT_kidl HLI.out
                have h3 := HKL.out
                unfold kidsF at h3
                show _ ≤ _; omega
              clear hb1 hL hc HKD c0 c1 c2 c3 hbl r0 r1 r2 rl HNI
              by_cases hn : K.length = 1
              · have g1 : decide ((1 : Int) < (K.length : Int)) = false := decide_eq_false (by omega)
                have g2 : decide (1 < K.length) = false := decide_eq_false (by omega)
                have g3 : ¬ (1 : Int) < (K.length : Int) := by omega

                have g4 : ((K.length : Int) == 0) = false := by rw [beq_eq_false_iff_ne]; omega
                have g5 : (K.length == 0) = false := by rw [beq_eq_false_iff_ne]; omega

                have HK1 : Hid (K.length = 1) := hn
                clear hn
                go_wp2
                clear g1 g2 g3 g4 g5
                go_loopw [106] (fun i3 wx => ∃ (q : Nat) (vl : List S) (vo : Option Addr) (vn vc : Nat), i3 = .int .i64 q ∧ q ≤ K.length ∧ Hid (vl = match q with | 0 => [] | q + 1 => match K[q]? with | some y => txs (kidsF nmVer y.1.kids) | none => []) ∧ Hid (Box wx (w.heap.size + 1) [.string ⟨#[]⟩, .string ⟨#[]⟩, .slice none 0 0, .string ⟨#[]⟩, .string ⟨#[]⟩]) ∧ Hid (Box wx (w.heap.size + 2) [.string (bs gx), .string (bs ax), .slice vo vn vc, .string (bs (tx la)), .string (lastTx (kidsF nmR i.kids))]) ∧ Hid (Owns (b3 + 1) 9 1 strC wx (.slice vo vn vc) vl) ∧ Hid (Box wx b3 [.string ⟨#[108, 97, 116, 101, 115, 116]⟩, .string ⟨#[114, 101, 108, 101, 97, 115, 101]⟩, .string ⟨#[118, 101, 114, 115, 105, 111, 110, 115]⟩]) ∧ Hid (RowF w wx (w.heap.size + 3) (.slice (some ⟨bL, 0, none⟩) 1 Lc) [(i, .slice iao i.attrs.length iac, .slice iko i.kids.length ikc)]) ∧ Hid (RowF w wx (w.heap.size + 3) (.slice Ko K.length Kc) K) ∧ Hid (w.heap.size + 3 ≤ wx.heap.size) ∧ Hid (b3 + 1 ≤ wx.heap.size) ∧ Hid (Below w.heap.size w wx)) (fun i3 _ => K.length - (intOf i3).toNat)
                case atStart => exact ⟨0, [], vo, vn, vc, rfl, Nat.zero_le _, rfl, HZ, HM, HO, HRW, HLR, HKR, HS, HS3, HB⟩
                case round =>
                  clear HZ HM HO HRW HLR HKR HS HS3 HB
                  obtain ⟨q, vl, vo, vn, vc, rfl, hq, HVL, HZ, HM, HO, HRW, HLR, HKR, HS, HS3, HB⟩ := hrel
                  obtain ⟨wq, rfl⟩ : ∃ wq : World, wq = wr := ⟨_, rfl⟩
                  by_cases hlt : q < K.length
                  · obtain rfl : q = 0 := by have := HK1.out; omega
                    have hvl : vl = [] := HVL.out
                    subst hvl
                    clear HVL
                    obtain ⟨bK, hKo, hbl, c0, c1, c2, c3⟩ := row_at HKR.out.own (List.getElem?_eq_getElem hlt)
                    cases hKo
                    simp only [Nat.zero_mul, Nat.zero_add] at c0 c1 c2 c3
                    have HNY := Lib.hid (HKR.out.nodes K[0] (List.getElem_mem hlt))
                    have HLY : Hid (LightT K[0].1) := by
                      have hk0 : K[0].1 ∈ kidsF nmVs i.kids := by rw [← HKK.out]; exact List.mem_map_of_mem (List.getElem_mem hlt)
                      exact kidsF_light HLI.out _ hk0
                    have HYT : Hid (K[0]? = some K[0]) := List.getElem?_eq_getElem hlt
                    have d1 : (0 : Int) < (K.length : Int) := by omega
                    generalize K[0] = y at *
                    obtain ⟨y, yav, ykv⟩ := y
                    simp only at c0 c1 c2 c3 HNY HYT HLY
                    obtain ⟨yao, yac, yko, ykc, rfl, rfl, -, -⟩ := HNY.out.shape
                    clear hlt
                    go_upto_region 26 with fail
                    refine wp_world ?_
                    intro W1 hW
                    have HYB : Hid (Box W1 wq.heap.size [.string (bs y.name), .slice yao y.attrs.length yac, .slice yko y.kids.length ykc, .string (bs y.text)]) := by show Box _ _ _; rw [hW]; exact Box.new wq [.string (bs y.name), .slice yao y.attrs.length yac, .slice yko y.kids.length ykc, .string (bs y.text)] _ _ rfl
                    have hb : Below wq.heap.size wq W1 := by rw [hW]; exact (Below.refl _ _).alloc (Nat.le_refl _) _
                    clear hW c0 c1 c2 c3 hbl d1
                    have HBQ := Lib.hid hb
                    replace HZ := Lib.hid (HZ.out.below hb HZ.out.lt)
                    replace HM := Lib.hid (HM.out.below hb HM.out.lt)
                    replace HO := Lib.hid (HO.out.below hb)
                    replace HRW := Lib.hid (HRW.out.below hb HRW.out.lt)
                    replace HLR := Lib.hid (HLR.out.below hb)
                    replace HS : Hid (w.heap.size + 3 ≤ W1.heap.size) := by have h1 := HS.out; have h2 := hb.size; show _ ≤ _; omega
                    replace HS3 : Hid (b3 + 1 ≤ W1.heap.size) := by have h1 := HS3.out; have h2 := hb.size; show _ ≤ _; omega
                    replace HB := Lib.hid (HB.out.trans (hb.mono HB.out.size))
                    replace HKR := Lib.hid (HKR.out.below hb)
                    clear hb
                    have HNW := Lib.hid (HNY.out.later HBQ.out)
                    have HKD := Lib.hid (refKids_x y nmVer W1 _ _ HNW.out (by have := lightT_kidl HLY.out; omega))
                    unfold nodeV bs at HKD
                    clear HNY HBQ HNW
                    have x0 := HYB.out.cell 0 _ rfl
                    have x1 := HYB.out.cell 1 _ rfl
                    have x2 := HYB.out.cell 2 _ rfl
                    have x3 := HYB.out.cell 3 _ rfl
                    have xl := HYB.out.lt
                    go_wp2_with fail
                    refine HKD.out.mono ?_
                    rintro e w6 ⟨v, Q, rfl, hL, hc⟩
                    have hb1 := hc.below
                    have HQR : Hid (RowF w w6 (w.heap.size + 3) v Q) := RowF.of hc HS.out
                    have HQK := Lib.hid hL
                    replace HZ := Lib.hid (HZ.out.below hb1 HZ.out.lt)
                    replace HM := Lib.hid (HM.out.below hb1 HM.out.lt)
                    replace HO := Lib.hid (HO.out.below hb1)
                    replace HRW := Lib.hid (HRW.out.below hb1 HRW.out.lt)
                    replace HLR := Lib.hid (HLR.out.below hb1)
                    replace HS : Hid (w.heap.size + 3 ≤ w6.heap.size) := by have h1 := HS.out; have h2 := hb1.size; show _ ≤ _; omega
                    replace HS3 : Hid (b3 + 1 ≤ w6.heap.size) := by have h1 := HS3.out; have h2 := hb1.size; show _ ≤ _; omega
                    replace HB := Lib.hid (HB.out.trans (hb1.mono HB.out.size))
                    replace HKR := Lib.hid (HKR.out.below hb1)
                    obtain ⟨Qo, Qc, rfl⟩ := HQR.out.own.shape
                    have HQL : Hid (Q.length = (kidsF nmVer y.kids).length) := by show _ = _; rw [← HQK.out, List.length_map]
                    have HQM : Hid (Q.length ≤ 300) := by
                      have h1 := List.length_filter_le (isKid nmVer) y.kids
                      have h2 := lightT_kidl HLY.out
                      have h3 := HQL.out
                      unfold kidsF at h3
                      show _ ≤ _; omega
                    have HLV := Lib.hid (fun x hx => kidsF_light (m := nmVer) HLY.out x hx)
                    have HVLN : Hid (∀ k, (txs ((kidsF nmVer y.kids).take k)).length ≤ k) := fun k => by unfold txs; rw [List.length_map, List.length_take]; omega
                    clear hb1 hL hc HKD x0 x1 x2 x3 xl HYB
                    go_wp2
                    go_loopw [114] (fun i4 wx => ∃ (p : Nat) (vo : Option Addr) (vn vc : Nat), i4 = .int .i64 p ∧ p ≤ Q.length ∧ Hid (Box wx (w.heap.size + 1) [.string ⟨#[]⟩, .string ⟨#[]⟩, .slice none 0 0, .string ⟨#[]⟩, .string ⟨#[]⟩]) ∧ Hid (Box wx (w.heap.size + 2) [.string (bs gx), .string (bs ax), .slice vo vn vc, .string (bs (tx la)), .string (lastTx (kidsF nmR i.kids))]) ∧ Hid (Owns (b3 + 1) 9 1 strC wx (.slice vo vn vc) (txs ((kidsF nmVer y.kids).take p))) ∧ Hid (Box wx b3 [.string ⟨#[108, 97, 116, 101, 115, 116]⟩, .string ⟨#[114, 101, 108, 101, 97, 115, 101]⟩, .string ⟨#[118, 101, 114, 115, 105, 111, 110, 115]⟩]) ∧ Hid (RowF w wx (w.heap.size + 3) (.slice (some ⟨bL, 0, none⟩) 1 Lc) [(i, .slice iao i.attrs.length iac, .slice iko i.kids.length ikc)]) ∧ Hid (RowF w wx (w.heap.size + 3) (.slice (some ⟨bK, 0, none⟩) K.length Kc) K) ∧ Hid (RowF w wx (w.heap.size + 3) (.slice Qo Q.length Qc) Q) ∧ Hid (w.heap.size + 3 ≤ wx.heap.size) ∧ Hid (b3 + 1 ≤ wx.heap.size) ∧ Hid (Below w.heap.size w wx)) (fun i4 _ => Q.length - (intOf i4).toNat)
                    case atStart => exact ⟨0, vo, vn, vc, rfl, Nat.zero_le _, HZ, HM, HO, HRW, HLR, HKR, HQR, HS, HS3, HB⟩
                    case round =>
                      clear HZ HM HO HRW HLR HKR HQR HS HS3 HB
                      obtain ⟨p, vo, vn, vc, rfl, hp, HZ, HM, HO, HRW, HLR, HKR, HQR, HS, HS3, HB⟩ := hrel
                      obtain ⟨wo4, rfl⟩ : ∃ wo4 : World, wo4 = wr := ⟨_, rfl⟩
                      by_cases hlt : p < Q.length
                      · obtain ⟨b, hQo, hbl, c0, c1, c2, c3⟩ := row_at HQR.out.own (List.getElem?_eq_getElem hlt)
                        cases hQo
                        have HNX := Lib.hid (HQR.out.nodes Q[p] (List.getElem_mem hlt))
                        have hkk : p < (kidsF nmVer y.kids).length := by rw [← HQL.out]; exact hlt
                        have hyk : Q[p].1 = (kidsF nmVer y.kids)[p] := by
                          have h := HQK.out
                          have e : (Q.map (·.1))[p]? = (kidsF nmVer y.kids)[p]? := by rw [h]
                          rw [List.getElem?_map, List.getElem?_eq_getElem hlt, List.getElem?_eq_getElem hkk] at e
                          exact Option.some.inj e
                        have HTS : Hid (txs ((kidsF nmVer y.kids).take (p + 1)) = txs ((kidsF nmVer y.kids).take p) ++ [bs (tx Q[p].1)]) := by show _ = _; rw [txs_take hkk, hyk]
                        have HLX : Hid (LightT Q[p].1) := by show LightT _; rw [hyk]; exact HLV.out _ (List.getElem_mem hkk)
                        have HPL : Hid (p + 1 ≤ Q.length) := hlt
                        have HNK := Lib.hid (HVLN.out p)
                        have d1 : (p : Int) < (Q.length : Int) := by omega
                        have wk : IntKind.i64.wrap ((p : Int) + 1) = (p : Int) + 1 := IntWalk.i64_in _ (by have := HQM.out; omega)
                        generalize Q[p] = x at *
                        obtain ⟨x, xav, xkv⟩ := x
                        simp only at c0 c1 c2 c3 HNX HTS HLX
                        obtain ⟨xao, xac, xko, xkc, rfl, rfl, -, -⟩ := HNX.out.shape
                        have HTX : Hid (∀ W, Below wo4.heap.size wo4 W → Calls Tryd.prog 52 #[nodeV x (.slice xao x.attrs.length xac) (.slice xko x.kids.length xkc)] W fun e w' => e = .returned (.string (bs (tx x))) ∧ Below W.heap.size W w') := fun W hb => refText23_any x W _ _ (HNX.out.later hb).node (by have := HLX.out.textL; omega)
                        unfold nodeV at HTX
                        have hnl : vn = (txs ((kidsF nmVer y.kids).take p)).length := by obtain ⟨_, _, e⟩ := HO.out.shape; cases e; rfl
                        have HNL := Lib.hid hnl
                        clear hnl
                        generalize txs ((kidsF nmVer y.kids).take p) = vl at *
                        obtain ⟨ty, hty⟩ : ∃ ty : S, bs (tx x) = ty := ⟨_, rfl⟩
                        rw [hty] at HTX HTS
                        clear HNX HLX hkk hyk hlt hty
                        go_upto_region 30 with fail
                        refine wp_world ?_
                        intro W1' hW
                        have y1 : Box W1' wo4.heap.size [.string (bs x.name), .slice xao x.attrs.length xac, .slice xko x.kids.length xkc, .string (bs x.text)] := by rw [hW]; exact Box.new wo4 [.string (bs x.name), .slice xao x.attrs.length xac, .slice xko x.kids.length xkc, .string (bs x.text)] _ _ rfl
                        have hb : Below wo4.heap.size wo4 W1' := by rw [hW]; exact (Below.refl _ _).alloc (Nat.le_refl _) _
                        clear hW c0 c1 c2 c3 hbl d1
                        replace HZ := Lib.hid (HZ.out.below hb HZ.out.lt)
                        replace HM := Lib.hid (HM.out.below hb HM.out.lt)
                        replace HO := Lib.hid (HO.out.below hb)
                        replace HRW := Lib.hid (HRW.out.below hb HRW.out.lt)
                        replace HLR := Lib.hid (HLR.out.below hb)
                        replace HS : Hid (w.heap.size + 3 ≤ W1'.heap.size) := by have h1 := HS.out; have h2 := hb.size; show _ ≤ _; omega
                        replace HS3 : Hid (b3 + 1 ≤ W1'.heap.size) := by have h1 := HS3.out; have h2 := hb.size; show _ ≤ _; omega
                        replace HB := Lib.hid (HB.out.trans (hb.mono HB.out.size))
                        replace HKR := Lib.hid (HKR.out.below hb)
                        replace HQR := Lib.hid (HQR.out.below hb)
                        have HTZD : Hid (Calls Tryd.prog 52 #[.agg #[.string (bs x.name), .slice xao x.attrs.length xac, .slice xko x.kids.length xkc, .string (bs x.text)]] W1'.drew fun e w' => e = .returned (.string ty) ∧ Below W1'.drew.heap.size W1'.drew w') := HTX.out _ (hb.trans ((show Below W1'.heap.size W1' W1'.drew from ⟨rfl, rfl, rfl, Nat.le_refl _, fun _ _ => rfl⟩).mono hb.size))
                        clear HTX hb
                        have x0 := y1.cell 0 _ rfl
                        have x1 := y1.cell 1 _ rfl
                        have x2 := y1.cell 2 _ rfl
                        have x3 := y1.cell 3 _ rfl
                        have xl := y1.lt
                        have HYB := Lib.hid y1
                        clear y1
                        have m2 := HM.out.cell 2 _ rfl
                        have ml := HM.out.lt
                        have mf := HM.out.free 2
                        go_upto_region 30 with fail
                        go_region_law (first | (go_simp; go_at_call 52; refine HTZD.out.mono ?_; rintro e w5 ⟨rfl, hb5⟩; have HB5 : Hid (Below W1'.heap.size W1' w5) := ⟨hb5.os, hb5.tape, hb5.output, hb5.size, hb5.block⟩; have HM5 := Lib.hid (HM.out.below HB5.out HM.out.lt); have HOA : Hid (Owns (b3 + 1) 9 1 strC (w5.alloc (.cells #[.string ty] 9)) (.slice vo vn vc) vl) := (HO.out.below HB5.out).alloc _; have HNA : Hid (SliceOf 1 strC (w5.alloc (.cells #[.string ty] 9)) (.slice (some ⟨w5.heap.size, 0, none⟩) 1 1) [ty]) := (by show SliceOf _ _ _ _ _; simpa [strC] using sliceLit strC_lV w5 [ty] 9 w5.heap.size 1 rfl rfl (by simp [maxLen])); have k2 : w5.cell? ⟨w.heap.size + 2, 2, none⟩ = _ := HM5.out.cell 2 _ rfl; have kl := HM5.out.lt; have kf : w5.frozen? ⟨w.heap.size + 2, 2, none⟩ = false := HM5.out.free 2; have HYB5 := Lib.hid (HYB.out.below HB5.out HYB.out.lt); clear hb5) | (refine step_append_slice _ rfl (.tmp 119) (.tmp 122) 29 rfl (b3 + 1) 9 Tryd.underlying29 info_str rfl (by decide) strC_lV (.slice vo vn vc) vl (by simp [Act.eval]) HOA.out (.slice (some ⟨w5.heap.size, 0, none⟩) 1 1) [ty] (by simp [Act.eval]) HNA.out (strC_onesR _) (by have h1 := HNK.out; have h2 := HQM.out; have h3 := HPL.out; simp only [List.length_singleton]; omega) (by decide) (by have h1 := HB5.out.size; have h2 := HS3.out; simp; omega) ?_; intro a8 n8 c8 w8 ho8 hg8; have HO8 := Lib.hid ho8; have HG8 := Lib.hid hg8; have HM8 := Lib.hid ((HM5.out.alloc _).grown hg8 (fun e => by have h1 := HOA.out.lt _ e.symm; have h2 := HBN3.out; omega)); have j2 : w8.cell? ⟨w.heap.size + 2, 2, none⟩ = _ := HM8.out.cell 2 _ rfl; have jl := HM8.out.lt; have jf : w8.frozen? ⟨w.heap.size + 2, 2, none⟩ = false := HM8.out.free 2; clear ho8 hg8) | fail)
                        all_goals
                          obtain ⟨W3, hW⟩ : ∃ W, w8.setCell ⟨w.heap.size + 2, 2, none⟩ (.slice a8 n8 c8) = W := ⟨_, rfl⟩
                          rw [hW]
                          have hg : w8.grownBy W3 (some (w.heap.size + 2)) := by rw [← hW]; exact setCell_grown _ _ _ _
                          have HM3 : Hid (Box W3 (w.heap.size + 2) [.string (bs gx), .string (bs ax), .slice a8 n8 c8, .string (bs (tx la)), .string (lastTx (kidsF nmR i.kids))]) := by show Box _ _ _; rw [← hW]; exact HM8.out.set 2 _
                          have hba : Below W1'.heap.size W1' (w5.alloc (.cells #[.string ty] 9)) := HB5.out.trans ((Below.refl _ _).alloc HB5.out.size _)
                          have hown : ∀ g, (Value.slice vo vn vc).ownBlock = some g → b3 + 1 ≤ g := fun g e => (HOA.out.lt _ e).1
                          have hrow : ∀ (v : Value) (L : List TrV), RowF w W1' (w.heap.size + 3) v L → RowF w W3 (w.heap.size + 3) v L := fun v L h => by
                            have h1 := h.below hba
                            have h2 : RowF w w8 (w.heap.size + 3) v L := ⟨h1.own.kept HG8.out (own_kindsR h1.own HOA.out (by decide)), fun y hy => (h1.nodes y hy).keep (KeptX.grown HG8.out fun g e => by have h1 := hown g e; have h2 := HBN3.out; unfold XX; omega) (fun _ _ h => h)⟩
                            exact h2.put hg (by omega) (by omega)
                          have hbox : ∀ (b : Nat) (cs : List Value), Box W1' b cs → b ≠ w.heap.size + 2 → b ≤ b3 → Box W3 b cs := fun b cs h hne hle => ((h.below hba h.lt).grown HG8.out (fun e => by have h1 := hown b e.symm; omega)).grown hg (by simpa using hne)
                          have HZ3 := Lib.hid (hbox _ _ HZ.out (by omega) (by have := HBN3.out; omega))
                          have HRW3 := Lib.hid (hbox _ _ HRW.out (by have := HBN3.out; omega) (Nat.le_refl _))
                          have HLR3 := Lib.hid (hrow _ _ HLR.out)
                          have HKR3 := Lib.hid (hrow _ _ HKR.out)
                          have HQR3 := Lib.hid (hrow _ _ HQR.out)
                          have hn8 : n8 = vl.length + 1 := by obtain ⟨_, _, e⟩ := HO8.out.shape; cases e; simp
                          have HO3 := Lib.hid (HO8.out.keptR hg (by have := HBN3.out; omega))
                          have hsz : W1'.heap.size ≤ W3.heap.size := by have h2 := hba.size; have h3 := HG8.out.size; have h4 := hg.size; omega
                          have HSA : Hid (w.heap.size + 3 ≤ W3.heap.size) := by have h1 := HS.out; show _ ≤ _; omega
                          have HSB : Hid (b3 + 1 ≤ W3.heap.size) := by have h1 := HS3.out; show _ ≤ _; omega
                          have HB3 : Hid (Below w.heap.size w W3) := (((HB.out.trans (hba.mono HB.out.size)).grown HG8.out (by have h1 := hba.size; have h2 := HB.out.size; omega) (fun j hj => by have h1 := hown j hj; have h2 := HBN3.out; omega))).grown hg (by have h1 := hba.size; have h2 := HB.out.size; have h3 := HG8.out.size; omega) (fun j hj => by cases hj; omega)
                          clear hW hg hba hrow hbox hown hn8 hsz HM5 HOA HNA HB5 HG8 HM8 HO8 j2 jl jf k2 kl kf HQR HKR HLR HRW HZ HO HM HB HYB5 HS HS3
                          clear m2 ml mf x0 x1 x2 x3 xl HYB
                          rw [← show txs _ = _ from HTS.out] at HO3
                          go_wp2
                          go_roundw
                          case rel => exact ⟨p + 1, a8, n8, c8, by first | rfl | go_num, HPL.out, HZ3, HM3, HO3, HRW3, HLR3, HKR3, HQR3, HSA, HSB, HB3⟩
                          case measure => simp [intOf]; have := HPL.out; omega
                      · obtain rfl : p = Q.length := by omega
                        have d1 : ¬ (Q.length : Int) < (Q.length : Int) := by omega
                        have HO1 := HO.out
                        rw [List.take_of_length_le (by rw [HQL.out]; exact Nat.le_refl _)] at HO1
                        replace HO := Lib.hid HO1
                        clear HO1 HQR HQK
                        have HVL2 : Hid (txs (kidsF nmVer y.kids) = match (1 : Nat) with | 0 => [] | q + 1 => match K[q]? with | some y => txs (kidsF nmVer y.1.kids) | none => []) := by
                          show _ = match K[0]? with | some y => txs (kidsF nmVer y.1.kids) | none => []
                          rw [HYT.out]
                        go_wp2
                        go_roundw
                        case rel => exact ⟨1, _, vo, vn, vc, by first | rfl | go_num, by have := HK1.out; omega, HVL2, HZ, HM, HO, HRW, HLR, HKR, HS, HS3, HB⟩
                        case measure => simp [intOf]; have := HK1.out; omega
                  · obtain rfl : q = K.length := by omega
                    have d1 : ¬ (K.length : Int) < (K.length : Int) := by omega
                    have HI3 : Hid (RestAt R gx ax i 3 (bs (tx la)) (lastTx (kidsF nmR i.kids)) vl) := by
                      have hv := HVL.out
                      obtain ⟨y0, hy0⟩ : ∃ y0, K = [y0] := by
                        match K, HK1.out with
                        | [y], _ => exact ⟨y, rfl⟩
                      subst hy0
                      have ho := oneK_yes HKK.out
                      exact ⟨la, y0.1, by rw [HR5.out]; unfold readM5; rw [if_neg HNR.out, ho], oneK_light HLI.out ho, rfl, rfl, hv⟩
                    clear HVL HKR HKK HK1
                    go_wp2
                    go_roundw
                    case rel => exact ⟨3, 3, _, _, vl, vo, vn, vc, by first | rfl | go_num, rfl, by omega, HI3, HZ, HM, HO, HRW, HLR, HS, HS3, HB⟩
                    case measure => simp [intOf]
              · have HBAD : Hid (oneK nmVs i = none) := oneK_no HKK.out hn
                by_cases hz0 : K.length = 0
                · have g1 : decide ((1 : Int) < (K.length : Int)) = false := decide_eq_false (by omega)
                  have g2 : decide (1 < K.length) = false := decide_eq_false (by omega)
                  have g3 : ¬ (1 : Int) < (K.length : Int) := by omega

                  have g4 : ((K.length : Int) == 0) = true := by rw [beq_iff_eq]; omega
                  have g5 : (K.length == 0) = true := by rw [beq_iff_eq]; omega

                  clear hz0 hn HKR HKK
                  have HRE : Hid (R = .error erVs) := by show _ = _; rw [HR5.out]; unfold readM5; rw [if_neg HNR.out, HBAD.out]
                  have hcat20 : (⟨#[109, 101, 116, 97, 100, 97, 116, 97, 47, 118, 101, 114, 115, 105, 111, 110, 105, 110, 103, 47]⟩ : S) ++ ⟨#[118, 101, 114, 115, 105, 111, 110, 115]⟩ = ⟨#[109, 101, 116, 97, 100, 97, 116, 97, 47, 118, 101, 114, 115, 105, 111, 110, 105, 110, 103, 47, 118, 101, 114, 115, 105, 111, 110, 115]⟩ := by decide
                  have hcat28 : (⟨#[109, 101, 116, 97, 100, 97, 116, 97, 47, 118, 101, 114, 115, 105, 111, 110, 105, 110, 103, 47, 118, 101, 114, 115, 105, 111, 110, 115]⟩ : S) ++ ⟨#[33]⟩ = ⟨#[109, 101, 116, 97, 100, 97, 116, 97, 47, 118, 101, 114, 115, 105, 111, 110, 105, 110, 103, 47, 118, 101, 114, 115, 105, 111, 110, 115, 33]⟩ := by decide
                  go_wp2_with ((with_reducible show wpList _ _ _ (Oper.mk none (Op.store 31 (.tmp 2) (.tmp 100)) _ _ _ _ :: _) _ _); refine wpList_store_box rfl 31 (.tmp 2) (.tmp 100) rfl (w.heap.size + 1) _ [.string ⟨#[]⟩, .string ⟨#[]⟩, .slice none 0 0, .string ⟨#[]⟩, .string ⟨#[]⟩] rfl rfl HZ.out rfl (by kernel_rfl) (by simp [Value.oneCell']) ?_; intro W7 v7 hg7; have HV7 := Lib.hid v7; have HB7 := Lib.hid (grB HB.out hg7 (by omega) (Nat.le_refl _)); clear v7 hg7)
                  have z0 := HV7.out.cell 0 _ rfl
                  have z1 := HV7.out.cell 1 _ rfl
                  have z2 := HV7.out.cell 2 _ rfl
                  have z3 := HV7.out.cell 3 _ rfl
                  have z4 := HV7.out.cell 4 _ rfl
                  have zl := HV7.out.lt
                  clear HZ HM HB
                  go_wp2
                  refine bodyPost_ret (v := .tuple #[.agg metaZ.toArray, .string ⟨#[109, 101, 116, 97, 100, 97, 116, 97, 47, 118, 101, 114, 115, 105, 111, 110, 105, 110, 103, 47, 118, 101, 114, 115, 105, 111, 110, 115, 33]⟩]) (by simp [results, Tryd.results24, go_sem, z0, z1, z2, z3, z4, metaZ]) rfl ?_
                  rw [HRE.out]
                  exact ⟨HB7.out, rfl⟩
                · have g1 : decide ((1 : Int) < (K.length : Int)) = true := decide_eq_true (by omega)
                  have g2 : decide (1 < K.length) = true := decide_eq_true (by omega)
                  have g3 : (1 : Int) < (K.length : Int) := by omega

                  clear hz0 hn HKR HKK
                  have HRE : Hid (R = .error erVs) := by show _ = _; rw [HR5.out]; unfold readM5; rw [if_neg HNR.out, HBAD.out]
                  have hcat20 : (⟨#[109, 101, 116, 97, 100, 97, 116, 97, 47, 118, 101, 114, 115, 105, 111, 110, 105, 110, 103, 47]⟩ : S) ++ ⟨#[118, 101, 114, 115, 105, 111, 110, 115]⟩ = ⟨#[109, 101, 116, 97, 100, 97, 116, 97, 47, 118, 101, 114, 115, 105, 111, 110, 105, 110, 103, 47, 118, 101, 114, 115, 105, 111, 110, 115]⟩ := by decide
                  have hcat28 : (⟨#[109, 101, 116, 97, 100, 97, 116, 97, 47, 118, 101, 114, 115, 105, 111, 110, 105, 110, 103, 47, 118, 101, 114, 115, 105, 111, 110, 115]⟩ : S) ++ ⟨#[33]⟩ = ⟨#[109, 101, 116, 97, 100, 97, 116, 97, 47, 118, 101, 114, 115, 105, 111, 110, 105, 110, 103, 47, 118, 101, 114, 115, 105, 111, 110, 115, 33]⟩ := by decide
                  go_wp2_with ((with_reducible show wpList _ _ _ (Oper.mk none (Op.store 31 (.tmp 2) (.tmp 100)) _ _ _ _ :: _) _ _); refine wpList_store_box rfl 31 (.tmp 2) (.tmp 100) rfl (w.heap.size + 1) _ [.string ⟨#[]⟩, .string ⟨#[]⟩, .slice none 0 0, .string ⟨#[]⟩, .string ⟨#[]⟩] rfl rfl HZ.out rfl (by kernel_rfl) (by simp [Value.oneCell']) ?_; intro W7 v7 hg7; have HV7 := Lib.hid v7; have HB7 := Lib.hid (grB HB.out hg7 (by omega) (Nat.le_refl _)); clear v7 hg7)
                  have z0 := HV7.out.cell 0 _ rfl
                  have z1 := HV7.out.cell 1 _ rfl
                  have z2 := HV7.out.cell 2 _ rfl
                  have z3 := HV7.out.cell 3 _ rfl
                  have z4 := HV7.out.cell 4 _ rfl
                  have zl := HV7.out.lt
                  clear HZ HM HB
                  go_wp2
                  refine bodyPost_ret (v := .tuple #[.agg metaZ.toArray, .string ⟨#[109, 101, 116, 97, 100, 97, 116, 97, 47, 118, 101, 114, 115, 105, 111, 110, 105, 110, 103, 47, 118, 101, 114, 115, 105, 111, 110, 115, 33]⟩]) (by simp [results, Tryd.results24, go_sem, z0, z1, z2, z3, z4, metaZ]) rfl ?_
                  rw [HRE.out]
                  exact ⟨HB7.out, rfl⟩
            · obtain rfl : z = 3 := hz
              obtain ⟨la, vs, hr, hlv, rfl, rfl, rfl⟩ := HI.out
              have HR6 : Hid (R = readM7 ⟨⟨bs gx, bs ax⟩, txs (kidsF nmVer vs.kids), bs (tx la), lastTx (kidsF nmR i.kids)⟩) := hr
              have HSM : Hid (MetaSm ⟨⟨bs gx, bs ax⟩, txs (kidsF nmVer vs.kids), bs (tx la), lastTx (kidsF nmR i.kids)⟩) := by
                refine ⟨by have := HGZ.out; show (bs gx : S).size ≤ _; omega, by have := HAZ.out; show (bs ax : S).size ≤ _; omega, ?_, ?_⟩
                · have h1 := List.length_filter_le (isKid nmVer) vs.kids
                  have h2 := lightT_kidl hlv
                  show (txs _).length ≤ _
                  unfold txs kidsF
                  rw [List.length_map]
                  omega
                · intro x hx
                  obtain ⟨y, hy, rfl⟩ := List.mem_map.1 hx
                  have := tx_len (kidsF_light hlv y hy)
                  rw [bs_size]
                  omega
              clear hr HI hk hlv HRW HLR HLI
              generalize lastTx (kidsF nmR i.kids) = RL at *
              generalize txs (kidsF nmVer vs.kids) = VL at *
              have HMY := Lib.hid (refMetaMay_of HPT'.out ⟨⟨bs gx, bs ax⟩, VL, bs (tx la), RL⟩ (.slice vo vn vc) wp (HO.out.slice strC_lV) HSM.out)
              unfold metaAg metaC at HMY
              have HRM : Hid (R = if mayM ⟨⟨bs gx, bs ax⟩, VL, bs (tx la), RL⟩ = true then .ok ⟨⟨bs gx, bs ax⟩, VL, bs (tx la), RL⟩ else .error nmMeta) := HR6.out
              clear HR6 HSM
              generalize mayM ⟨⟨bs gx, bs ax⟩, VL, bs (tx la), RL⟩ = q at *
              have m0 := HM.out.cell 0 _ rfl
              have m1 := HM.out.cell 1 _ rfl
              have m2 := HM.out.cell 2 _ rfl
              have m3 := HM.out.cell 3 _ rfl
              have m4 := HM.out.cell 4 _ rfl
              have ml := HM.out.lt
              go_wp2_with fail
              refine HMY.out.mono ?_
              rintro e w8 ⟨rfl, hb⟩
              replace HO := Lib.hid (HO.out.below hb)
              replace HZ := Lib.hid (HZ.out.below hb HZ.out.lt)
              replace HM := Lib.hid (HM.out.below hb HM.out.lt)
              replace HB := Lib.hid (HB.out.trans (hb.mono HB.out.size))
              clear hb HMY m0 m1 m2 m3 m4 ml
              cases q with
              | false =>
                have HRE : Hid (R = .error nmMeta) := HRM.out
                go_wp2_with ((with_reducible show wpList _ _ _ (Oper.mk none (Op.store 31 (.tmp 2) (.tmp 141)) _ _ _ _ :: _) _ _); refine wpList_store_box rfl 31 (.tmp 2) (.tmp 141) rfl (w.heap.size + 1) _ [.string ⟨#[]⟩, .string ⟨#[]⟩, .slice none 0 0, .string ⟨#[]⟩, .string ⟨#[]⟩] rfl rfl HZ.out rfl (by kernel_rfl) (by simp [Value.oneCell']) ?_; intro W7 v7 hg7; have HV7 := Lib.hid v7; have HB7 := Lib.hid (grB HB.out hg7 (by omega) (Nat.le_refl _)); clear v7 hg7)
                have z0 := HV7.out.cell 0 _ rfl
                have z1 := HV7.out.cell 1 _ rfl
                have z2 := HV7.out.cell 2 _ rfl
                have z3 := HV7.out.cell 3 _ rfl
                have z4 := HV7.out.cell 4 _ rfl
                have zl := HV7.out.lt
                clear HZ HM HB
                go_wp2
                refine bodyPost_ret (v := .tuple #[.agg metaZ.toArray, .string ⟨#[109, 101, 116, 97, 100, 97, 116, 97, 33]⟩]) (by simp [results, Tryd.results24, go_sem, z0, z1, z2, z3, z4, metaZ]) rfl ?_
                rw [HRE.out]
                exact ⟨HB7.out, rfl⟩
              | true =>
                have HRE : Hid (R = .ok ⟨⟨bs gx, bs ax⟩, VL, bs (tx la), RL⟩) := HRM.out
                have m0 := HM.out.cell 0 _ rfl
                have m1 := HM.out.cell 1 _ rfl
                have m2 := HM.out.cell 2 _ rfl
                have m3 := HM.out.cell 3 _ rfl
                have m4 := HM.out.cell 4 _ rfl
                have ml := HM.out.lt
                go_wp2_with ((with_reducible show wpList _ _ _ (Oper.mk none (Op.store 31 (.tmp 2) (.tmp 142)) _ _ _ _ :: _) _ _); refine wpList_store_box rfl 31 (.tmp 2) (.tmp 142) rfl (w.heap.size + 1) _ [.string (bs gx), .string (bs ax), .slice vo vn vc, .string (bs (tx la)), .string RL] rfl rfl HZ.out rfl (by kernel_rfl) (by simp [Value.oneCell']) ?_; intro W7 v7 hg7; have HV7 := Lib.hid v7; have HB7 := Lib.hid (grB HB.out hg7 (by omega) (Nat.le_refl _)); have HO7 := Lib.hid (HO.out.keptR hg7 (by have := HBN3.out; omega)); clear v7 hg7)
                clear m0 m1 m2 m3 m4 ml
                have z0 := HV7.out.cell 0 _ rfl
                have z1 := HV7.out.cell 1 _ rfl
                have z2 := HV7.out.cell 2 _ rfl
                have z3 := HV7.out.cell 3 _ rfl
                have z4 := HV7.out.cell 4 _ rfl
                have zl := HV7.out.lt
                clear HM HB HO HZ
                go_wp2
                refine bodyPost_ret (v := .tuple #[.agg #[.string (bs gx), .string (bs ax), .slice vo vn vc, .string (bs (tx la)), .string RL], .string ⟨#[]⟩]) (by simp [results, Tryd.results24, go_sem, z0, z1, z2, z3, z4]) rfl ?_
                rw [HRE.out]
                exact ⟨HB7.out, _, HO7.out.slice strC_lV, rfl⟩
        · have e1 : ((L.length : Int) != 1) = true := by rw [bne_iff_ne]; omega
          have e2 : (L.length != 1) = true := by rw [bne_iff_ne]; exact hn
          have e3 : ((L.length : Int) == 1) = false := by rw [beq_eq_false_iff_ne]; omega
          have e4 : (L.length == 1) = false := by rw [beq_eq_false_iff_ne]; exact hn

          have HBAD : Hid (oneK nmV t = none) := oneK_no HLK.out hn
          clear hn HLR HLK
          have HRE : Hid (R = .error erV) := by show _ = _; rw [HRX.out]; unfold readM3; rw [HBAD.out]
          go_wp2_with ((with_reducible show wpList _ _ _ (Oper.mk none (Op.store 31 (.tmp 2) (.tmp 76)) _ _ _ _ :: _) _ _); refine wpList_store_box rfl 31 (.tmp 2) (.tmp 76) rfl (w.heap.size + 1) _ [.string ⟨#[]⟩, .string ⟨#[]⟩, .slice none 0 0, .string ⟨#[]⟩, .string ⟨#[]⟩] rfl rfl HZ.out rfl (by kernel_rfl) (by simp [Value.oneCell']) ?_; intro W7 v7 hg7; have HV7 := Lib.hid v7; have HB7 := Lib.hid (grB HB.out hg7 (by omega) (Nat.le_refl _)); clear v7 hg7)
          have z0 := HV7.out.cell 0 _ rfl
          have z1 := HV7.out.cell 1 _ rfl
          have z2 := HV7.out.cell 2 _ rfl
          have z3 := HV7.out.cell 3 _ rfl
          have z4 := HV7.out.cell 4 _ rfl
          have zl := HV7.out.lt
          clear HZ HM HB
          go_wp2
          refine bodyPost_ret (v := .tuple #[.agg metaZ.toArray, .string ⟨#[109, 101, 116, 97, 100, 97, 116, 97, 47, 118, 101, 114, 115, 105, 111, 110, 105, 110, 103, 33]⟩]) (by simp [results, Tryd.results24, go_sem, z0, z1, z2, z3, z4, metaZ]) rfl ?_
          rw [HRE.out]
          exact ⟨HB7.out, rfl⟩
  · have HRE : Hid (R = .error t.name) := by show _ = _; rw [HR.out, if_neg hn]
    rw [decide_eq_false hn] at hnm
    clear HR hn
    have m0 := HZ.out.cell 0 _ rfl
    have m1 := HZ.out.cell 1 _ rfl
    have m2 := HZ.out.cell 2 _ rfl
    have m3 := HZ.out.cell 3 _ rfl
    have m4 := HZ.out.cell 4 _ rfl
    have ml := HZ.out.lt
    have f0 := HZ.out.free 0
    have f1 := HZ.out.free 1
    have f2 := HZ.out.free 2
    have f3 := HZ.out.free 3
    have f4 := HZ.out.free 4
    have n0 := HM.out.cell 0 _ rfl
    have n1 := HM.out.cell 1 _ rfl
    have n2 := HM.out.cell 2 _ rfl
    have n3 := HM.out.cell 3 _ rfl
    have n4 := HM.out.cell 4 _ rfl
    have nl := HM.out.lt
    have ne1 : w.heap.size ≠ w.heap.size + 1 := by omega
    have ne2 : w.heap.size + 1 ≠ w.heap.size := by omega
    have ne3 : w.heap.size + 2 ≠ w.heap.size + 1 := by omega
    have ne4 : w.heap.size + 1 ≠ w.heap.size + 2 := by omega
    have hcz : ¬ 9223372036854775807 < (bs t.name : S).size + 1 := by rw [bs_size]; have := HLT.out.name; omega
    have HCAT : Hid ((bs t.name : S) ++ ⟨#[33]⟩ = bs (t.name ++ [33])) := bs_append t.name [33]
    go_upto_region 3 with fail
    clear hnm
    go_big_region
    all_goals
      obtain ⟨W7, hW⟩ : ∃ W', (((((W.setCell ⟨w.heap.size + 1, 0, none⟩ (.string ⟨#[]⟩)).setCell ⟨w.heap.size + 1, 1, none⟩ (.string ⟨#[]⟩)).setCell ⟨w.heap.size + 1, 2, none⟩ (.slice none 0 0)).setCell ⟨w.heap.size + 1, 3, none⟩ (.string ⟨#[]⟩)).setCell ⟨w.heap.size + 1, 4, none⟩ (.string ⟨#[]⟩)).drew = W' := ⟨_, rfl⟩
      rw [hW]
      have h5 : Box W7 (w.heap.size + 1) [.string ⟨#[]⟩, .string ⟨#[]⟩, .slice none 0 0, .string ⟨#[]⟩, .string ⟨#[]⟩] ∧ W.grownBy W7 (some (w.heap.size + 1)) := by rw [← hW]; have h6 := box5R (v0 := .string ⟨#[]⟩) (v1 := .string ⟨#[]⟩) (v2 := .slice none 0 0) (v3 := .string ⟨#[]⟩) (v4 := .string ⟨#[]⟩) HZ.out; exact ⟨⟨h6.1.lt, h6.1.cell, h6.1.free⟩, h6.2.trans ⟨rfl, rfl, rfl, Nat.le_refl _, fun _ _ _ => rfl⟩⟩
      obtain ⟨v7, hg7⟩ := h5
      have HV7 := Lib.hid v7
      have HB7 : Hid (Below w.heap.size w W7) := grB HB.out hg7 (by omega) (Nat.le_refl _)
      clear v7 hg7 hW m0 m1 m2 m3 m4 ml n0 n1 n2 n3 n4 nl f0 f1 f2 f3 f4 x0 x1 x2 x3 xl
      have z0 := HV7.out.cell 0 _ rfl
      have z1 := HV7.out.cell 1 _ rfl
      have z2 := HV7.out.cell 2 _ rfl
      have z3 := HV7.out.cell 3 _ rfl
      have z4 := HV7.out.cell 4 _ rfl
      have zl := HV7.out.lt
      go_wp2
      refine bodyPost_ret (v := .tuple #[.agg metaZ.toArray, .string ((bs t.name : S) ++ ⟨#[33]⟩)]) (by simp [results, Tryd.results24, go_sem, z0, z1, z2, z3, z4, metaZ]) rfl ?_
      rw [HRE.out, HCAT.out]
      exact ⟨HB7.out, rfl⟩

end Go.Proofs.YtecffghcpknmjaaDoor
