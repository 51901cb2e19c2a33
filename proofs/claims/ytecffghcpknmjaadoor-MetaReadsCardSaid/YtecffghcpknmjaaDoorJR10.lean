/- What a Meta is that is read of a tree, as plain functions; what is in memory while it is read; the conditions stand in the theorems. -/
import Derived.Test.YtecffghcpknmjaaDoorJR09
import Derived.Test.YtecffghcpknmjaaDoorJR05
import Derived.Test.YtecffghcpknmjaaDoorJR08
import Derived.Test.YtecffghcpknmjaaDoorL11
import Derived.BigRegion
namespace Go.Proofs.YtecffghcpknmjaaDoor
open Go Go.RowKit

abbrev nmMeta : Bs := [109, 101, 116, 97, 100, 97, 116, 97]
abbrev nmG : Bs := [103, 114, 111, 117, 112, 73, 100]
abbrev nmA : Bs := [97, 114, 116, 105, 102, 97, 99, 116, 73, 100]
abbrev nmV : Bs := [118, 101, 114, 115, 105, 111, 110, 105, 110, 103]
abbrev nmL : Bs := [108, 97, 116, 101, 115, 116]
abbrev nmR : Bs := [114, 101, 108, 101, 97, 115, 101]
abbrev nmVs : Bs := [118, 101, 114, 115, 105, 111, 110, 115]
abbrev nmVer : Bs := [118, 101, 114, 115, 105, 111, 110]
abbrev erG : Bs := [109, 101, 116, 97, 100, 97, 116, 97, 47, 103, 114, 111, 117, 112, 73, 100]
abbrev erA : Bs := [109, 101, 116, 97, 100, 97, 116, 97, 47, 97, 114, 116, 105, 102, 97, 99, 116, 73, 100]
abbrev erV : Bs := [109, 101, 116, 97, 100, 97, 116, 97, 47, 118, 101, 114, 115, 105, 111, 110, 105, 110, 103]
abbrev erL : Bs := [109, 101, 116, 97, 100, 97, 116, 97, 47, 118, 101, 114, 115, 105, 111, 110, 105, 110, 103, 47, 108, 97, 116, 101, 115, 116]
abbrev erR : Bs := [109, 101, 116, 97, 100, 97, 116, 97, 47, 118, 101, 114, 115, 105, 111, 110, 105, 110, 103, 47, 114, 101, 108, 101, 97, 115, 101]
abbrev erVs : Bs := [109, 101, 116, 97, 100, 97, 116, 97, 47, 118, 101, 114, 115, 105, 111, 110, 105, 110, 103, 47, 118, 101, 114, 115, 105, 111, 110, 115]
/-- The text of the last one. -/
def lastTx (l : List Tr) : S := match l.getLast? with
  | some r => bs (tx r)
  | none => ⟨#[]⟩
theorem take_snocR {α : Type} {l : List α} {k : Nat} (h : k < l.length) : l.take (k + 1) = l.take k ++ [l[k]] := by rw [List.take_add_one, List.getElem?_eq_getElem h]; rfl
theorem lastTx_take {l : List Tr} {k : Nat} (h : k < l.length) : lastTx (l.take (k + 1)) = bs (tx l[k]) := by
  unfold lastTx
  rw [take_snocR h, List.getLast?_concat]
def txs (l : List Tr) : List S := l.map fun k => bs (tx k)
theorem txs_take {l : List Tr} {k : Nat} (h : k < l.length) : txs (l.take (k + 1)) = txs (l.take k) ++ [bs (tx l[k])] := by
  unfold txs
  rw [take_snocR h, List.map_append]
  rfl
def readM7 (m : MetaD) : Except Bs MetaD := if mayM m = true then .ok m else .error nmMeta
def readM6 (g a : Bs) (i la vs : Tr) : Except Bs MetaD := readM7 ⟨⟨bs g, bs a⟩, txs (kidsF nmVer vs.kids), bs (tx la), lastTx (kidsF nmR i.kids)⟩
def readM5 (g a : Bs) (i la : Tr) : Except Bs MetaD := if 1 < (kidsF nmR i.kids).length then .error erR else match oneK nmVs i with
  | none => .error erVs
  | some vs => readM6 g a i la vs
def readM4 (g a : Bs) (i : Tr) : Except Bs MetaD := match oneK nmL i with
  | none => .error erL
  | some la => readM5 g a i la
def readM3 (t : Tr) (g a : Bs) : Except Bs MetaD := match oneK nmV t with
  | none => .error erV
  | some i => readM4 g a i
def readM2 (t : Tr) (g : Bs) : Except Bs MetaD := match idK nmA t with
  | none => .error erA
  | some a => readM3 t g a
def readM1 (t : Tr) : Except Bs MetaD := match idK nmG t with
  | none => .error erG
  | some g => readM2 t g
/-- The Meta of a tree, or what is wrong. -/
def readM (t : Tr) : Except Bs MetaD := if t.name = nmMeta then readM1 t else .error t.name
theorem bsLit (a l : Bs) : ((bs a).toList == l) = decide (a = l) := by
  rw [ByteArray.toList_eq, bs_data]
  rw [Bool.eq_iff_iff, beq_iff_eq, decide_eq_true_iff]
/-- Blocks that were made since. -/
def XX (w : World) : Nat → Prop := fun j => w.heap.size ≤ j
/-- A node in a variable of the call's own; its tree was there before. -/
structure NdF (w W : World) (b : Nat) (t : Tr) (av kv : Value) : Prop where
  box : Box W b [.string (bs t.name), av, kv, .string (bs t.text)]
  node : NodeX (XX w) W t av kv
theorem NdF.below {w W W' : World} {b : Nat} {t : Tr} {av kv : Value} (h : NdF w W b t av kv) (hb : Below W.heap.size W W') : NdF w W' b t av kv := ⟨h.box.below hb h.box.lt, h.node.later hb⟩
theorem NdF.put {w W W' : World} {b r : Nat} {t : Tr} {av kv : Value} (h : NdF w W b t av kv) (hg : W.grownBy W' (some r)) (hr : w.heap.size ≤ r) (hne : b ≠ r) : NdF w W' b t av kv :=
  ⟨h.box.grown hg (by simpa using hne), h.node.keep (KeptX.grown hg fun g e => by cases e; exact hr) (fun _ _ h => h)⟩
/-- A row of nodes of the call's own. -/
structure RowF (w W : World) (n : Nat) (v : Value) (L : List TrV) : Prop where
  own : Owns n 47 4 trC W v L
  nodes : ∀ y ∈ L, NodeX (XX w) W y.1 y.2.1 y.2.2
theorem RowF.below {w W W' : World} {n : Nat} {v : Value} {L : List TrV} (h : RowF w W n v L) (hb : Below W.heap.size W W') : RowF w W' n v L := ⟨h.own.below hb, fun y hy => (h.nodes y hy).later hb⟩
theorem RowF.put {w W W' : World} {n r : Nat} {v : Value} {L : List TrV} (h : RowF w W n v L) (hg : W.grownBy W' (some r)) (hr : w.heap.size ≤ r) (hn : r < n) : RowF w W' n v L :=
  ⟨h.own.keptR hg hn, fun y hy => (h.nodes y hy).keep (KeptX.grown hg fun g e => by cases e; exact hr) (fun _ _ h => h)⟩
theorem RowF.of {w W W' : World} {B n : Nat} {v : Value} {L : List TrV} (h : CollX (XX w) B W W' v L) (hn : n ≤ B) : RowF w W' n v L := ⟨h.own.base_mono hn, fun y hy => (h.nodes y hy).keep (KeptX.refl _ _) (fun _ _ h => .inl h)⟩
theorem nodeXX {w W : World} {t : Tr} {av kv : Value} (h : NodeOf w t av kv) (hb : Below w.heap.size w W) : NodeX (XX w) W t av kv := h.keep (KeptX.below hb) (fun k hk h => by unfold XX at h; omega)
theorem grB {B r : Nat} {w w' w1 : World} (h : Below B w w') (hg : w'.grownBy w1 (some r)) (hB : B ≤ r) (hs : B ≤ w.heap.size) : Below B w w1 := h.grown hg (Nat.le_trans hs h.size) (fun j hj => by cases hj; exact hB)
theorem own_kindsR {α β : Type} {b1 b2 E1 E2 n1 n2 : Nat} {C1 : α → List Value} {C2 : β → List Value} {w : World} {v1 v2 : Value} {l1 : List α} {l2 : List β} (h1 : Owns b1 E1 n1 C1 w v1 l1) (h2 : Owns b2 E2 n2 C2 w v2 l2) (hE : E1 ≠ E2) : v1.ownBlock = none ∨ v1.ownBlock ≠ v2.ownBlock := by
  rcases h1.2 with ⟨rfl, -⟩ | ⟨g1, c1, u1, rfl, -, hg1, -⟩
  · exact .inl rfl
  · right
    rcases h2.2 with ⟨rfl, -⟩ | ⟨g2, c2, u2, rfl, -, hg2, -⟩
    · simp [Value.ownBlock]
    · intro e
      simp only [Value.ownBlock, Option.some.injEq] at e
      subst e
      rw [hg1] at hg2
      simp only [Option.some.injEq, Obj.cells.injEq] at hg2
      exact hE hg2.2.1
theorem strC_onesR (l : List S) : ∀ y ∈ l, ∀ u ∈ strC y, u.oneCell' = true := by
  intro y _ u hu
  simp [strC] at hu
  subst hu
  rfl
/-- What meta.Read answers. -/
def ReadP (r : Except Bs MetaD) (w : World) (e : Ending) (w' : World) : Prop := Below w.heap.size w w' ∧ match r with
  | .error x => e = .returned (.tuple #[.agg metaZ.toArray, .int .i64 20, .string (bs x)])
  | .ok m => ∃ v, SliceOf 1 strC w' v m.vers ∧ e = .returned (.tuple #[metaAg m v, .int .i64 0, .string ⟨#[]⟩])

end Go.Proofs.YtecffghcpknmjaaDoor

/- The walk of meta.Read; the conditions stand in the theorem. -/
namespace Go.Proofs.YtecffghcpknmjaaDoor
open Go Go.RowKit

theorem idK_sz {m : Bs} {t : Tr} {g : Bs} (h : idK m t = some g) : (bs g : S).size ≤ 64 := by
  unfold idK at h
  split at h
  · split at h
    · rename_i hh
      cases h
      have h1 := hh.1
      unfold isIdB at h1
      simp only [Bool.and_eq_true, decide_eq_true_eq] at h1
      exact h1.2
    · cases h
  · cases h
theorem box5R {w : World} {b : Nat} {p0 p1 p2 p3 p4 v0 v1 v2 v3 v4 : Value} (h : Box w b [p0, p1, p2, p3, p4]) : Box (((((w.setCell ⟨b, 0, none⟩ v0).setCell ⟨b, 1, none⟩ v1).setCell ⟨b, 2, none⟩ v2).setCell ⟨b, 3, none⟩ v3).setCell ⟨b, 4, none⟩ v4) b [v0, v1, v2, v3, v4] ∧ w.grownBy (((((w.setCell ⟨b, 0, none⟩ v0).setCell ⟨b, 1, none⟩ v1).setCell ⟨b, 2, none⟩ v2).setCell ⟨b, 3, none⟩ v3).setCell ⟨b, 4, none⟩ v4) (some b) :=
  ⟨((((h.set 0 v0).set 1 v1).set 2 v2).set 3 v3).set 4 v4, ((((setCell_grown _ _ _ _).trans (setCell_grown _ _ _ _)).trans (setCell_grown _ _ _ _)).trans (setCell_grown _ _ _ _)).trans (setCell_grown _ _ _ _)⟩
set_option maxRecDepth 100000 in
set_option maxHeartbeats 32000000 in
theorem metaRead_any (t : Tr) (w : World) (av kv : Value) (ht : NodeOf w t av kv) (hl : LightT t) : Calls Tryd.prog 23 #[nodeV t av kv] w (ReadP (readM t) w) := by
  have HLT := Lib.hid hl
  have HT0 := Lib.hid ht
  obtain ⟨ao, ac, ko, kc, rfl, rfl, -, -⟩ := ht.shape
  have HR : Hid (readM t = if t.name = nmMeta then readM1 t else .error t.name) := rfl
  generalize readM t = R at *
  clear ht hl
  unfold nodeV
  go_enter Tryd.func23, Tryd.ntmps23
  go_upto_region 1 with fail
  refine wp_world ?_
  intro W hW
  have x1 : Box W w.heap.size [.string (bs t.name), .slice ao t.attrs.length ac, .slice ko t.kids.length kc, .string (bs t.text)] := by rw [hW]; exact (Box.new w [.string (bs t.name), .slice ao t.attrs.length ac, .slice ko t.kids.length kc, .string (bs t.text)] _ _ rfl).alloc _
  have y1 : Box W (w.heap.size + 1) [.string ⟨#[]⟩, .string ⟨#[]⟩, .slice none 0 0, .string ⟨#[]⟩, .string ⟨#[]⟩] := by rw [hW]; exact Box.new _ [.string ⟨#[]⟩, .string ⟨#[]⟩, .slice none 0 0, .string ⟨#[]⟩, .string ⟨#[]⟩] _ _ (by simp)
  have hb : Below w.heap.size w W := by rw [hW]; exact ((Below.refl _ w).alloc (Nat.le_refl _) _).alloc (by simp) _
  clear hW
  have HT : Hid (NdF w W w.heap.size t (.slice ao t.attrs.length ac) (.slice ko t.kids.length kc)) := ⟨x1, nodeXX HT0.out hb⟩
  have HM := Lib.hid y1
  have HB := Lib.hid hb
  clear x1 y1 hb HT0
  have hnm := bsLit t.name nmMeta
  have x0 := HT.out.box.cell 0 _ rfl
  have x1 := HT.out.box.cell 1 _ rfl
  have x2 := HT.out.box.cell 2 _ rfl
  have x3 := HT.out.box.cell 3 _ rfl
  have xl := HT.out.box.lt
  by_cases hn : t.name = nmMeta
  · have HR1 : Hid (R = readM1 t) := by show _ = _; rw [HR.out, if_pos hn]
    rw [decide_eq_true hn] at hnm
    clear HR hn
    have HR := HR1
    clear HR1
    go_upto_region 3 with fail
    clear hnm x0 x1 x2 x3 xl
    have HID := Lib.hid (idM_any t nmG W _ _ HT.out.node HLT.out)
    unfold nodeV bs at HID
    obtain ⟨o, ho⟩ : ∃ o, idK nmG t = o := ⟨_, rfl⟩
    rw [ho] at HID
    have HO := Lib.hid ho
    clear ho
    have x0 := HT.out.box.cell 0 _ rfl
    have x1 := HT.out.box.cell 1 _ rfl
    have x2 := HT.out.box.cell 2 _ rfl
    have x3 := HT.out.box.cell 3 _ rfl
    have xl := HT.out.box.lt
    go_wp2_with fail
    refine HID.out.mono ?_
    rintro e wG ⟨hb1, sg, rfl, hs⟩
    have HSg := Lib.hid hs
    replace HT := Lib.hid (HT.out.below hb1)
    replace HM := Lib.hid (HM.out.below hb1 HM.out.lt)
    replace HB := Lib.hid (HB.out.trans (hb1.mono HB.out.size))
    clear hb1 hs HID x0 x1 x2 x3 xl
    cases o with
    | none =>
      simp only [Option.isSome_none]
      have HRE : Hid (R = .error erG) := by show _ = _; rw [HR.out]; unfold readM1; rw [HO.out]
      go_wp2_with ((with_reducible show wpList _ _ _ (Oper.mk none (Op.store 31 (.tmp 2) (.tmp 29)) _ _ _ _ :: _) _ _); refine wpList_store_box rfl 31 (.tmp 2) (.tmp 29) rfl (w.heap.size + 1) _ [.string ⟨#[]⟩, .string ⟨#[]⟩, .slice none 0 0, .string ⟨#[]⟩, .string ⟨#[]⟩] rfl rfl HM.out rfl (by kernel_rfl) (by simp [Value.oneCell']) ?_; intro W7 v7 hg7; have HV7 := Lib.hid v7; have HB7 := Lib.hid (grB HB.out hg7 (by omega) (Nat.le_refl _)); clear v7 hg7)
      have z0 := HV7.out.cell 0 _ rfl
      have z1 := HV7.out.cell 1 _ rfl
      have z2 := HV7.out.cell 2 _ rfl
      have z3 := HV7.out.cell 3 _ rfl
      have z4 := HV7.out.cell 4 _ rfl
      have zl := HV7.out.lt
      clear HM HB
      go_wp2
      refine bodyPost_ret (v := .tuple #[.agg metaZ.toArray, .int .i64 20, .string ⟨#[109, 101, 116, 97, 100, 97, 116, 97, 47, 103, 114, 111, 117, 112, 73, 100]⟩]) (by simp [results, Tryd.results23, go_sem, z0, z1, z2, z3, z4, metaZ]) rfl ?_
      rw [HRE.out]
      exact ⟨HB7.out, rfl⟩
    | some g =>
      simp only [Option.isSome_some]
      have HR1 : Hid (R = readM2 t g) := by show _ = _; rw [HR.out]; unfold readM1; rw [HO.out]
      have HIg := Lib.hid (idK_sz HO.out)
      have HSE : Hid (sg = bs g) := HSg.out _ rfl
      clear HR HO HSg
      have HR := HR1
      clear HR1
      obtain rfl := HSE.out
      clear HSE
      have HID := Lib.hid (idM_any t nmA wG _ _ HT.out.node HLT.out)
      unfold nodeV bs at HID
      obtain ⟨o, ho⟩ : ∃ o, idK nmA t = o := ⟨_, rfl⟩
      rw [ho] at HID
      have HO := Lib.hid ho
      clear ho
      have x0 := HT.out.box.cell 0 _ rfl
      have x1 := HT.out.box.cell 1 _ rfl
      have x2 := HT.out.box.cell 2 _ rfl
      have x3 := HT.out.box.cell 3 _ rfl
      have xl := HT.out.box.lt
      go_wp2_with fail
      refine HID.out.mono ?_
      rintro e wA ⟨hb1, sa, rfl, hs⟩
      have HSa := Lib.hid hs
      replace HT := Lib.hid (HT.out.below hb1)
      replace HM := Lib.hid (HM.out.below hb1 HM.out.lt)
      replace HB := Lib.hid (HB.out.trans (hb1.mono HB.out.size))
      clear hb1 hs HID x0 x1 x2 x3 xl
      cases o with
      | none =>
        simp only [Option.isSome_none]
        have HRE : Hid (R = .error erA) := by show _ = _; rw [HR.out]; unfold readM2; rw [HO.out]
        go_wp2_with ((with_reducible show wpList _ _ _ (Oper.mk none (Op.store 31 (.tmp 2) (.tmp 37)) _ _ _ _ :: _) _ _); refine wpList_store_box rfl 31 (.tmp 2) (.tmp 37) rfl (w.heap.size + 1) _ [.string ⟨#[]⟩, .string ⟨#[]⟩, .slice none 0 0, .string ⟨#[]⟩, .string ⟨#[]⟩] rfl rfl HM.out rfl (by kernel_rfl) (by simp [Value.oneCell']) ?_; intro W7 v7 hg7; have HV7 := Lib.hid v7; have HB7 := Lib.hid (grB HB.out hg7 (by omega) (Nat.le_refl _)); clear v7 hg7)
        have z0 := HV7.out.cell 0 _ rfl
        have z1 := HV7.out.cell 1 _ rfl
        have z2 := HV7.out.cell 2 _ rfl
        have z3 := HV7.out.cell 3 _ rfl
        have z4 := HV7.out.cell 4 _ rfl
        have zl := HV7.out.lt
        clear HM HB
        go_wp2
        refine bodyPost_ret (v := .tuple #[.agg metaZ.toArray, .int .i64 20, .string ⟨#[109, 101, 116, 97, 100, 97, 116, 97, 47, 97, 114, 116, 105, 102, 97, 99, 116, 73, 100]⟩]) (by simp [results, Tryd.results23, go_sem, z0, z1, z2, z3, z4, metaZ]) rfl ?_
        rw [HRE.out]
        exact ⟨HB7.out, rfl⟩
      | some a =>
        simp only [Option.isSome_some]
        have HR1 : Hid (R = readM3 t g a) := by show _ = _; rw [HR.out]; unfold readM2; rw [HO.out]
        have HIa := Lib.hid (idK_sz HO.out)
        have HSE : Hid (sa = bs a) := HSa.out _ rfl
        clear HR HO HSa
        have HR := HR1
        clear HR1
        obtain rfl := HSE.out
        clear HSE
        have HSG := Lib.hid (single_any t nmV wA _ _ HT.out.node (by have := lightT_kidl HLT.out; omega))
        unfold nodeV bs at HSG
        obtain ⟨o, ho⟩ : ∃ o, oneK nmV t = o := ⟨_, rfl⟩
        rw [ho] at HSG
        have HO := Lib.hid ho
        clear ho
        have x0 := HT.out.box.cell 0 _ rfl
        have x1 := HT.out.box.cell 1 _ rfl
        have x2 := HT.out.box.cell 2 _ rfl
        have x3 := HT.out.box.cell 3 _ rfl
        have xl := HT.out.box.lt
        go_wp2_with fail
        refine HSG.out.mono ?_
        intro e wV hp
        cases o with
        | none =>
          obtain ⟨hb1, rfl⟩ := hp.none
          replace HT := Lib.hid (HT.out.below hb1)
          replace HM := Lib.hid (HM.out.below hb1 HM.out.lt)
          replace HB := Lib.hid (HB.out.trans (hb1.mono HB.out.size))
          clear hb1 hp HSG x0 x1 x2 x3 xl
          unfold nodeZ
          go_upto_region 10 with fail
          refine wp_world ?_
          intro WV2 hW
          have hb : Below wV.heap.size wV WV2 := by rw [hW]; exact (Below.refl _ _).alloc (Nat.le_refl _) _
          clear hW
          replace HT := Lib.hid (HT.out.below hb)
          replace HM := Lib.hid (HM.out.below hb HM.out.lt)
          replace HB := Lib.hid (HB.out.trans (hb.mono HB.out.size))
          clear hb
          have HRE : Hid (R = .error erV) := by show _ = _; rw [HR.out]; unfold readM3; rw [HO.out]
          go_wp2_with ((with_reducible show wpList _ _ _ (Oper.mk none (Op.store 31 (.tmp 2) (.tmp 45)) _ _ _ _ :: _) _ _); refine wpList_store_box rfl 31 (.tmp 2) (.tmp 45) rfl (w.heap.size + 1) _ [.string ⟨#[]⟩, .string ⟨#[]⟩, .slice none 0 0, .string ⟨#[]⟩, .string ⟨#[]⟩] rfl rfl HM.out rfl (by kernel_rfl) (by simp [Value.oneCell']) ?_; intro W7 v7 hg7; have HV7 := Lib.hid v7; have HB7 := Lib.hid (grB HB.out hg7 (by omega) (Nat.le_refl _)); clear v7 hg7)
          have z0 := HV7.out.cell 0 _ rfl
          have z1 := HV7.out.cell 1 _ rfl
          have z2 := HV7.out.cell 2 _ rfl
          have z3 := HV7.out.cell 3 _ rfl
          have z4 := HV7.out.cell 4 _ rfl
          have zl := HV7.out.lt
          clear HM HB
          go_wp2
          refine bodyPost_ret (v := .tuple #[.agg metaZ.toArray, .int .i64 20, .string ⟨#[109, 101, 116, 97, 100, 97, 116, 97, 47, 118, 101, 114, 115, 105, 111, 110, 105, 110, 103]⟩]) (by simp [results, Tryd.results23, go_sem, z0, z1, z2, z3, z4, metaZ]) rfl ?_
          rw [HRE.out]
          exact ⟨HB7.out, rfl⟩
        | some i =>
          obtain ⟨hb1, iav, ikv, rfl, hn⟩ := hp.some
          have HLi := Lib.hid (oneK_light HLT.out HO.out)
          have HR1 : Hid (R = readM4 g a i) := by show _ = _; rw [HR.out]; unfold readM3; rw [HO.out]
          clear HR HO
          have HR := HR1
          clear HR1
          replace HT := Lib.hid (HT.out.below hb1)
          replace HM := Lib.hid (HM.out.below hb1 HM.out.lt)
          replace HB := Lib.hid (HB.out.trans (hb1.mono HB.out.size))
          obtain ⟨iao, iac, iko, ikc, rfl, rfl, -, -⟩ := hn.shape
          have HN := Lib.hid hn
          have HSZ : Hid (w.heap.size + 2 ≤ wV.heap.size) := by have := HM.out.lt; show _ ≤ _; omega
          clear hb1 hn hp HSG x0 x1 x2 x3 xl
          unfold nodeV
          go_upto_region 10 with fail
          refine wp_world ?_
          intro WV2 hW
          have y1 : Box WV2 wV.heap.size [.string (bs i.name), .slice iao i.attrs.length iac, .slice iko i.kids.length ikc, .string (bs i.text)] := by rw [hW]; exact Box.new wV [.string (bs i.name), .slice iao i.attrs.length iac, .slice iko i.kids.length ikc, .string (bs i.text)] _ _ rfl
          have hb : Below wV.heap.size wV WV2 := by rw [hW]; exact (Below.refl _ _).alloc (Nat.le_refl _) _
          clear hW
          have HI : Hid (NdF w WV2 wV.heap.size i (.slice iao i.attrs.length iac) (.slice iko i.kids.length ikc)) := ⟨y1, HN.out.later hb⟩
          replace HT := Lib.hid (HT.out.below hb)
          replace HM := Lib.hid (HM.out.below hb HM.out.lt)
          replace HB := Lib.hid (HB.out.trans (hb.mono HB.out.size))
          clear y1 hb HN
          obtain ⟨bi, hbi⟩ : ∃ b, wV.heap.size = b := ⟨_, rfl⟩
          rw [hbi] at HI HSZ ⊢
          have HZi := HSZ
          clear hbi HSZ
          have HSG := Lib.hid (single_any i nmL WV2 _ _ HI.out.node (by have := lightT_kidl HLi.out; omega))
          unfold nodeV bs at HSG
          obtain ⟨o, ho⟩ : ∃ o, oneK nmL i = o := ⟨_, rfl⟩
          rw [ho] at HSG
          have HO := Lib.hid ho
          clear ho
          have x0 := HI.out.box.cell 0 _ rfl
          have x1 := HI.out.box.cell 1 _ rfl
          have x2 := HI.out.box.cell 2 _ rfl
          have x3 := HI.out.box.cell 3 _ rfl
          have xl := HI.out.box.lt
          go_wp2_with fail
          refine HSG.out.mono ?_
          intro e wL hp
          cases o with
          | none =>
            obtain ⟨hb1, rfl⟩ := hp.none
            replace HT := Lib.hid (HT.out.below hb1)
            replace HM := Lib.hid (HM.out.below hb1 HM.out.lt)
            replace HB := Lib.hid (HB.out.trans (hb1.mono HB.out.size))
            clear hb1 hp HSG x0 x1 x2 x3 xl
            unfold nodeZ
            go_upto_region 13 with fail
            refine wp_world ?_
            intro WL2 hW
            have hb : Below wL.heap.size wL WL2 := by rw [hW]; exact (Below.refl _ _).alloc (Nat.le_refl _) _
            clear hW
            replace HT := Lib.hid (HT.out.below hb)
            replace HM := Lib.hid (HM.out.below hb HM.out.lt)
            replace HB := Lib.hid (HB.out.trans (hb.mono HB.out.size))
            clear hb
            have HRE : Hid (R = .error erL) := by show _ = _; rw [HR.out]; unfold readM4; rw [HO.out]
            go_wp2_with ((with_reducible show wpList _ _ _ (Oper.mk none (Op.store 31 (.tmp 2) (.tmp 53)) _ _ _ _ :: _) _ _); refine wpList_store_box rfl 31 (.tmp 2) (.tmp 53) rfl (w.heap.size + 1) _ [.string ⟨#[]⟩, .string ⟨#[]⟩, .slice none 0 0, .string ⟨#[]⟩, .string ⟨#[]⟩] rfl rfl HM.out rfl (by kernel_rfl) (by simp [Value.oneCell']) ?_; intro W7 v7 hg7; have HV7 := Lib.hid v7; have HB7 := Lib.hid (grB HB.out hg7 (by omega) (Nat.le_refl _)); clear v7 hg7)
            have z0 := HV7.out.cell 0 _ rfl
            have z1 := HV7.out.cell 1 _ rfl
            have z2 := HV7.out.cell 2 _ rfl
            have z3 := HV7.out.cell 3 _ rfl
            have z4 := HV7.out.cell 4 _ rfl
            have zl := HV7.out.lt
            clear HM HB
            go_wp2
            refine bodyPost_ret (v := .tuple #[.agg metaZ.toArray, .int .i64 20, .string ⟨#[109, 101, 116, 97, 100, 97, 116, 97, 47, 118, 101, 114, 115, 105, 111, 110, 105, 110, 103, 47, 108, 97, 116, 101, 115, 116]⟩]) (by simp [results, Tryd.results23, go_sem, z0, z1, z2, z3, z4, metaZ]) rfl ?_
            rw [HRE.out]
            exact ⟨HB7.out, rfl⟩
          | some l =>
            obtain ⟨hb1, lav, lkv, rfl, hn⟩ := hp.some
            have HLl := Lib.hid (oneK_light HLi.out HO.out)
            have HR1 : Hid (R = readM5 g a i l) := by show _ = _; rw [HR.out]; unfold readM4; rw [HO.out]
            clear HR HO
            have HR := HR1
            clear HR1
            replace HT := Lib.hid (HT.out.below hb1)
            replace HM := Lib.hid (HM.out.below hb1 HM.out.lt)
            replace HB := Lib.hid (HB.out.trans (hb1.mono HB.out.size))
            replace HI := Lib.hid (HI.out.below hb1)
            obtain ⟨lao, lac, lko, lkc, rfl, rfl, -, -⟩ := hn.shape
            have HN := Lib.hid hn
            have HSZ : Hid (w.heap.size + 2 ≤ wL.heap.size) := by have := HM.out.lt; show _ ≤ _; omega
            clear hb1 hn hp HSG x0 x1 x2 x3 xl
            unfold nodeV
            go_upto_region 13 with fail
            refine wp_world ?_
            intro WL2 hW
            have y1 : Box WL2 wL.heap.size [.string (bs l.name), .slice lao l.attrs.length lac, .slice lko l.kids.length lkc, .string (bs l.text)] := by rw [hW]; exact Box.new wL [.string (bs l.name), .slice lao l.attrs.length lac, .slice lko l.kids.length lkc, .string (bs l.text)] _ _ rfl
            have hb : Below wL.heap.size wL WL2 := by rw [hW]; exact (Below.refl _ _).alloc (Nat.le_refl _) _
            clear hW
            have HLA : Hid (NdF w WL2 wL.heap.size l (.slice lao l.attrs.length lac) (.slice lko l.kids.length lkc)) := ⟨y1, HN.out.later hb⟩
            replace HT := Lib.hid (HT.out.below hb)
            replace HM := Lib.hid (HM.out.below hb HM.out.lt)
            replace HB := Lib.hid (HB.out.trans (hb.mono HB.out.size))
            replace HI := Lib.hid (HI.out.below hb)
            clear y1 hb HN
            obtain ⟨bl, hbl⟩ : ∃ b, wL.heap.size = b := ⟨_, rfl⟩
            rw [hbl] at HLA HSZ ⊢
            have HZl := HSZ
            clear hbl HSZ
            have HKD := Lib.hid (kids_x i nmR WL2 _ _ HI.out.node (by have := lightT_kidl HLi.out; omega))
            unfold nodeV bs at HKD
            have x0 := HI.out.box.cell 0 _ rfl
            have x1 := HI.out.box.cell 1 _ rfl
            have x2 := HI.out.box.cell 2 _ rfl
            have x3 := HI.out.box.cell 3 _ rfl
            have xl := HI.out.box.lt
            go_wp2_with fail
            refine HKD.out.mono ?_
            rintro e w15 ⟨v, L, rfl, hL, hc⟩
            have hb1 := hc.below
            have HLR : Hid (RowF w w15 (w.heap.size + 3) v L) := RowF.of hc (by have := HI.out.box.lt; have := HZi.out; omega)
            have HLK := Lib.hid hL
            replace HT := Lib.hid (HT.out.below hb1)
            replace HM := Lib.hid (HM.out.below hb1 HM.out.lt)
            replace HB := Lib.hid (HB.out.trans (hb1.mono HB.out.size))
            replace HI := Lib.hid (HI.out.below hb1)
            replace HLA := Lib.hid (HLA.out.below hb1)
            obtain ⟨Lo, Lc, rfl⟩ := HLR.out.own.shape
            clear hb1 hL hc HKD x0 x1 x2 x3 xl
            have HLL : Hid (L.length = (kidsF nmR i.kids).length) := by show _ = _; rw [← HLK.out, List.length_map]
            by_cases hn1 : 1 < L.length
            · have e1 : decide ((1 : Int) < (L.length : Int)) = true := decide_eq_true (by omega)
              have e1p : (1 : Int) < (L.length : Int) := by omega
              have e1n : decide (1 < L.length) = true := decide_eq_true hn1
              have HYES : Hid (1 < (kidsF nmR i.kids).length) := by rw [← HLL.out]; exact hn1
              clear hn1
              have HRE : Hid (R = .error erR) := by show _ = _; rw [HR.out]; unfold readM5; rw [if_pos HYES.out]
              go_wp2_with ((with_reducible show wpList _ _ _ (Oper.mk none (Op.store 31 (.tmp 2) (.tmp 59)) _ _ _ _ :: _) _ _); refine wpList_store_box rfl 31 (.tmp 2) (.tmp 59) rfl (w.heap.size + 1) _ [.string ⟨#[]⟩, .string ⟨#[]⟩, .slice none 0 0, .string ⟨#[]⟩, .string ⟨#[]⟩] rfl rfl HM.out rfl (by kernel_rfl) (by simp [Value.oneCell']) ?_; intro W7 v7 hg7; have HV7 := Lib.hid v7; have HB7 := Lib.hid (grB HB.out hg7 (by omega) (Nat.le_refl _)); clear v7 hg7)
              have z0 := HV7.out.cell 0 _ rfl
              have z1 := HV7.out.cell 1 _ rfl
              have z2 := HV7.out.cell 2 _ rfl
              have z3 := HV7.out.cell 3 _ rfl
              have z4 := HV7.out.cell 4 _ rfl
              have zl := HV7.out.lt
              clear HM HB
              go_wp2
              refine bodyPost_ret (v := .tuple #[.agg metaZ.toArray, .int .i64 20, .string ⟨#[109, 101, 116, 97, 100, 97, 116, 97, 47, 118, 101, 114, 115, 105, 111, 110, 105, 110, 103, 47, 114, 101, 108, 101, 97, 115, 101]⟩]) (by simp [results, Tryd.results23, go_sem, z0, z1, z2, z3, z4, metaZ]) rfl ?_
              rw [HRE.out]
              exact ⟨HB7.out, rfl⟩
            · have e1 : decide ((1 : Int) < (L.length : Int)) = false := decide_eq_false (by omega)
              have e1p : ¬ (1 : Int) < (L.length : Int) := by omega
              have e1n : decide (1 < L.length) = false := decide_eq_false hn1
              have HNR : Hid (¬ 1 < (kidsF nmR i.kids).length) := by rw [← HLL.out]; exact hn1
              clear hn1
              have HSG := Lib.hid (single_any i nmVs w15 _ _ HI.out.node (by have := lightT_kidl HLi.out; omega))
              unfold nodeV bs at HSG
              obtain ⟨o, ho⟩ : ∃ o, oneK nmVs i = o := ⟨_, rfl⟩
              rw [ho] at HSG
              have HO := Lib.hid ho
              clear ho
              have x0 := HI.out.box.cell 0 _ rfl
              have x1 := HI.out.box.cell 1 _ rfl
              have x2 := HI.out.box.cell 2 _ rfl
              have x3 := HI.out.box.cell 3 _ rfl
              have xl := HI.out.box.lt
              go_wp2_with fail
              refine HSG.out.mono ?_
              intro e wVs hp
              cases o with
              | none =>
                obtain ⟨hb1, rfl⟩ := hp.none
                replace HT := Lib.hid (HT.out.below hb1)
                replace HM := Lib.hid (HM.out.below hb1 HM.out.lt)
                replace HB := Lib.hid (HB.out.trans (hb1.mono HB.out.size))
                clear hb1 hp HSG x0 x1 x2 x3 xl
                unfold nodeZ
                go_upto_region 19 with fail
                refine wp_world ?_
                intro WVs2 hW
                have hb : Below wVs.heap.size wVs WVs2 := by rw [hW]; exact (Below.refl _ _).alloc (Nat.le_refl _) _
                clear hW
                replace HT := Lib.hid (HT.out.below hb)
                replace HM := Lib.hid (HM.out.below hb HM.out.lt)
                replace HB := Lib.hid (HB.out.trans (hb.mono HB.out.size))
                clear hb
                have HRE : Hid (R = .error erVs) := by show _ = _; rw [HR.out]; unfold readM5; rw [if_neg HNR.out]; rw [HO.out]
                go_wp2_with ((with_reducible show wpList _ _ _ (Oper.mk none (Op.store 31 (.tmp 2) (.tmp 67)) _ _ _ _ :: _) _ _); refine wpList_store_box rfl 31 (.tmp 2) (.tmp 67) rfl (w.heap.size + 1) _ [.string ⟨#[]⟩, .string ⟨#[]⟩, .slice none 0 0, .string ⟨#[]⟩, .string ⟨#[]⟩] rfl rfl HM.out rfl (by kernel_rfl) (by simp [Value.oneCell']) ?_; intro W7 v7 hg7; have HV7 := Lib.hid v7; have HB7 := Lib.hid (grB HB.out hg7 (by omega) (Nat.le_refl _)); clear v7 hg7)
                have z0 := HV7.out.cell 0 _ rfl
                have z1 := HV7.out.cell 1 _ rfl
                have z2 := HV7.out.cell 2 _ rfl
                have z3 := HV7.out.cell 3 _ rfl
                have z4 := HV7.out.cell 4 _ rfl
                have zl := HV7.out.lt
                clear HM HB
                go_wp2
                refine bodyPost_ret (v := .tuple #[.agg metaZ.toArray, .int .i64 20, .string ⟨#[109, 101, 116, 97, 100, 97, 116, 97, 47, 118, 101, 114, 115, 105, 111, 110, 105, 110, 103, 47, 118, 101, 114, 115, 105, 111, 110, 115]⟩]) (by simp [results, Tryd.results23, go_sem, z0, z1, z2, z3, z4, metaZ]) rfl ?_
                rw [HRE.out]
                exact ⟨HB7.out, rfl⟩
              | some v =>
                obtain ⟨hb1, vav, vkv, rfl, hn⟩ := hp.some
                have HLv := Lib.hid (oneK_light HLi.out HO.out)
                have HR1 : Hid (R = readM6 g a i l v) := by show _ = _; rw [HR.out]; unfold readM5; rw [if_neg HNR.out]; rw [HO.out]
                clear HR HO
                have HR := HR1
                clear HR1
                replace HT := Lib.hid (HT.out.below hb1)
                replace HM := Lib.hid (HM.out.below hb1 HM.out.lt)
                replace HB := Lib.hid (HB.out.trans (hb1.mono HB.out.size))
                replace HI := Lib.hid (HI.out.below hb1)
                replace HLA := Lib.hid (HLA.out.below hb1)
                replace HLR := Lib.hid (HLR.out.below hb1)
                obtain ⟨vao, vac, vko, vkc, rfl, rfl, -, -⟩ := hn.shape
                have HN := Lib.hid hn
                have HSZ : Hid (w.heap.size + 2 ≤ wVs.heap.size) := by have := HM.out.lt; show _ ≤ _; omega
                clear hb1 hn hp HSG x0 x1 x2 x3 xl
                unfold nodeV
                go_upto_region 19 with fail
                refine wp_world ?_
                intro WVs2 hW
                have y1 : Box WVs2 wVs.heap.size [.string (bs v.name), .slice vao v.attrs.length vac, .slice vko v.kids.length vkc, .string (bs v.text)] := by rw [hW]; exact Box.new wVs [.string (bs v.name), .slice vao v.attrs.length vac, .slice vko v.kids.length vkc, .string (bs v.text)] _ _ rfl
                have hb : Below wVs.heap.size wVs WVs2 := by rw [hW]; exact (Below.refl _ _).alloc (Nat.le_refl _) _
                clear hW
                have HV : Hid (NdF w WVs2 wVs.heap.size v (.slice vao v.attrs.length vac) (.slice vko v.kids.length vkc)) := ⟨y1, HN.out.later hb⟩
                replace HT := Lib.hid (HT.out.below hb)
                replace HM := Lib.hid (HM.out.below hb HM.out.lt)
                replace HB := Lib.hid (HB.out.trans (hb.mono HB.out.size))
                replace HI := Lib.hid (HI.out.below hb)
                replace HLA := Lib.hid (HLA.out.below hb)
                replace HLR := Lib.hid (HLR.out.below hb)
                clear y1 hb HN
                obtain ⟨bv, hbv⟩ : ∃ b, wVs.heap.size = b := ⟨_, rfl⟩
                rw [hbv] at HV HSZ ⊢
                have HZv := HSZ
                clear hbv HSZ
                have HTL : Hid (Calls Tryd.prog 50 #[nodeV l (.slice lao l.attrs.length lac) (.slice lko l.kids.length lkc)] WVs2 fun e w' => e = .returned (.string (bs (tx l))) ∧ Below WVs2.heap.size WVs2 w') := text_any l _ _ _ HLA.out.node.node (by have := HLl.out.textL; omega)
                unfold nodeV at HTL
                have x0 := HLA.out.box.cell 0 _ rfl
                have x1 := HLA.out.box.cell 1 _ rfl
                have x2 := HLA.out.box.cell 2 _ rfl
                have x3 := HLA.out.box.cell 3 _ rfl
                have xl := HLA.out.box.lt
                go_wp2_with fail
                refine HTL.out.mono ?_
                rintro e w6 ⟨rfl, hb⟩
                replace HM := Lib.hid (HM.out.below hb HM.out.lt)
                replace HB := Lib.hid (HB.out.trans (hb.mono HB.out.size))
                replace HV := Lib.hid (HV.out.below hb)
                replace HLR := Lib.hid (HLR.out.below hb)
                clear hb HTL HLA HI HT x0 x1 x2 x3 xl
                go_wp2_with ((with_reducible show wpList _ _ _ (Oper.mk none (Op.store 31 (.tmp 2) (.tmp 73)) _ _ _ _ :: _) _ _); refine wpList_store_box rfl 31 (.tmp 2) (.tmp 73) rfl (w.heap.size + 1) _ [.string (bs g), .string (bs a), .slice none 0 0, .string (bs (tx l)), .string ⟨#[]⟩] rfl rfl HM.out rfl (by kernel_rfl) (by simp [Value.oneCell']) ?_; intro W7 v7 hg7; have HV7 := Lib.hid v7; have HB7 := Lib.hid (grB HB.out hg7 (by omega) (Nat.le_refl _)); have HVv := Lib.hid (HV.out.put hg7 (by omega) (by have := HZv.out; omega)); have HLRv := Lib.hid (HLR.out.put hg7 (by omega) (by omega)); clear v7 hg7)
                clear HM HB HV HLR
                have HM := HV7
                have HB := HB7
                have HV := HVv
                have HLR := HLRv
                clear HV7 HB7 HVv HLRv
                have HLB : Hid (L.length ≤ 300) := by
                  have h1 := List.length_filter_le (isKid nmR) i.kids
                  have h2 := lightT_kidl HLi.out
                  have h3 := HLL.out
                  unfold kidsF at h3
                  show _ ≤ _; omega
                go_wp2
                go_loopw [76] (fun i2 wr => ∃ k : Nat, i2 = .int .i64 k ∧ k ≤ L.length ∧ Hid (RowF w wr (w.heap.size + 3) (.slice Lo L.length Lc) L) ∧ Hid (NdF w wr bv v (.slice vao v.attrs.length vac) (.slice vko v.kids.length vkc)) ∧ Hid (Box wr (w.heap.size + 1) [.string (bs g), .string (bs a), .slice none 0 0, .string (bs (tx l)), .string (lastTx ((kidsF nmR i.kids).take k))]) ∧ Hid (Below w.heap.size w wr)) (fun i2 _ => L.length - (intOf i2).toNat)
                case atStart => exact ⟨0, rfl, Nat.zero_le _, HLR, HV, HM, HB⟩
                case round =>
                  clear HLR HV HM HB
                  obtain ⟨k, rfl, hk, HLR, HV, HM, HB⟩ := hrel
                  by_cases hlt : k < L.length
                  · obtain ⟨b, rfl, hbl, c0, c1, c2, c3⟩ := row_at HLR.out.own (List.getElem?_eq_getElem hlt)
                    have HNY := Lib.hid (HLR.out.nodes L[k] (List.getElem_mem hlt))
                    have hkk : k < (kidsF nmR i.kids).length := by rw [← HLL.out]; exact hlt
                    have hyk : L[k].1 = (kidsF nmR i.kids)[k] := by
                      have h := HLK.out
                      have e : (L.map (·.1))[k]? = (kidsF nmR i.kids)[k]? := by rw [h]
                      rw [List.getElem?_map, List.getElem?_eq_getElem hlt, List.getElem?_eq_getElem hkk] at e
                      exact Option.some.inj e
                    have HLT1 : Hid (lastTx ((kidsF nmR i.kids).take (k + 1)) = bs (tx L[k].1)) := by show _ = _; rw [lastTx_take hkk, hyk]
                    have HLY : Hid (LightT L[k].1) := by show LightT _; rw [hyk]; exact kidsF_light HLi.out _ (List.getElem_mem hkk)
                    have HKL : Hid (k + 1 ≤ L.length) := hlt
                    have d1 : (k : Int) < (L.length : Int) := by omega
                    have wk : IntKind.i64.wrap ((k : Int) + 1) = (k : Int) + 1 := IntWalk.i64_in _ (by have := HLB.out; omega)
                    generalize L[k] = y at *
                    obtain ⟨y, yav, ykv⟩ := y
                    simp only at c0 c1 c2 c3 HNY HLT1 HLY
                    obtain ⟨yao, yac, yko, ykc, rfl, rfl, -, -⟩ := HNY.out.shape
                    have HTY : Hid (∀ W, Below wr.heap.size wr W → Calls Tryd.prog 50 #[nodeV y (.slice yao y.attrs.length yac) (.slice yko y.kids.length ykc)] W fun e w' => e = .returned (.string (bs (tx y))) ∧ Below W.heap.size W w') := fun W hb => text_any y W _ _ (HNY.out.later hb).node (by have := HLY.out.textL; omega)
                    unfold nodeV at HTY
                    generalize tx y = ty at *
                    clear HNY HLY hkk hyk hlt
                    go_upto_region 25 with fail
                    refine wp_world ?_
                    intro W1 hW
                    have y1 : Box W1 wr.heap.size [.string (bs y.name), .slice yao y.attrs.length yac, .slice yko y.kids.length ykc, .string (bs y.text)] := by rw [hW]; exact Box.new wr [.string (bs y.name), .slice yao y.attrs.length yac, .slice yko y.kids.length ykc, .string (bs y.text)] _ _ rfl
                    have hb : Below wr.heap.size wr W1 := by rw [hW]; exact (Below.refl _ _).alloc (Nat.le_refl _) _
                    clear hW c0 c1 c2 c3 hbl d1
                    replace HLR := Lib.hid (HLR.out.below hb)
                    replace HV := Lib.hid (HV.out.below hb)
                    replace HM := Lib.hid (HM.out.below hb HM.out.lt)
                    replace HB := Lib.hid (HB.out.trans (hb.mono HB.out.size))
                    have HTZ := Lib.hid (HTY.out W1 hb)
                    clear HTY hb
                    have x0 := y1.cell 0 _ rfl
                    have x1 := y1.cell 1 _ rfl
                    have x2 := y1.cell 2 _ rfl
                    have x3 := y1.cell 3 _ rfl
                    have xl := y1.lt
                    clear y1
                    go_wp2_with fail
                    refine HTZ.out.mono ?_
                    rintro e W2 ⟨rfl, hb⟩
                    replace HLR := Lib.hid (HLR.out.below hb)
                    replace HV := Lib.hid (HV.out.below hb)
                    replace HM := Lib.hid (HM.out.below hb HM.out.lt)
                    replace HB := Lib.hid (HB.out.trans (hb.mono HB.out.size))
                    clear hb HTZ x0 x1 x2 x3 xl
                    have m4 := HM.out.cell 4 _ rfl
                    have ml := HM.out.lt
                    have mf := HM.out.free 4
                    go_upto_region 26 with fail
                    refine wp_world ?_
                    intro W3 hW
                    have HM3 : Hid (Box W3 (w.heap.size + 1) [.string (bs g), .string (bs a), .slice none 0 0, .string (bs (tx l)), .string (bs ty)]) := by show Box _ _ _; rw [hW]; exact HM.out.set 4 _
                    have hg : W2.grownBy W3 (some (w.heap.size + 1)) := by rw [hW]; exact setCell_grown _ _ _ _
                    have HLR3 := Lib.hid (HLR.out.put hg (by omega) (by omega))
                    have HV3 := Lib.hid (HV.out.put hg (by omega) (by have := HZv.out; omega))
                    have HB3 := Lib.hid (grB HB.out hg (by omega) (Nat.le_refl _))
                    clear hW hg m4 ml mf HLR HV HM HB
                    rw [← show lastTx _ = bs ty from HLT1.out] at HM3
                    go_wp2
                    go_roundw
                    case rel => exact ⟨k + 1, by first | rfl | go_num, HKL.out, HLR3, HV3, HM3, HB3⟩
                    case measure => simp [intOf]; have := HKL.out; omega
                  · obtain rfl : k = L.length := by omega
                    have d1 : ¬ (L.length : Int) < (L.length : Int) := by omega
                    have HM1 := HM.out
                    rw [List.take_of_length_le (by rw [HLL.out]; exact Nat.le_refl _)] at HM1
                    replace HM := Lib.hid HM1
                    clear HM1 HLR HLL HLK
                    have HKD := Lib.hid (kids_x v nmVer wr _ _ HV.out.node (by have := lightT_kidl HLv.out; omega))
                    unfold nodeV bs at HKD
                    have x0 := HV.out.box.cell 0 _ rfl
                    have x1 := HV.out.box.cell 1 _ rfl
                    have x2 := HV.out.box.cell 2 _ rfl
                    have x3 := HV.out.box.cell 3 _ rfl
                    have xl := HV.out.box.lt
                    go_wp2_with fail
                    refine HKD.out.mono ?_
                    rintro e w9 ⟨vv, L2, rfl, hL, hc⟩
                    have hb1 := hc.below
                    have HQR : Hid (RowF w w9 (w.heap.size + 3) vv L2) := RowF.of hc (by have := HV.out.box.lt; have := HZv.out; omega)
                    have HQK := Lib.hid hL
                    replace HM := Lib.hid (HM.out.below hb1 HM.out.lt)
                    replace HB := Lib.hid (HB.out.trans (hb1.mono HB.out.size))
                    have HS9 : Hid (w.heap.size + 3 ≤ w9.heap.size) := by have h1 := HV.out.box.lt; have h2 := HZv.out; have h3 := hb1.size; show _ ≤ _; omega
                    obtain ⟨qo, qc, rfl⟩ := HQR.out.own.shape
                    clear hb1 hL hc HKD HV x0 x1 x2 x3 xl
                    have HQL : Hid (L2.length = (kidsF nmVer v.kids).length) := by show _ = _; rw [← HQK.out, List.length_map]
                    have HQB : Hid (L2.length ≤ 300) := by
                      have h1 := List.length_filter_le (isKid nmVer) v.kids
                      have h2 := lightT_kidl HLv.out
                      have h3 := HQL.out
                      unfold kidsF at h3
                      show _ ≤ _; omega
                    have HLV := Lib.hid (fun x hx => kidsF_light (m := nmVer) HLv.out x hx)
                    have HVLN : Hid (∀ k, (txs ((kidsF nmVer v.kids).take k)).length ≤ k) := fun k => by unfold txs; rw [List.length_map, List.length_take]; omega
                    go_wp2
                    go_loopw [87] (fun i2 wx => ∃ (k n : Nat) (mo : Option Addr) (mc : Nat), i2 = .int .i64 k ∧ k ≤ L2.length ∧ Hid (RowF w wx (w.heap.size + 3) (.slice qo L2.length qc) L2) ∧ Hid (Owns (w.heap.size + 3) 9 1 strC wx (.slice mo n mc) (txs ((kidsF nmVer v.kids).take k))) ∧ Hid (Box wx (w.heap.size + 1) [.string (bs g), .string (bs a), .slice mo n mc, .string (bs (tx l)), .string (lastTx (kidsF nmR i.kids))]) ∧ Hid (w.heap.size + 3 ≤ wx.heap.size) ∧ Hid (Below w.heap.size w wx)) (fun i2 _ => L2.length - (intOf i2).toNat)
                    case atStart => exact ⟨0, 0, none, 0, rfl, Nat.zero_le _, HQR, Owns.nil, HM, HS9, HB⟩
                    case round =>
                      clear HQR HM HB HS9
                      obtain ⟨k, n, mo, mc, rfl, hk, HQR, HO, HM, HS3, HB⟩ := hrel
                      obtain ⟨wo, rfl⟩ : ∃ wo : World, wo = wr := ⟨_, rfl⟩
                      by_cases hlt : k < L2.length
                      · obtain ⟨b, rfl, hbl, c0, c1, c2, c3⟩ := row_at HQR.out.own (List.getElem?_eq_getElem hlt)
                        have HNY := Lib.hid (HQR.out.nodes L2[k] (List.getElem_mem hlt))
                        have hkk : k < (kidsF nmVer v.kids).length := by rw [← HQL.out]; exact hlt
                        have hyk : L2[k].1 = (kidsF nmVer v.kids)[k] := by
                          have h := HQK.out
                          have e : (L2.map (·.1))[k]? = (kidsF nmVer v.kids)[k]? := by rw [h]
                          rw [List.getElem?_map, List.getElem?_eq_getElem hlt, List.getElem?_eq_getElem hkk] at e
                          exact Option.some.inj e
                        have HTS : Hid (txs ((kidsF nmVer v.kids).take (k + 1)) = txs ((kidsF nmVer v.kids).take k) ++ [bs (tx L2[k].1)]) := by show _ = _; rw [txs_take hkk, hyk]
                        have HLY : Hid (LightT L2[k].1) := by show LightT _; rw [hyk]; exact HLV.out _ (List.getElem_mem hkk)
                        have HKL : Hid (k + 1 ≤ L2.length) := hlt
                        have HNK := Lib.hid (HVLN.out k)
                        have d1 : (k : Int) < (L2.length : Int) := by omega
                        have wk : IntKind.i64.wrap ((k : Int) + 1) = (k : Int) + 1 := IntWalk.i64_in _ (by have := HQB.out; omega)
                        generalize L2[k] = y at *
                        obtain ⟨y, yav, ykv⟩ := y
                        simp only at c0 c1 c2 c3 HNY HTS HLY
                        obtain ⟨yao, yac, yko, ykc, rfl, rfl, -, -⟩ := HNY.out.shape
                        have HTY : Hid (∀ W, Below wo.heap.size wo W → Calls Tryd.prog 50 #[nodeV y (.slice yao y.attrs.length yac) (.slice yko y.kids.length ykc)] W fun e w' => e = .returned (.string (bs (tx y))) ∧ Below W.heap.size W w') := fun W hb => text_any y W _ _ (HNY.out.later hb).node (by have := HLY.out.textL; omega)
                        unfold nodeV at HTY
                        have hnl : n = (txs ((kidsF nmVer v.kids).take k)).length := by obtain ⟨_, _, e⟩ := HO.out.shape; cases e; rfl
                        have HNL := Lib.hid hnl
                        clear hnl
                        generalize txs ((kidsF nmVer v.kids).take k) = vl at *
                        obtain ⟨ty, hty⟩ : ∃ ty : S, bs (tx y) = ty := ⟨_, rfl⟩
                        rw [hty] at HTY HTS
                        clear HNY HLY hkk hyk hlt hty
                        go_upto_region 30 with fail
                        refine wp_world ?_
                        intro W1 hW
                        have y1 : Box W1 wo.heap.size [.string (bs y.name), .slice yao y.attrs.length yac, .slice yko y.kids.length ykc, .string (bs y.text)] := by rw [hW]; exact Box.new wo [.string (bs y.name), .slice yao y.attrs.length yac, .slice yko y.kids.length ykc, .string (bs y.text)] _ _ rfl
                        have hb : Below wo.heap.size wo W1 := by rw [hW]; exact (Below.refl _ _).alloc (Nat.le_refl _) _
                        clear hW c0 c1 c2 c3 hbl d1
                        replace HQR := Lib.hid (HQR.out.below hb)
                        replace HO := Lib.hid (HO.out.below hb)
                        replace HM := Lib.hid (HM.out.below hb HM.out.lt)
                        replace HB := Lib.hid (HB.out.trans (hb.mono HB.out.size))
                        have HTZ : Hid (∀ W, Below W1.heap.size W1 W → Calls Tryd.prog 50 #[.agg #[.string (bs y.name), .slice yao y.attrs.length yac, .slice yko y.kids.length ykc, .string (bs y.text)]] W fun e w' => e = .returned (.string ty) ∧ Below W.heap.size W w') := fun W hb2 => HTY.out W (hb.trans (hb2.mono hb.size))
                        clear HTY hb
                        have x0 := y1.cell 0 _ rfl
                        have x1 := y1.cell 1 _ rfl
                        have x2 := y1.cell 2 _ rfl
                        have x3 := y1.cell 3 _ rfl
                        have xl := y1.lt
                        have HYB := Lib.hid y1
                        clear y1
                        have m2 := HM.out.cell 2 _ rfl
                        have ml := HM.out.lt
                        have mf := HM.out.free 2
                        have HW3 : Hid (w.heap.size + 3 ≤ W1.heap.size) := by have h1 := HS3.out; have h3 := HYB.out.lt; show _ ≤ _; omega
                        have HTZD : Hid (Calls Tryd.prog 50 #[.agg #[.string (bs y.name), .slice yao y.attrs.length yac, .slice yko y.kids.length ykc, .string (bs y.text)]] W1.drew fun e w' => e = .returned (.string ty) ∧ Below W1.drew.heap.size W1.drew w') := HTZ.out _ ⟨rfl, rfl, rfl, Nat.le_refl _, fun _ _ => rfl⟩
                        clear HTZ
                        go_upto_region 30 with fail
                        go_region_law (first | (go_simp; go_at_call 50; refine HTZD.out.mono ?_; rintro e w5 ⟨rfl, hb5⟩; have HB5 : Hid (Below W1.heap.size W1 w5) := ⟨hb5.os, hb5.tape, hb5.output, hb5.size, hb5.block⟩; have HM5 := Lib.hid (HM.out.below HB5.out HM.out.lt); have HOA : Hid (Owns (w.heap.size + 3) 9 1 strC (w5.alloc (.cells #[.string ty] 9)) (.slice mo n mc) vl) := (HO.out.below HB5.out).alloc _; have HNA : Hid (SliceOf 1 strC (w5.alloc (.cells #[.string ty] 9)) (.slice (some ⟨w5.heap.size, 0, none⟩) 1 1) [ty]) := (by show SliceOf _ _ _ _ _; simpa [strC] using sliceLit strC_lV w5 [ty] 9 w5.heap.size 1 rfl rfl (by simp [maxLen])); have k2 : w5.cell? ⟨w.heap.size + 1, 2, none⟩ = _ := HM5.out.cell 2 _ rfl; have kl := HM5.out.lt; have kf : w5.frozen? ⟨w.heap.size + 1, 2, none⟩ = false := HM5.out.free 2; have HYB5 := Lib.hid (HYB.out.below HB5.out HYB.out.lt); clear hb5) | (refine step_append_slice _ rfl (.tmp 92) (.tmp 95) 29 rfl (w.heap.size + 3) 9 Tryd.underlying29 info_str rfl (by decide) strC_lV (.slice mo n mc) vl (by simp [Act.eval]) HOA.out (.slice (some ⟨w5.heap.size, 0, none⟩) 1 1) [ty] (by simp [Act.eval]) HNA.out (strC_onesR _) (by have h1 := HNK.out; have h2 := HQB.out; have h3 := HKL.out; simp only [List.length_singleton]; omega) (by decide) (by have h1 := HB5.out.size; have h2 := HW3.out; simp; omega) ?_; intro a8 n8 c8 w8 ho8 hg8; have HO8 := Lib.hid ho8; have HG8 := Lib.hid hg8; have HM8 := Lib.hid ((HM5.out.alloc _).grown hg8 (fun e => by have h1 := HOA.out.lt _ e.symm; omega)); have j2 : w8.cell? ⟨w.heap.size + 1, 2, none⟩ = _ := HM8.out.cell 2 _ rfl; have jl := HM8.out.lt; have jf : w8.frozen? ⟨w.heap.size + 1, 2, none⟩ = false := HM8.out.free 2; clear ho8 hg8) | fail)
                        all_goals
                          obtain ⟨W3, hW⟩ : ∃ W, w8.setCell ⟨w.heap.size + 1, 2, none⟩ (.slice a8 n8 c8) = W := ⟨_, rfl⟩
                          rw [hW]
                          have hg : w8.grownBy W3 (some (w.heap.size + 1)) := by rw [← hW]; exact setCell_grown _ _ _ _
                          have HM3 : Hid (Box W3 (w.heap.size + 1) [.string (bs g), .string (bs a), .slice a8 n8 c8, .string (bs (tx l)), .string (lastTx (kidsF nmR i.kids))]) := by show Box _ _ _; rw [← hW]; exact HM8.out.set 2 _
                          have hba : Below W1.heap.size W1 (w5.alloc (.cells #[.string ty] 9)) := HB5.out.trans ((Below.refl _ _).alloc HB5.out.size _)
                          have hqr := HQR.out.below hba
                          have hq8 : RowF w w8 (w.heap.size + 3) (.slice (some ⟨b, 0, none⟩) L2.length qc) L2 := ⟨hqr.own.kept HG8.out (own_kindsR hqr.own HOA.out (by decide)), fun y hy => (hqr.nodes y hy).keep (KeptX.grown HG8.out fun g e => by have h1 := HOA.out.lt _ e; unfold XX; omega) (fun _ _ h => h)⟩
                          have HQR3 := Lib.hid (hq8.put hg (by omega) (by omega))
                          have hn8 : n8 = vl.length + 1 := by obtain ⟨_, _, e⟩ := HO8.out.shape; cases e; simp
                          have HN8 := Lib.hid hn8
                          have HO3 := Lib.hid (HO8.out.keptR hg (by omega))
                          have HS8 : Hid (w.heap.size + 3 ≤ W3.heap.size) := by have h1 := HW3.out; have h2 := hba.size; have h3 := HG8.out.size; have h4 := hg.size; show _ ≤ _; omega
                          have HB3 : Hid (Below w.heap.size w W3) := (((HB.out.trans (hba.mono HB.out.size)).grown HG8.out (by have h1 := hba.size; have h2 := HB.out.size; omega) (fun j hj => by have h1 := HOA.out.lt _ hj; omega))).grown hg (by have h1 := hba.size; have h2 := HB.out.size; have h3 := HG8.out.size; omega) (fun j hj => by cases hj; omega)
                          clear hW hg hba hqr hq8 hn8 HM5 HOA HNA HB5 HG8 HM8 HO8 j2 jl jf k2 kl kf HQR HO HM HB HYB5
                          clear m2 ml mf x0 x1 x2 x3 xl HYB
                          rw [← show txs _ = _ from HTS.out] at HO3
                          go_wp2
                          go_roundw
                          case rel => exact ⟨k + 1, n8, a8, c8, by first | rfl | go_num, HKL.out, HQR3, HO3, HM3, HS8, HB3⟩
                          case measure => simp [intOf]; have := HKL.out; omega
                      · obtain rfl : k = L2.length := by omega
                        have d1 : ¬ (L2.length : Int) < (L2.length : Int) := by omega
                        have HO1 := HO.out
                        rw [List.take_of_length_le (by rw [HQL.out]; exact Nat.le_refl _)] at HO1
                        replace HO := Lib.hid HO1
                        clear HO1 HQR HQK
                        have HSM : Hid (MetaSm ⟨⟨bs g, bs a⟩, txs (kidsF nmVer v.kids), bs (tx l), lastTx (kidsF nmR i.kids)⟩) := by
                          refine ⟨by have := HIg.out; show (bs g : S).size ≤ _; omega, by have := HIa.out; show (bs a : S).size ≤ _; omega, ?_, ?_⟩
                          · have h1 := HQL.out
                            have h2 := HQB.out
                            show (txs _).length ≤ _
                            unfold txs
                            rw [List.length_map]
                            omega
                          · intro x hx
                            obtain ⟨y, hy, rfl⟩ := List.mem_map.1 hx
                            have := tx_len (HLV.out y hy)
                            rw [bs_size]
                            omega
                        have HR2 : Hid (R = readM7 ⟨⟨bs g, bs a⟩, txs (kidsF nmVer v.kids), bs (tx l), lastTx (kidsF nmR i.kids)⟩) := HR.out
                        clear HR HLV HQL HQB HVLN HIg HIa
                        generalize lastTx (kidsF nmR i.kids) = RL at *
                        generalize txs (kidsF nmVer v.kids) = VL at *
                        have HMY := Lib.hid (metaMay_any ⟨⟨bs g, bs a⟩, VL, bs (tx l), RL⟩ (.slice mo n mc) wo (HO.out.slice strC_lV) HSM.out)
                        unfold metaAg metaC at HMY
                        have HRM : Hid (R = if mayM ⟨⟨bs g, bs a⟩, VL, bs (tx l), RL⟩ = true then .ok ⟨⟨bs g, bs a⟩, VL, bs (tx l), RL⟩ else .error nmMeta) := HR2.out
                        clear HR2 HSM
                        generalize mayM ⟨⟨bs g, bs a⟩, VL, bs (tx l), RL⟩ = q at *
                        have m0 := HM.out.cell 0 _ rfl
                        have m1 := HM.out.cell 1 _ rfl
                        have m2 := HM.out.cell 2 _ rfl
                        have m3 := HM.out.cell 3 _ rfl
                        have m4 := HM.out.cell 4 _ rfl
                        have ml := HM.out.lt
                        go_wp2_with fail
                        refine HMY.out.mono ?_
                        rintro e w8 ⟨rfl, hb⟩
                        replace HO := Lib.hid (HO.out.below hb)
                        replace HM := Lib.hid (HM.out.below hb HM.out.lt)
                        replace HB := Lib.hid (HB.out.trans (hb.mono HB.out.size))
                        clear hb HMY m0 m1 m2 m3 m4 ml
                        cases q with
                        | false =>
                          have HRE : Hid (R = .error nmMeta) := HRM.out
                          go_wp2_with ((with_reducible show wpList _ _ _ (Oper.mk none (Op.store 31 (.tmp 2) (.tmp 102)) _ _ _ _ :: _) _ _); refine wpList_store_box rfl 31 (.tmp 2) (.tmp 102) rfl (w.heap.size + 1) _ [.string ⟨#[]⟩, .string ⟨#[]⟩, .slice none 0 0, .string ⟨#[]⟩, .string ⟨#[]⟩] rfl rfl HM.out rfl (by kernel_rfl) (by simp [Value.oneCell']) ?_; intro W7 v7 hg7; have HV7 := Lib.hid v7; have HB7 := Lib.hid (grB HB.out hg7 (by omega) (Nat.le_refl _)); clear v7 hg7)
                          have z0 := HV7.out.cell 0 _ rfl
                          have z1 := HV7.out.cell 1 _ rfl
                          have z2 := HV7.out.cell 2 _ rfl
                          have z3 := HV7.out.cell 3 _ rfl
                          have z4 := HV7.out.cell 4 _ rfl
                          have zl := HV7.out.lt
                          clear HM HB
                          go_wp2
                          refine bodyPost_ret (v := .tuple #[.agg metaZ.toArray, .int .i64 20, .string ⟨#[109, 101, 116, 97, 100, 97, 116, 97]⟩]) (by simp [results, Tryd.results23, go_sem, z0, z1, z2, z3, z4, metaZ]) rfl ?_
                          rw [HRE.out]
                          exact ⟨HB7.out, rfl⟩
                        | true =>
                          have HRE : Hid (R = .ok ⟨⟨bs g, bs a⟩, VL, bs (tx l), RL⟩) := HRM.out
                          have m0 := HM.out.cell 0 _ rfl
                          have m1 := HM.out.cell 1 _ rfl
                          have m2 := HM.out.cell 2 _ rfl
                          have m3 := HM.out.cell 3 _ rfl
                          have m4 := HM.out.cell 4 _ rfl
                          have ml := HM.out.lt
                          go_wp2_with ((with_reducible show wpList _ _ _ (Oper.mk none (Op.store 31 (.tmp 2) (.tmp 103)) _ _ _ _ :: _) _ _); refine wpList_store_box rfl 31 (.tmp 2) (.tmp 103) rfl (w.heap.size + 1) _ [.string (bs g), .string (bs a), .slice mo n mc, .string (bs (tx l)), .string RL] rfl rfl HM.out rfl (by kernel_rfl) (by simp [Value.oneCell']) ?_; intro W7 v7 hg7; have HV7 := Lib.hid v7; have HB7 := Lib.hid (grB HB.out hg7 (by omega) (Nat.le_refl _)); have HO7 := Lib.hid (HO.out.keptR hg7 (by omega)); clear v7 hg7)
                          clear m0 m1 m2 m3 m4 ml
                          have z0 := HV7.out.cell 0 _ rfl
                          have z1 := HV7.out.cell 1 _ rfl
                          have z2 := HV7.out.cell 2 _ rfl
                          have z3 := HV7.out.cell 3 _ rfl
                          have z4 := HV7.out.cell 4 _ rfl
                          have zl := HV7.out.lt
                          clear HM HB HO
                          go_wp2
                          refine bodyPost_ret (v := .tuple #[.agg #[.string (bs g), .string (bs a), .slice mo n mc, .string (bs (tx l)), .string RL], .int .i64 0, .string ⟨#[]⟩]) (by simp [results, Tryd.results23, go_sem, z0, z1, z2, z3, z4]) rfl ?_
                          rw [HRE.out]
                          exact ⟨HB7.out, _, HO7.out.slice strC_lV, rfl⟩
  · have HRE : Hid (R = .error t.name) := by show _ = _; rw [HR.out, if_neg hn]
    rw [decide_eq_false hn] at hnm
    clear HR hn
    have m0 := HM.out.cell 0 _ rfl
    have m1 := HM.out.cell 1 _ rfl
    have m2 := HM.out.cell 2 _ rfl
    have m3 := HM.out.cell 3 _ rfl
    have m4 := HM.out.cell 4 _ rfl
    have ml := HM.out.lt
    have f0 := HM.out.free 0
    have f1 := HM.out.free 1
    have f2 := HM.out.free 2
    have f3 := HM.out.free 3
    have f4 := HM.out.free 4
    have ne1 : w.heap.size ≠ w.heap.size + 1 := by omega
    have ne2 : w.heap.size + 1 ≠ w.heap.size := by omega
    go_upto_region 2 with fail
    clear hnm
    go_big_region
    all_goals
      obtain ⟨W7, hW⟩ : ∃ W', (((((W.setCell ⟨w.heap.size + 1, 0, none⟩ (.string ⟨#[]⟩)).setCell ⟨w.heap.size + 1, 1, none⟩ (.string ⟨#[]⟩)).setCell ⟨w.heap.size + 1, 2, none⟩ (.slice none 0 0)).setCell ⟨w.heap.size + 1, 3, none⟩ (.string ⟨#[]⟩)).setCell ⟨w.heap.size + 1, 4, none⟩ (.string ⟨#[]⟩)).drew = W' := ⟨_, rfl⟩
      rw [hW]
      have h5 : Box W7 (w.heap.size + 1) [.string ⟨#[]⟩, .string ⟨#[]⟩, .slice none 0 0, .string ⟨#[]⟩, .string ⟨#[]⟩] ∧ W.grownBy W7 (some (w.heap.size + 1)) := by rw [← hW]; have h6 := box5R (v0 := .string ⟨#[]⟩) (v1 := .string ⟨#[]⟩) (v2 := .slice none 0 0) (v3 := .string ⟨#[]⟩) (v4 := .string ⟨#[]⟩) HM.out; exact ⟨⟨h6.1.lt, h6.1.cell, h6.1.free⟩, h6.2.trans ⟨rfl, rfl, rfl, Nat.le_refl _, fun _ _ _ => rfl⟩⟩
      obtain ⟨v7, hg7⟩ := h5
      have HV7 := Lib.hid v7
      have HB7 : Hid (Below w.heap.size w W7) := grB HB.out hg7 (by omega) (Nat.le_refl _)
      clear v7 hg7 hW m0 m1 m2 m3 m4 ml f0 f1 f2 f3 f4 x0 x1 x2 x3 xl
      have z0 := HV7.out.cell 0 _ rfl
      have z1 := HV7.out.cell 1 _ rfl
      have z2 := HV7.out.cell 2 _ rfl
      have z3 := HV7.out.cell 3 _ rfl
      have z4 := HV7.out.cell 4 _ rfl
      have zl := HV7.out.lt
      go_wp2
      refine bodyPost_ret (v := .tuple #[.agg metaZ.toArray, .int .i64 20, .string (bs t.name)]) (by simp [results, Tryd.results23, go_sem, z0, z1, z2, z3, z4, metaZ]) rfl ?_
      rw [HRE.out]
      exact ⟨HB7.out, rfl⟩

end Go.Proofs.YtecffghcpknmjaaDoor
