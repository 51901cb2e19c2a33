/- Walks of pom's reader: fail, field, text; the conditions stand in the theorems. -/
import Derived.Test.YtphaeegbmfpcgaaGreatFA12
import Derived.Test.YtphaeegbmfpcgaaGreatFA08
import Derived.Laws.EntriesVeiled
import Derived.Test.YtphaeegbmfpcgaaGreatFA11
import Derived.Test.YtphaeegbmfpcgaaGreatFA03
import Derived.Deep.RegionLaw
import Derived.Deep.RegionLawGrows
import Derived.Deep.AppendLies
import Derived.Deep.RegionHeld3
import Derived.IntWalk

namespace Go.Proofs.YtphaeegbmfpcgaaGreat
open Go Go.RowKit

/-- What goes wrong, as a panic. -/
def faultQ (x : Er) : Value := .iface 112 (.agg #[.int .i64 x.1, .string (bs x.2)])
def panE (x : Er) : Ending := .panicked [{ v := faultQ x, recovered := false }]
/-- The post of a function of the reader: what it gives back where nothing is wrong, or the first error as a panic. -/
def Ret (o : Option Er) (P : Ending → World → Prop) (w : World) (e : Ending) (w' : World) : Prop :=
 Below w.heap.size w w' ∧ (∀ x, o = some x → e = panE x) ∧ (o = none → P e w')
theorem Ret.bad {o : Option Er} {P : Ending → World → Prop} {w w' : World} {e : Ending} {x : Er} (h : o = some x) (hb : Below w.heap.size w w') (he : e = panE x) : Ret o P w e w' :=
 ⟨hb, fun y hy => by rw [h] at hy; cases hy; exact he, fun ha => by rw [h] at ha; cases ha⟩
theorem Ret.good {o : Option Er} {P : Ending → World → Prop} {w w' : World} {e : Ending} (h : o = none) (hb : Below w.heap.size w w') (he : P e w') : Ret o P w e w' :=
 ⟨hb, fun y hy => (by rw [h] at hy; cases hy), fun _ => he⟩
def elemV (t : Tr) (av kv : Value) (wh : Bs) : Value := .agg #[.string (bs t.name), av, kv, .string (bs t.text), .string (bs wh)]
def FieldX (X : Nat → Prop) (wh m : Bs) : Option Tr → Ending → World → Prop
 | none, e, _ => e = .returned (.tuple #[.agg #[.string ⟨#[]⟩, .slice none 0 0, .slice none 0 0, .string ⟨#[]⟩, .string (bs (sl wh m))], .bool false])
 | some k, e, w' => ∃ av kv, e = .returned (.tuple #[elemV k av kv (sl wh m), .bool true]) ∧ NodeX X w' k av kv
def FieldP (wh m : Bs) (o : Option Tr) (e : Ending) (w' : World) : Prop := FieldX (fun _ => False) wh m o e w'
theorem collQ {X : Nat → Prop} {B : Nat} {w wr w' : World} {v : Value} {L : List TrV} (h : CollX X B w wr v L) (hb : Below wr.heap.size wr w') : SliceOf 4 trC w' v L ∧ ∀ y ∈ L, NodeX (fun j => X j ∨ B ≤ j) w' y.1 y.2.1 y.2.2 :=
 ⟨(h.own.below hb).slice trC_len, fun y hy => (h.nodes y hy).later hb⟩
/-- An element of a list of nodes. -/
theorem nodesQ {X : Nat → Prop} {w : World} {a : Option Addr} {n c : Nat} {L : List TrV} (h : SliceOf 4 trC w (.slice a n c) L) (hn : ∀ y ∈ L, NodeX X w y.1 y.2.1 y.2.2) (k : Nat) (hk : k < L.length) : ∃ g o a1 a2 a3 a4, a = some ⟨g, o, none⟩ ∧ g < w.heap.size ∧ w.cell? ⟨g, o + k * 4, none⟩ = some (.string (bs L[k].1.name)) ∧ w.cell? ⟨g, o + k * 4 + 1, none⟩ = some (.slice a1 L[k].1.attrs.length a2) ∧ w.cell? ⟨g, o + k * 4 + 2, none⟩ = some (.slice a3 L[k].1.kids.length a4) ∧ w.cell? ⟨g, o + k * 4 + 3, none⟩ = some (.string (bs L[k].1.text)) ∧ NodeX X w L[k].1 (.slice a1 L[k].1.attrs.length a2) (.slice a3 L[k].1.kids.length a4) := by
 obtain ⟨ao, cap, e, -, -, -, h5⟩ := h
 simp only [Value.slice.injEq] at e
 obtain ⟨rfl, -, -⟩ := e
 obtain ⟨g, o, e1, e2, e3⟩ := h5 k L[k] (List.getElem?_eq_getElem hk)
 have hy := hn L[k] (List.getElem_mem hk)
 obtain ⟨x1, x2, x3, x4, f1, f2, -, -⟩ := hy.shape
 rw [f1, f2] at hy
 exact ⟨g, o, x1, x2, x3, x4, e1, e2, by simpa using e3 0 _ rfl, by rw [← f1]; exact e3 1 _ rfl, by rw [← f2]; exact e3 2 _ rfl, e3 3 _ rfl, hy⟩
theorem NodeX.freshX {X : Nat → Prop} {w : World} {t : Tr} {av kv : Value} (h : NodeX X w t av kv) : NodeX (fun j => X j ∨ w.heap.size ≤ j) w t av kv := h.keep (KeptX.refl _ _) (fun k h1 h2 => h2.elim id (fun h => absurd h1 (by omega)))
theorem NodeX.fresh {X : Nat → Prop} {w : World} {t : Tr} {av kv : Value} (h : NodeX X w t av kv) : NodeX (fun j => w.heap.size ≤ j) w t av kv := h.keep (KeptX.refl _ _) (fun k h1 h2 => by omega)
theorem failQ_any (e : Int) (s : S) (w : World) :
    Calls Tryz.prog 47 #[.int .i64 e, .string s] w fun x w' => x = .panicked [{ v := .iface 112 (.agg #[.int .i64 e, .string s]), recovered := false }] ∧ w = w' := by
 go_enter Tryz.func47, Tryz.ntmps47
 go_wp2
 exact ⟨rfl, rfl, rfl⟩
theorem two_bs (w m : Bs) (X M : S) (h : X ++ ⟨#[47]⟩ ++ M = bs (sl w m)) : X ++ ⟨#[47]⟩ ++ M ++ ⟨#[91, 50, 93]⟩ = bs (two (sl w m)) := by
 rw [h]; show bs (sl w m) ++ bs [91, 50, 93] = _; rw [bs_append]; rfl
set_option maxRecDepth 100000 in
set_option maxHeartbeats 8000000 in
theorem field_x (Z : Nat → Prop) (t : Tr) (wh m : Bs) (w : World) (av kv : Value) (ht : NodeX Z w t av kv) (hkl : t.kids.length ≤ 100000) (hl : wh.length + m.length ≤ 1000000000000) :
    Calls Tryz.prog 48 #[elemV t av kv wh, .string (bs m)] w (Ret (manyE t wh m) (FieldX Z wh m (oneV t m)) w) := by
 obtain ⟨ao, ac, ko, kc, rfl, rfl, hal, -⟩ := ht.shape
 have HF1 : Hid (∀ x y l, kidsF m t.kids = x :: y :: l → manyE t wh m = some (20, two (sl wh m))) := fun x y l h => by unfold manyE; rw [h]; simp
 have HF2 : Hid (∀ x, kidsF m t.kids = [x] → manyE t wh m = none ∧ oneV t m = some x) := fun x h => by unfold manyE oneV; rw [h]; simp
 have HF3 : Hid (kidsF m t.kids = [] → manyE t wh m = none ∧ oneV t m = none) := fun h => by unfold manyE oneV; rw [h]; simp
 obtain ⟨r, hr⟩ : ∃ r, r = manyE t wh m := ⟨_, rfl⟩
 obtain ⟨o, ho⟩ : ∃ o, o = oneV t m := ⟨_, rfl⟩
 rw [← hr, ← ho]
 rw [← hr] at HF1
 rw [← hr, ← ho] at HF2 HF3
 clear hr ho
 obtain ⟨X, hX⟩ : ∃ X : S, X = bs wh := ⟨_, rfl⟩
 obtain ⟨M, hM⟩ : ∃ M : S, M = bs m := ⟨_, rfl⟩
 have HC : Hid (∀ W, Below w.heap.size w W → Calls Tryz.prog 71 #[.agg #[.string (bs t.name), .slice ao t.attrs.length ac, .slice ko t.kids.length kc, .string (bs t.text)], .string M] W fun e w' => ∃ v L, e = .returned v ∧ L.map (·.1) = kidsF m t.kids ∧ CollX (fun j => Z j ∨ w.heap.size ≤ j) W.heap.size W w' v L) := fun W h => by rw [hM]; exact kids_x t m W _ _ (ht.freshX.later h) hkl
 have HW : Hid (X ++ ⟨#[47]⟩ ++ M = bs (sl wh m)) := by show _ = _; rw [hX, hM]; show bs wh ++ bs [47] ++ bs m = _; rw [bs_append, bs_append, List.append_assoc]; rfl
 have hzX : X.size = wh.length := by rw [hX, bs_size]
 have hzM : M.size = m.length := by rw [hM, bs_size]
 have hs1 : ¬ 9223372036854775807 < X.size + 1 := by omega
 have hs2 : ¬ 9223372036854775807 < X.size + 1 + M.size := by omega
 have hs3 : ¬ 9223372036854775807 < X.size + 1 + M.size + 3 := by omega
 unfold elemV
 rw [← hX, ← hM]
 clear ht hX hM hzX hzM
 go_enter Tryz.func48, Tryz.ntmps48
 go_upto_region 1 with fail
 refine wp_world ?_
 intro W hW
 have x1 : Box W w.heap.size [.string (bs t.name), .slice ao t.attrs.length ac, .slice ko t.kids.length kc, .string (bs t.text), .string X] := by rw [hW]; exact (Box.new w [.string (bs t.name), .slice ao t.attrs.length ac, .slice ko t.kids.length kc, .string (bs t.text), .string X] _ _ rfl).alloc _
 have x2 : Box W (w.heap.size + 1) [.string ⟨#[]⟩, .slice none 0 0, .slice none 0 0, .string ⟨#[]⟩, .string ⟨#[]⟩] := by rw [hW]; exact Box.new (w.alloc _) [.string ⟨#[]⟩, .slice none 0 0, .slice none 0 0, .string ⟨#[]⟩, .string ⟨#[]⟩] _ _ (by simp)
 have hb : Below w.heap.size w W := by rw [hW]; exact ((Below.refl _ w).alloc (Nat.le_refl _) _).alloc (by simp) _
 clear hW
 have HX1 := Lib.hid x1
 have HX2 := Lib.hid x2
 have HB := Lib.hid hb
 clear x1 x2 hb
 obtain ⟨a0, a1, a2, a3, a4⟩ := bxc5 HX1.out
 have al := HX1.out.lt
 go_wp2_with fail
 refine (HC.out _ HB.out).mono ?_
 rintro e w1 ⟨v, L, rfl, hL, hco⟩
 obtain ⟨la, lc, rfl⟩ := hco.own.shape
 have hb1 := hco.below
 have HB1 := Lib.hid (HB.out.trans (hb1.mono HB.out.size))
 have HY1 := Lib.hid (HX1.out.below hb1 HX1.out.lt)
 have HY2 := Lib.hid (HX2.out.below hb1 HX2.out.lt)
 have HCO := Lib.hid (collQ hco (Below.refl _ _))
 clear a0 a1 a2 a3 a4 al hb1 hco
 obtain ⟨a0, a1, a2, a3, a4⟩ := bxc5 HY1.out
 have al := HY1.out.lt
 obtain ⟨r0, r1, r2, r3, r4⟩ := bxc5 HY2.out
 have rf0 := HY2.out.free 0
 have rf1 := HY2.out.free 1
 have rf2 := HY2.out.free 2
 have rf3 := HY2.out.free 3
 have rf4 := HY2.out.free 4
 have rl := HY2.out.lt
 have hbs : Below w.heap.size w w1 := HB1.out
 have HSB : Hid (∀ v0 v1 v2 v3 v4, Below w.heap.size w (((((w1.setCell ⟨w.heap.size + 1, 0, none⟩ v0).setCell ⟨w.heap.size + 1, 1, none⟩ v1).setCell ⟨w.heap.size + 1, 2, none⟩ v2).setCell ⟨w.heap.size + 1, 3, none⟩ v3).setCell ⟨w.heap.size + 1, 4, none⟩ v4)) :=
  fun v0 v1 v2 v3 v4 => ((((hbs.setCell (by simp) _).setCell (by simp) _).setCell (by simp) _).setCell (by simp) _).setCell (by simp) _
 clear hbs
 match L, hL, HCO with
 | [], hL, HCO =>
  have HF := Lib.hid (HF3.out hL.symm)
  clear hL HCO HF1 HF2 HF3 HC
  have HW2 : Hid ((bs (sl wh m) : S) = X ++ ⟨#[47]⟩ ++ M) := HW.out.symm
  go_wp2
  refine bodyPost_ret (v := .tuple #[.agg #[.string ⟨#[]⟩, .slice none 0 0, .slice none 0 0, .string ⟨#[]⟩, .string (X ++ ⟨#[47]⟩ ++ M)], .bool false]) (by simp [results, Tryz.results48, go_sem, r0, r1, r2, r3, r4]) rfl ?_
  refine Ret.good HF.out.1 (HSB.out _ _ _ _ _) ?_
  rw [HF.out.2]
  show _ = _
  rw [HW2.out]
 | [y], hL, HCO =>
  have HF := Lib.hid (HF2.out y.1 hL.symm)
  obtain ⟨g, o1, p1, p2, p3, p4, rfl, hg, c0, c1, c2, c3, hn⟩ := nodesQ HCO.out.1 HCO.out.2 0 (by simp)
  simp only [List.getElem_cons_zero, Nat.zero_mul, Nat.add_zero] at c0 c1 c2 c3 hn
  obtain ⟨k, ya, yk⟩ := y
  simp only at *
  have HN := Lib.hid hn
  clear hL HCO HF1 HF2 HF3 HC hn
  have HW2 : Hid ((bs (sl wh m) : S) = X ++ ⟨#[47]⟩ ++ M) := HW.out.symm
  have HNB : Hid (∀ v0 v1 v2 v3 v4, NodeX Z (((((w1.setCell ⟨w.heap.size + 1, 0, none⟩ v0).setCell ⟨w.heap.size + 1, 1, none⟩ v1).setCell ⟨w.heap.size + 1, 2, none⟩ v2).setCell ⟨w.heap.size + 1, 3, none⟩ v3).setCell ⟨w.heap.size + 1, 4, none⟩ v4) k (.slice p1 k.attrs.length p2) (.slice p3 k.kids.length p4)) := fun v0 v1 v2 v3 v4 =>
   HN.out.keep (((((keptX_set _ _ _ _ (by left; right; omega)).trans (keptX_set _ _ _ _ (by left; right; omega))).trans (keptX_set _ _ _ _ (by left; right; omega))).trans (keptX_set _ _ _ _ (by left; right; omega))).trans (keptX_set _ _ _ _ (by left; right; omega))) (fun _ _ h => .inl (.inl h))
  clear HN
  go_wp2
  refine bodyPost_ret (v := .tuple #[.agg #[.string (bs k.name), .slice p1 k.attrs.length p2, .slice p3 k.kids.length p4, .string (bs k.text), .string (X ++ ⟨#[47]⟩ ++ M)], .bool true]) (by simp [results, Tryz.results48, go_sem, r0, r1, r2, r3, r4]) rfl ?_
  refine Ret.good HF.out.1 (HSB.out _ _ _ _ _) ?_
  rw [HF.out.2]
  refine ⟨_, _, ?_, HNB.out _ _ _ _ _⟩
  unfold elemV
  rw [HW2.out]
 | y :: z :: L, hL, HCO =>
  have HF := Lib.hid (HF1.out _ _ _ hL.symm)
  have HW2 : Hid ((bs (two (sl wh m)) : S) = X ++ ⟨#[47]⟩ ++ M ++ ⟨#[91, 50, 93]⟩) := (two_bs _ _ _ _ HW.out).symm
  obtain ⟨n, hn⟩ : ∃ n : Nat, n = (y :: z :: L).length := ⟨_, rfl⟩
  have hn0 : ((n : Int) == 0) = false := by rw [beq_eq_false_iff_ne]; simp at hn; omega
  have hn1 : ((n : Int) == 1) = false := by rw [beq_eq_false_iff_ne]; simp at hn; omega
  rw [← hn]
  clear hL HCO HF1 HF2 HF3 HC hn
  go_wp2_with fail
  refine (failQ_any _ _ _).mono ?_
  rintro e w2 ⟨rfl, rfl⟩
  go_wp2
  refine ⟨rfl, Ret.bad HF.out HB1.out ?_⟩
  unfold panE faultQ
  rw [HW2.out]
theorem field_any (t : Tr) (wh m : Bs) (w : World) (av kv : Value) (ht : NodeOf w t av kv) (hkl : t.kids.length ≤ 100000) (hl : wh.length + m.length ≤ 1000000000000) :
    Calls Tryz.prog 48 #[elemV t av kv wh, .string (bs m)] w (Ret (manyE t wh m) (FieldP wh m (oneV t m)) w) :=
 field_x (fun _ => False) t wh m w av kv ht hkl hl
theorem kidsX_empty {m : Bs} {l : List Tr} {L : List TrV} (h : L.map (·.1) = kidsF m l) : ((kidsF m l).isEmpty = false → 0 < L.length) ∧ ((kidsF m l).isEmpty = true → L.length = 0) := by
 rw [← h]
 cases L <;> simp
set_option maxRecDepth 100000 in
set_option maxHeartbeats 8000000 in
theorem textQ_any (t : Tr) (wh : Bs) (b : Bool) (w : World) (av kv : Value) (ht : NodeOf w t av kv) (hkl : t.kids.length ≤ 100000) (hx : (textF t.kids).length ≤ 1000000000) :
    Calls Tryz.prog 72 #[elemV t av kv wh, .bool b] w (Ret (textE t wh b) (fun e _ => e = .returned (.string (bs (textV t)))) w) := by
 obtain ⟨ao, ac, ko, kc, rfl, rfl, hal, -⟩ := ht.shape
 obtain ⟨N, hN⟩ : ∃ N : Bs, N = textV t := ⟨_, rfl⟩
 obtain ⟨q, hq⟩ : ∃ q : Bool, q = (kidsF [] t.kids).isEmpty := ⟨_, rfl⟩
 have HE : Hid (textE t wh b = if !q || decide (1024 < N.length) || (N.isEmpty && !b) then some (20, wh) else none) := by show _ = _; rw [hq, hN]; rfl
 have HT : Hid (∀ W, Below w.heap.size w W → Calls Tryz.prog 103 #[.agg #[.string (bs t.name), .slice ao t.attrs.length ac, .slice ko t.kids.length kc, .string (bs t.text)]] W fun e w' => e = .returned (.string (bs N)) ∧ Below W.heap.size W w') := fun W h => by rw [hN]; exact text_any t W _ _ (ht.later h) hx
 have HC : Hid (∀ W, Below w.heap.size w W → Calls Tryz.prog 71 #[.agg #[.string (bs t.name), .slice ao t.attrs.length ac, .slice ko t.kids.length kc, .string (bs t.text)], .string ⟨#[]⟩] W fun e w' => ∃ a n c, e = .returned (.slice a n c) ∧ (q = false → 0 < n) ∧ (q = true → n = 0) ∧ Below W.heap.size W w') := fun W h =>
  (kids_any t [] W _ _ (ht.later h) hkl).mono fun _ _ ⟨v, L, h1, h2, h3⟩ => by
   obtain ⟨la, lc, rfl⟩ := h3.own.shape
   exact ⟨la, L.length, lc, h1, fun e => by rw [hq] at e; exact (kidsX_empty h2).1 e, fun e => by rw [hq] at e; exact (kidsX_empty h2).2 e, h3.below⟩
 rw [← hN]
 obtain ⟨r, hr⟩ : ∃ r, r = textE t wh b := ⟨_, rfl⟩
 rw [← hr] at HE ⊢
 clear hr ht hN hq
 have hbz : (bs N : S).size = N.length := bs_size _
 obtain ⟨X, hX⟩ : ∃ X : S, X = bs wh := ⟨_, rfl⟩
 unfold elemV
 rw [← hX]
 have HXW : Hid ((bs wh : S) = X) := hX.symm
 clear hX
 have hne : (bs N : S).toList.isEmpty = N.isEmpty := by rw [empty_data, bs_size]; cases N <;> simp
 have HNE := Lib.hid hne
 obtain ⟨Y, hY⟩ : ∃ Y : S, Y = bs N := ⟨_, rfl⟩
 rw [← hY] at HT hbz HNE ⊢
 clear hne hY hx
 go_enter Tryz.func72, Tryz.ntmps72
 go_upto_region 1 with fail
 refine wp_world ?_
 intro W hW
 have x1 : Box W w.heap.size [.string (bs t.name), .slice ao t.attrs.length ac, .slice ko t.kids.length kc, .string (bs t.text), .string X] := by rw [hW]; exact Box.new w [.string (bs t.name), .slice ao t.attrs.length ac, .slice ko t.kids.length kc, .string (bs t.text), .string X] _ _ rfl
 have hb : Below w.heap.size w W := by rw [hW]; exact (Below.refl _ w).alloc (Nat.le_refl _) _
 clear hW
 have HX1 := Lib.hid x1
 have HB := Lib.hid hb
 clear x1 hb
 obtain ⟨a0, a1, a2, a3, a4⟩ := bxc5 HX1.out
 have al := HX1.out.lt
 go_wp2_with fail
 refine (HT.out _ HB.out).mono ?_
 rintro e w1 ⟨rfl, hb1⟩
 have HB1 := Lib.hid (HB.out.trans (hb1.mono HB.out.size))
 have HY1 := Lib.hid (HX1.out.below hb1 HX1.out.lt)
 clear a0 a1 a2 a3 a4 al hb1
 obtain ⟨a0, a1, a2, a3, a4⟩ := bxc5 HY1.out
 have al := HY1.out.lt
 clear HT
 obtain ⟨lg, hlg⟩ : ∃ lg, lg = decide (1024 < N.length) := ⟨_, rfl⟩
 obtain ⟨em, hem⟩ : ∃ em, em = N.isEmpty := ⟨_, rfl⟩
 have hL : decide ((1024 : Int) < ((Y.size : Nat) : Int)) = lg := by rw [hlg, hbz]; exact decide_eq_decide.2 (by omega)
 have hM : Y.toList.isEmpty = em := by rw [hem]; exact HNE.out
 rw [← hlg, ← hem] at HE
 clear hlg hem HNE hbz
 cases q with
 | false =>
  have HR : Hid (r = some (20, wh)) := HE.out
  clear HE hL hM
  go_wp2_with fail
  refine (HC.out _ HB1.out).mono ?_
  rintro e w2 ⟨la, n, lc, rfl, hn1, hn2, hb2⟩
  have hn := hn1 (by trivial)
  have hnI : (0 : Int) < (n : Int) := by omega
  have HB2 := Lib.hid (HB1.out.trans (hb2.mono HB1.out.size))
  have HY2 := Lib.hid (HY1.out.below hb2 HY1.out.lt)
  clear a0 a1 a2 a3 a4 al hb2 HC hn1 hn2
  obtain ⟨a0, a1, a2, a3, a4⟩ := bxc5 HY2.out
  have al := HY2.out.lt
  go_wp2_with fail
  refine (failQ_any _ _ _).mono ?_
  rintro e w3 ⟨rfl, rfl⟩
  go_wp2
  refine ⟨rfl, Ret.bad HR.out HB2.out ?_⟩
  unfold panE faultQ
  rw [HXW.out]
 | true =>
  cases lg with
  | true =>
   have HR : Hid (r = some (20, wh)) := HE.out
   clear HE hM
   go_wp2_with fail
   refine (HC.out _ HB1.out).mono ?_
   rintro e w2 ⟨la, n, lc, rfl, hn1, hn2, hb2⟩
   obtain rfl := hn2 (by trivial)
   have HB2 := Lib.hid (HB1.out.trans (hb2.mono HB1.out.size))
   have HY2 := Lib.hid (HY1.out.below hb2 HY1.out.lt)
   clear a0 a1 a2 a3 a4 al hb2 HC hn1 hn2
   obtain ⟨a0, a1, a2, a3, a4⟩ := bxc5 HY2.out
   have al := HY2.out.lt
   go_wp2_with fail
   refine (failQ_any _ _ _).mono ?_
   rintro e w3 ⟨rfl, rfl⟩
   go_wp2
   refine ⟨rfl, Ret.bad HR.out HB2.out ?_⟩
   unfold panE faultQ
   rw [HXW.out]
  | false =>
   cases em with
   | false =>
    have HR : Hid (r = none) := HE.out
    clear HE
    go_wp2_with fail
    refine (HC.out _ HB1.out).mono ?_
    rintro e w2 ⟨la, n, lc, rfl, hn1, hn2, hb2⟩
    obtain rfl := hn2 (by trivial)
    have HB2 := Lib.hid (HB1.out.trans (hb2.mono HB1.out.size))
    have HY2 := Lib.hid (HY1.out.below hb2 HY1.out.lt)
    clear a0 a1 a2 a3 a4 al hb2 HC hn1 hn2
    obtain ⟨a0, a1, a2, a3, a4⟩ := bxc5 HY2.out
    have al := HY2.out.lt
    go_wp2
    go_ret
    exact Ret.good HR.out HB2.out rfl
   | true =>
    cases b with
    | false =>
     have HR : Hid (r = some (20, wh)) := HE.out
     clear HE
     go_wp2_with fail
     refine (HC.out _ HB1.out).mono ?_
     rintro e w2 ⟨la, n, lc, rfl, hn1, hn2, hb2⟩
     obtain rfl := hn2 (by trivial)
     have HB2 := Lib.hid (HB1.out.trans (hb2.mono HB1.out.size))
     have HY2 := Lib.hid (HY1.out.below hb2 HY1.out.lt)
     clear a0 a1 a2 a3 a4 al hb2 HC hn1 hn2
     obtain ⟨a0, a1, a2, a3, a4⟩ := bxc5 HY2.out
     have al := HY2.out.lt
     go_wp2_with fail
     refine (failQ_any _ _ _).mono ?_
     rintro e w3 ⟨rfl, rfl⟩
     go_wp2
     refine ⟨rfl, Ret.bad HR.out HB2.out ?_⟩
     unfold panE faultQ
     rw [HXW.out]
    | true =>
     have HR : Hid (r = none) := HE.out
     clear HE
     go_wp2_with fail
     refine (HC.out _ HB1.out).mono ?_
     rintro e w2 ⟨la, n, lc, rfl, hn1, hn2, hb2⟩
     obtain rfl := hn2 (by trivial)
     have HB2 := Lib.hid (HB1.out.trans (hb2.mono HB1.out.size))
     have HY2 := Lib.hid (HY1.out.below hb2 HY1.out.lt)
     clear a0 a1 a2 a3 a4 al hb2 HC hn1 hn2
     obtain ⟨a0, a1, a2, a3, a4⟩ := bxc5 HY2.out
     have al := HY2.out.lt
     go_wp2
     go_ret
     exact Ret.good HR.out HB2.out rfl

end Go.Proofs.YtphaeegbmfpcgaaGreat

/- The walk of a field's word in pom's reader, at any test of it; the conditions stand in the theorem. -/

namespace Go.Proofs.YtphaeegbmfpcgaaGreat
open Go Go.RowKit

/-- A tree whose lists and texts are not too long. -/
inductive Mild : Tr → Prop where
 | of {t : Tr} (hk : t.kids.length ≤ 100000) (hx : (textF t.kids).length ≤ 1000000000) (hn : t.name.length ≤ 1000000000) (h : ∀ k ∈ t.kids, Mild k) : Mild t
theorem Mild.name {t : Tr} (h : Mild t) : t.name.length ≤ 1000000000 := by cases h; assumption
/-- The like; only the names of properties are bounded. -/
inductive MildW : Tr → Prop where
 | of {t : Tr} (hk : t.kids.length ≤ 100000) (hx : (textF t.kids).length ≤ 1000000000) (hn : t.name = bProperties → ∀ k ∈ t.kids, k.name.length ≤ 1000000000) (h : ∀ k ∈ t.kids, MildW k) : MildW t
theorem MildW.kl {t : Tr} (h : MildW t) : t.kids.length ≤ 100000 := by cases h; assumption
theorem MildW.txt {t : Tr} (h : MildW t) : (textF t.kids).length ≤ 1000000000 := by cases h; assumption
theorem MildW.pname {t : Tr} (h : MildW t) : t.name = bProperties → ∀ k ∈ t.kids, k.name.length ≤ 1000000000 := by cases h; assumption
theorem MildW.kids {t : Tr} (h : MildW t) : ∀ k ∈ t.kids, MildW k := by cases h; assumption
theorem Mild.weak {t : Tr} (h : Mild t) : MildW t := by
 induction h with
 | of hk hx hn h ih => exact .of hk hx (fun _ k hk => (h k hk).name) ih
theorem kidsF_sub {m : Bs} {l : List Tr} {k : Tr} (h : k ∈ kidsF m l) : k ∈ l := (List.mem_filter.1 h).1
theorem oneV_mem {t : Tr} {m : Bs} {k : Tr} (h : oneV t m = some k) : k ∈ t.kids := kidsF_sub (List.mem_of_mem_head? h)
theorem MildW.one {t : Tr} (h : MildW t) {m : Bs} {k : Tr} (hk : oneV t m = some k) : MildW k := h.kids k (oneV_mem hk)
theorem oneV_name {t k : Tr} {m : Bs} (h : oneV t m = some k) (hm : m ≠ []) : k.name = m := by
 have h1 := (List.mem_filter.1 (List.mem_of_mem_head? h)).2
 unfold isKid at h1
 simp only [Bool.and_eq_true, Bool.or_eq_true, decide_eq_true_eq] at h1
 rcases h1.2 with h2 | h2
 · simp at h2; exact absurd h2 hm
 · exact h2
/-- A function value that tests texts as r does, in every later world. -/
def Tests (w : World) (F : FuncId) (caps : Array Value) (r : Bs → Bool) : Prop :=
 (∀ (args : Array Value) (W : World), (callFunc F args).run Tryz.prog W = .ok (.enter F args) W) ∧ ∀ (s : Bs) (W : World), Below w.heap.size w W → s.length ≤ 1024 → Calls Tryz.prog F (#[.string (bs s)] ++ caps) W fun e w' => e = .returned (.bool (r s)) ∧ Below W.heap.size W w'
theorem textE_none {t : Tr} {w : Bs} {e : Bool} (h : textE t w e = none) : (textV t).length ≤ 1024 := by
 unfold textE textBad at h
 unfold textV
 split at h
 · cases h
 · rename_i hc
   simp only [Bool.or_eq_true, not_or, decide_eq_true_eq] at hc
   omega
set_option maxRecDepth 100000 in
set_option maxHeartbeats 8000000 in
theorem wordQ_any (F : FuncId) (caps : Array Value) (r : Bs → Bool) (t : Tr) (wh m : Bs) (must : Bool) (w : World) (av kv : Value) (ht : NodeOf w t av kv) (hm : MildW t) (hl : wh.length + m.length ≤ 1000000000000) (hT : Tests w F caps r) :
    Calls Tryz.prog 49 #[elemV t av kv wh, .string (bs m), .bool must, .func (.func F) #[] caps] w (Ret (wordE t wh m must r) (fun e _ => e = .returned (.string (bs (wordV t m)))) w) := by
 obtain ⟨ao, ac, ko, kc, rfl, rfl, hal, -⟩ := ht.shape
 have HF : Hid (∀ W, Below w.heap.size w W → Calls Tryz.prog 48 #[elemV t (.slice ao t.attrs.length ac) (.slice ko t.kids.length kc) wh, .string (bs m)] W (Ret (manyE t wh m) (FieldP wh m (oneV t m)) W)) := fun W h => field_any t wh m W _ _ (ht.later h) hm.kl hl
 have HT := Lib.hid hT
 have HM := Lib.hid hm
 have HE : Hid (wordE t wh m must r = (manyE t wh m).or (match oneV t m with
  | none => if must then some (20, sl wh m) else none
  | some k => (textE k (sl wh m) false).or (if r (textV k) then none else some (20, sl wh m)))) := rfl
 have HV : Hid (wordV t m = match oneV t m with
  | none => []
  | some k => textV k) := rfl
 obtain ⟨E, hE⟩ : ∃ E, E = wordE t wh m must r := ⟨_, rfl⟩
 obtain ⟨V, hV⟩ : ∃ V, V = wordV t m := ⟨_, rfl⟩
 rw [← hE] at HE ⊢
 rw [← hV] at HV ⊢
 clear hE hV ht hT hm
 obtain ⟨X, hX⟩ : ∃ X : S, X = bs wh := ⟨_, rfl⟩
 obtain ⟨M, hM⟩ : ∃ M : S, M = bs m := ⟨_, rfl⟩
 obtain ⟨Y, hY⟩ : ∃ Y : S, Y = bs (sl wh m) := ⟨_, rfl⟩
 have HY : Hid ((bs (sl wh m) : S) = Y) := hY.symm
 unfold elemV at HF ⊢
 rw [← hX, ← hM] at HF ⊢
 clear hX hM
 go_enter Tryz.func49, Tryz.ntmps49
 go_upto_region 1 with fail
 refine wp_world ?_
 intro W hW
 have x1 : Box W w.heap.size [.string (bs t.name), .slice ao t.attrs.length ac, .slice ko t.kids.length kc, .string (bs t.text), .string X] := by rw [hW]; exact Box.new w [.string (bs t.name), .slice ao t.attrs.length ac, .slice ko t.kids.length kc, .string (bs t.text), .string X] _ _ rfl
 have hb : Below w.heap.size w W := by rw [hW]; exact (Below.refl _ w).alloc (Nat.le_refl _) _
 clear hW
 have HX1 := Lib.hid x1
 have HB := Lib.hid hb
 clear x1 hb
 obtain ⟨a0, a1, a2, a3, a4⟩ := bxc5 HX1.out
 have al := HX1.out.lt
 go_wp2_with fail
 refine (HF.out _ HB.out).mono ?_
 rintro e w1 ⟨hb1, hp, hq⟩
 have HB1 := Lib.hid (HB.out.trans (hb1.mono HB.out.size))
 clear a0 a1 a2 a3 a4 al HF HX1 hb1
 cases hM : manyE t wh m with
 | some x =>
  obtain rfl := hp x hM
  have HR : Hid (E = some x) := by show _ = _; rw [HE.out, hM]; rfl
  clear hp hq hM HE HV
  unfold panE
  go_wp2
  exact ⟨rfl, Ret.bad HR.out HB1.out rfl⟩
 | none =>
  have hq := hq hM
  rw [hM, Option.none_or] at HE
  clear hp hM
  cases hO : oneV t m with
  | none =>
   rw [hO] at HE HV hq
   simp only [FieldP, FieldX] at hq
   rw [← hY] at hq
   subst hq
   have HVE : Hid (V = []) := HV.out
   clear hO HV hY
   cases must with
   | true =>
    have HR : Hid (E = some (20, sl wh m)) := HE.out
    clear HE
    go_upto_region 2 with fail
    refine wp_world ?_
    intro W2 hW2
    have x2 : Box W2 w1.heap.size [.string ⟨#[]⟩, .slice none 0 0, .slice none 0 0, .string ⟨#[]⟩, .string Y] := by rw [hW2]; exact Box.new w1 [.string ⟨#[]⟩, .slice none 0 0, .slice none 0 0, .string ⟨#[]⟩, .string Y] _ _ rfl
    have hb2 : Below w.heap.size w W2 := by rw [hW2]; exact HB1.out.alloc HB1.out.size _
    clear hW2
    have HX2 := Lib.hid x2
    have HB2 := Lib.hid hb2
    clear x2 hb2
    obtain ⟨a0, a1, a2, a3, a4⟩ := bxc5 HX2.out
    have al := HX2.out.lt
    go_wp2_with fail
    refine (failQ_any _ _ _).mono ?_
    rintro e w9 ⟨rfl, rfl⟩
    go_wp2
    refine ⟨rfl, Ret.bad HR.out HB2.out ?_⟩
    unfold panE faultQ
    rw [HY.out]
   | false =>
    have HR : Hid (E = none) := HE.out
    clear HE
    have HB2 : Hid (∀ o, Below w.heap.size w (w1.alloc o)) := fun o => HB1.out.alloc HB1.out.size o
    go_wp2
    go_ret
    refine Ret.good HR.out (HB2.out _) ?_
    rw [HVE.out]
    rfl
  | some k =>
   rw [hO] at HE HV hq
   obtain ⟨av2, kv2, rfl, hn⟩ := hq
   obtain ⟨p1, p2, p3, p4, rfl, rfl, -, -⟩ := hn.shape
   have HVE : Hid (V = textV k) := HV.out
   have HER : Hid (E = (textE k (sl wh m) false).or (if r (textV k) then none else some (20, sl wh m))) := HE.out
   have hmk := HM.out.one hO
   clear HE HV hO
   have HN := Lib.hid hn
   have HTX : Hid (∀ W, Below w1.heap.size w1 W → Calls Tryz.prog 72 #[.agg #[.string (bs k.name), .slice p1 k.attrs.length p2, .slice p3 k.kids.length p4, .string (bs k.text), .string Y], .bool false] W (Ret (textE k (sl wh m) false) (fun e _ => e = .returned (.string (bs (textV k)))) W)) := fun W h => by
    rw [hY]; exact textQ_any k (sl wh m) false W _ _ (HN.out.later h) hmk.kl hmk.txt
   clear hn hmk
   unfold elemV
   rw [← hY]
   clear hY
   go_upto_region 2 with fail
   refine wp_world ?_
   intro W2 hW2
   have x2 : Box W2 w1.heap.size [.string (bs k.name), .slice p1 k.attrs.length p2, .slice p3 k.kids.length p4, .string (bs k.text), .string Y] := by rw [hW2]; exact Box.new w1 [.string (bs k.name), .slice p1 k.attrs.length p2, .slice p3 k.kids.length p4, .string (bs k.text), .string Y] _ _ rfl
   have hb2 : Below w.heap.size w W2 := by rw [hW2]; exact HB1.out.alloc HB1.out.size _
   have hb12 : Below w1.heap.size w1 W2 := by rw [hW2]; exact (Below.refl _ w1).alloc (Nat.le_refl _) _
   clear hW2
   have HX2 := Lib.hid x2
   have HB2 := Lib.hid hb2
   have HB12 := Lib.hid hb12
   clear x2 hb2 hb12
   obtain ⟨a0, a1, a2, a3, a4⟩ := bxc5 HX2.out
   have al := HX2.out.lt
   go_wp2_with fail
   refine (HTX.out _ HB12.out).mono ?_
   rintro e w3 ⟨hb3, hp, hq⟩
   have HB3 := Lib.hid (HB2.out.trans (hb3.mono HB2.out.size))
   have HX3 := Lib.hid (HX2.out.below hb3 HX2.out.lt)
   clear a0 a1 a2 a3 a4 al HTX hb3 HX2
   cases hM : textE k (sl wh m) false with
   | some x =>
    obtain rfl := hp x hM
    have HR : Hid (E = some x) := by show _ = _; rw [HER.out, hM]; rfl
    clear hp hq hM HER HVE
    unfold panE
    go_wp2
    exact ⟨rfl, Ret.bad HR.out HB3.out rfl⟩
   | none =>
    obtain rfl := hq hM
    have hle := textE_none hM
    have HRR : Hid (E = if r (textV k) then none else some (20, sl wh m)) := by show _ = _; rw [HER.out, hM]; rfl
    clear hp hq hM HER
    have HTT := Lib.hid (HT.out.2 (textV k) w3 HB3.out hle)
    generalize hS : (bs (textV k) : S) = Z at *
    have HSZ := Lib.hid hS
    clear hS hle
    go_wp2_with fail
    rw [HT.out.1, Oper.upon_enter]
    refine HTT.out.mono ?_
    rintro e w4 ⟨rfl, hb4⟩
    have HB4 := Lib.hid (HB3.out.trans (hb4.mono HB3.out.size))
    have HX4 := Lib.hid (HX3.out.below hb4 HX3.out.lt)
    clear HTT hb4 HX3
    obtain ⟨a0, a1, a2, a3, a4⟩ := bxc5 HX4.out
    have al := HX4.out.lt
    obtain ⟨b, hb⟩ : ∃ b, b = r (textV k) := ⟨_, rfl⟩
    rw [← hb] at HRR ⊢
    clear hb
    cases b with
    | true =>
     have HR : Hid (E = none) := HRR.out
     clear HRR
     go_wp2
     go_ret
     refine Ret.good HR.out HB4.out ?_
     rw [HVE.out, HSZ.out]
     rfl
    | false =>
     have HR : Hid (E = some (20, sl wh m)) := HRR.out
     clear HRR
     go_wp2_with fail
     refine (failQ_any _ _ _).mono ?_
     rintro e w9 ⟨rfl, rfl⟩
     go_wp2
     refine ⟨rfl, Ret.bad HR.out HB4.out ?_⟩
     unfold panE faultQ
     rw [HY.out]

end Go.Proofs.YtphaeegbmfpcgaaGreat

/- Walks of the tests that pom's reader makes of texts; the conditions stand in the theorems. -/
namespace Go.Proofs.YtphaeegbmfpcgaaGreat
open Go Go.RowKit

def isPartS (s : S) : Bool := (s.toList == [42]) || isIdB s
theorem isPart_bs (s : Bs) : isPartS (bs s) = isPartQ s := by
 unfold isPartS isPartQ isIdQ
 have h := bs_beq2 s [42]
 have h2 : ((bs [42] : S)).toList = [42] := by decide +kernel
 rw [h2] at h
 rw [h]
theorem isWild_any (s : S) (w : World) (hs : s.size ≤ 9223372036854775807) : Calls Tryz.prog 140 #[.string s] w fun e w' => e = .returned (.bool (isPartS s)) ∧ Below w.heap.size w w' := by
 have HI := Lib.hid (isId_any s w hs)
 unfold isPartS
 generalize isIdB s = b at *
 go_enter Tryz.func140, Tryz.ntmps140
 generalize hq : (s.toList == [42]) = q at *
 cases q with
 | true =>
  go_wp2
  go_ret
  exact ⟨rfl, Below.refl _ _⟩
 | false =>
  go_wp2_with fail
  refine HI.out.mono ?_
  rintro e w1 ⟨rfl, hb⟩
  have HB := Lib.hid hb
  clear hb HI
  go_wp2
  go_ret
  exact ⟨by cases b <;> rfl, HB.out⟩
set_option maxHeartbeats 1000000 in
theorem mayPattern_any (x : Id) (w : World) (hg : x.group.size ≤ 9223372036854775807) (ha : x.artifact.size ≤ 9223372036854775807) : Calls Tryz.prog 134 #[.agg #[.string x.group, .string x.artifact]] w fun e w' => e = .returned (.bool (isPartS x.group && isPartS x.artifact)) ∧ Below w.heap.size w w' := by
 obtain ⟨g, a⟩ := x
 simp only at *
 have HG := Lib.hid (fun W => isWild_any g W hg)
 have HA := Lib.hid (fun W => isWild_any a W ha)
 have HB : Hid (∀ o, Below w.heap.size w (w.alloc o)) := fun o => (Below.refl _ w).alloc (Nat.le_refl _) _
 generalize isPartS g = p at *
 generalize isPartS a = q at *
 clear hg ha
 go_enter Tryz.func134, Tryz.ntmps134
 go_wp2_with fail
 refine (HG.out _).mono ?_
 rintro e w1 ⟨rfl, hb⟩
 have HX := Lib.hid ((Box.new w [.string g, .string a] 65 _ rfl).below hb (by simp))
 have HB1 := Lib.hid ((HB.out _).trans (hb.mono (HB.out (.cells #[.string g, .string a] 65)).size))
 have c0 := HX.out.cell 0 _ rfl
 have c1 := HX.out.cell 1 _ rfl
 have cl := HX.out.lt
 clear hb
 cases p with
 | false =>
  go_wp2
  go_ret
  exact ⟨rfl, HB1.out⟩
 | true =>
  go_wp2_with fail
  refine (HA.out _).mono ?_
  rintro e w2 ⟨rfl, hb2⟩
  have HB2 := Lib.hid (HB1.out.trans (hb2.mono HB1.out.size))
  clear hb2
  go_wp2
  go_ret
  exact ⟨by cases q <;> rfl, HB2.out⟩
theorem tests_free (w : World) : Tests w 50 #[] freeB := by
 refine ⟨fun args W => by kernel_rfl, fun s W _ _ => ?_⟩
 go_enter Tryz.func50, Tryz.ntmps50
 go_wp2
 go_ret
 exact ⟨rfl, Below.refl _ _⟩
theorem tests_id (w : World) : Tests w 18 #[] isIdQ :=
 ⟨fun args W => by kernel_rfl, fun s W _ hs => isId_any (bs s) W (by rw [bs_size]; omega)⟩
theorem tests_ver (w : World) : Tests w 19 #[] verQ :=
 ⟨fun args W => by kernel_rfl, fun s W _ hs => ver_any (bs s) W (by rw [bs_size]; omega)⟩
theorem tests_truth (w : World) : Tests w 108 #[] isTruthB := by
 refine ⟨fun args W => by kernel_rfl, fun s W _ _ => ?_⟩
 have h1 := bs_beq2 s bTrue
 have h2 := bs_beq2 s bFalse
 rw [show ((bs bTrue : S)).toList = [116, 114, 117, 101] from by decide +kernel] at h1
 rw [show ((bs bFalse : S)).toList = [102, 97, 108, 115, 101] from by decide +kernel] at h2
 unfold isTruthB
 generalize decide (s = bTrue) = p at *
 generalize decide (s = bFalse) = q at *
 show Calls Tryz.prog 108 #[.string (bs s)] W _
 generalize (bs s : S) = Z at *
 go_enter Tryz.func108, Tryz.ntmps108
 cases p <;> cases q <;> go_wp2 <;> go_ret <;> exact ⟨rfl, Below.refl _ _⟩
theorem tests_part (w : World) : Tests w 109 #[] isPartQ := by
 refine ⟨fun args W => by kernel_rfl, fun s W _ hs => ?_⟩
 have HP := Lib.hid (fun W => mayPattern_any ⟨bs s, bs s⟩ W (by rw [bs_size]; omega) (by rw [bs_size]; omega))
 simp only [isPart_bs, Bool.and_self] at HP
 show Calls Tryz.prog 109 #[.string (bs s)] W _
 generalize (bs s : S) = Z at *
 go_enter Tryz.func109, Tryz.ntmps109
 go_wp2_with fail
 refine (HP.out _).mono ?_
 rintro e w1 ⟨rfl, hb⟩
 have HB := Lib.hid hb
 clear hb
 go_wp2
 go_ret
 exact ⟨rfl, HB.out⟩
set_option maxHeartbeats 1000000 in
theorem tests_scope (w : World) (b : Nat) (m : Bool) (hb : b < w.heap.size) (hc : w.cell? ⟨b, 0, none⟩ = some (.bool m)) : Tests w 133 #[.pointer (some ⟨b, 0, none⟩)] (isScopeQ m) := by
 refine ⟨fun args W => by kernel_rfl, fun s W hW _ => ?_⟩
 have c0 := (hW.cell (p := ⟨b, 0, none⟩) (by exact hb)).trans hc
 have hlt : b < W.heap.size := Nat.lt_of_lt_of_le hb hW.size
 have HS := Lib.hid (fun W => scope_any s W)
 show Calls Tryz.prog 133 #[.string (bs s), .pointer (some ⟨b, 0, none⟩)] W _
 unfold isScopeQ
 generalize scopeW s = n at *
 generalize (bs s : S) = Z at *
 obtain ⟨x, hx⟩ : ∃ x, x = decide (n ≠ 0) := ⟨_, rfl⟩
 obtain ⟨y, hy⟩ : ∃ y, y = decide (n ≠ 6) := ⟨_, rfl⟩
 rw [← hx] at HS ⊢
 rw [← hy]
 have h6 : (n != 6) = y := by rw [hy]; by_cases h : n = 6 <;> simp [h]
 clear hx hy hc hW hb
 go_enter Tryz.func133, Tryz.ntmps133
 go_wp2_with fail
 refine (HS.out _).mono ?_
 rintro e w1 ⟨rfl, rfl⟩
 cases x <;> cases m <;> cases y <;> go_wp2 <;> go_ret <;> exact ⟨rfl, Below.refl _ _⟩

end Go.Proofs.YtphaeegbmfpcgaaGreat

/- Walks: the program's text of a number; the conditions stand in the theorem. -/

namespace Go.Proofs.YtphaeegbmfpcgaaGreat
open Go Go.RowKit

def digQ (n : Nat) : UInt8 := UInt8.ofNat (48 + n)
def numD (k : Nat) (P : Bs) : Bs := if k = 0 then P else numP k ++ P
theorem numD_step {k : Nat} (P : Bs) (h : 0 < k) : numD k P = numD (k / 10) (digQ (k % 10) :: P) := by
 unfold numD
 rw [if_neg (by omega)]
 by_cases h10 : k < 10
 · rw [numP, if_pos h10, if_pos (by omega), Nat.mod_eq_of_lt h10]; rfl
 · rw [numP, if_neg h10, if_neg (by omega)]
   simp [digQ]
def digitsS : S := ⟨#[48, 49, 50, 51, 52, 53, 54, 55, 56, 57]⟩
theorem digits_at (d : Nat) (h : d < 10) : digitsS.extract d (d + 1) = bs [digQ d] := by
 rcases (by omega : d = 0 ∨ d = 1 ∨ d = 2 ∨ d = 3 ∨ d = 4 ∨ d = 5 ∨ d = 6 ∨ d = 7 ∨ d = 8 ∨ d = 9) with rfl | rfl | rfl | rfl | rfl | rfl | rfl | rfl | rfl | rfl <;> decide +kernel
theorem numP_len (n : Nat) : (numP n).length ≤ n + 1 := by
 induction n using Nat.strongRecOn with
 | ind n ih =>
  rw [numP]
  split
  · simp
  · rename_i h
    have := ih (n / 10) (by omega)
    simp only [List.length_append, List.length_cons, List.length_nil]
    omega
set_option maxRecDepth 100000 in
set_option maxHeartbeats 4000000 in
theorem numberQ_any (n : Nat) (w : World) (h0 : 0 < n) (hn : n ≤ 1000000) : Calls Tryz.prog 105 #[.int .i64 n] w fun e w' => e = .returned (.string (bs (numP n))) ∧ w = w' := by
 go_enter Tryz.func105, Tryz.ntmps105
 go_wp2
 go_loopw [3, 0] (fun s i wr => ∃ (k : Nat) (P : Bs) (Z : S), s = .string Z ∧ i = .int .i64 k ∧ wr = w ∧ k ≤ n ∧ Hid (Z = bs P ∧ numD k P = numP n ∧ P.length + k ≤ n)) (fun _ i _ => (intOf i).toNat)
 case atStart => exact ⟨n, [], ⟨#[]⟩, rfl, rfl, rfl, Nat.le_refl _, rfl, by unfold numD; rw [if_neg (by omega)]; simp, by simp⟩
 case round =>
  obtain ⟨k, P, Z, rfl, rfl, hw, hk, HR⟩ := hrel
  subst hw
  by_cases hk0 : 0 < k
  · have hki : (0 : Int) < (k : Int) := by omega
    have hm : (k : Int).tmod 10 = ((k % 10 : Nat) : Int) := by rw [Int.tmod_eq_emod_of_nonneg (by omega)]; rfl
    have hd : (k : Int).tdiv 10 = ((k / 10 : Nat) : Int) := by rw [Int.tdiv_eq_ediv_of_nonneg (by omega)]; rfl
    have hlt : k % 10 < 10 := Nat.mod_lt _ (by decide)
    have hle := HR.out.2.2
    have hzs : Z.size = P.length := by rw [HR.out.1, bs_size]
    have hxs : (ByteArray.extract ⟨#[48, 49, 50, 51, 52, 53, 54, 55, 56, 57]⟩ (k % 10) (k % 10 + 1)).size = 1 := by
     have := digits_at _ hlt
     unfold digitsS at this
     rw [this, bs_size]; rfl
    have hz : ¬ 9223372036854775807 < 1 + Z.size := by omega
    clear hle hzs
    go_wp2
    refine ⟨⟨k / 10, digQ (k % 10) :: P, _, rfl, by congr 1, trivial, by omega, ?_, ?_, ?_⟩, ?_⟩
    · have := digits_at _ hlt
      unfold digitsS at this
      rw [this, HR.out.1, bs_append]; rfl
    · rw [← numD_step P hk0]; exact HR.out.2.1
    · have := HR.out.2.2
      simp only [List.length_cons]; omega
    · simp [intOf]; omega
  · obtain rfl : k = 0 := by omega
    go_wp2
    go_ret
    have h1 : P = numP n := by have := HR.out.2.1; unfold numD at this; simpa using this
    exact ⟨by rw [← h1, ← HR.out.1]; rfl, rfl⟩

end Go.Proofs.YtphaeegbmfpcgaaGreat

/- append of slices that read as lists, as a step of a region that draws its order; no program in sight. -/
namespace Go.Proofs.YtphaeegbmfpcgaaGreat
open Go Go.RowKit

/-- append of any slice to one of the call's own. -/
theorem wp_append_slice {α : Type} {P : Program} (w : World) {o : Oper} {a : Act} {K : Act → World → Prop} {Q : Exit → Act → World → Prop} (s x : Operand) (t : TypeId)
    (ho : o.op = .call { callee := .builtin .append, args := #[s, x], argTypes := #[t, t] })
    (base : Nat) (e : TypeId) {z : Value} {size bytes : Nat} (ht : P.underlying t = some (.slice e)) (hinfo : (P.info? e).map (fun i => (i.zero, i.size, i.bytes)) = some (some z, size, bytes)) (hzs : z.cells.size = size) (hsz : 0 < size) {C : α → List Value} (hC : ∀ y, (C y).length = size)
    (v : Value) (l : List α) (hs : a.eval s = v) (hown : Owns base e size C w v l) (v2 : Value) (l2 : List α) (hx : a.eval x = v2) (hsl : SliceOf size C w v2 l2) (h1 : ∀ y ∈ l2, ∀ u ∈ C y, u.oneCell' = true)
    (hbytes : (l.length + l2.length) * bytes ≤ 140737488355328) (hb0 : 0 < bytes) (hbase : base ≤ w.heap.size)
    (h : ∀ v' w', Owns base e size C w' v' (l ++ l2) → w.grownBy w' v.ownBlock → (v'.ownBlock = v.ownBlock ∨ v'.ownBlock = some w.heap.size) → K (a.put o.dst v') w') : o.wp P a w K Q := by
 have hlen63 : l.length + l2.length ≤ maxLen := by
  have : l.length + l2.length ≤ (l.length + l2.length) * bytes := Nat.le_mul_of_pos_right _ hb0
  unfold maxLen; omega
 obtain ⟨i, hi, hz, hsize, hby⟩ := info_parts hinfo
 obtain ⟨ao, cap, rfl, hcap, hm, hn, hc⟩ := hsl
 cases ao with
 | none =>
  have h0 : cap = 0 := hn rfl
  subst h0
  obtain rfl := List.eq_nil_of_length_eq_zero (Nat.le_zero.1 hcap)
  have hrun := run_append_owned_none (P := P) (w := w) base t o.type e i size ht hi v l.length (l.flatMap C) hown
  unfold Oper.wp
  simp [execOp, ho, resolve, invoke, builtin, hs, hx, hrun, Result.andThen]
  exact h v w (by simpa using hown) (World.grownBy.refl _ _) (.inl rfl)
 | some ad =>
  have hnews : ∀ j u, (l2.flatMap C)[j]? = some u → w.cell? (ad.add j) = some u := by
   intro j u hu
   obtain ⟨y, hy, hyu⟩ := flat_split hC hsz hu
   obtain ⟨b, o', ha, _, hcell⟩ := hc _ _ hy
   cases ha
   rw [Addr.add_lit]
   have := hcell _ _ hyu
   rwa [Nat.add_assoc, Nat.div_add_mod' j size] at this
  obtain ⟨v', w', hr, h2, h3, h4, hloc⟩ := run_append_own_at (P := P) w base t o.type e i z size bytes ht hi hz hsize hby hzs hsz v l.length (l.flatMap C) hown ad l2.length cap (l2.flatMap C) (by rw [flat_len hC]) hnews
   (by intro u hu; obtain ⟨y, hy, huy⟩ := List.mem_flatMap.1 hu; exact h1 y hy u huy) hlen63 hbytes hbase
  unfold Oper.wp execOp
  simp only [ho, resolve, invoke, builtin, Sem.run_bind, Sem.run_pure, Result.andThen_ok, List.map_toArray, List.map_cons, List.map_nil, hs, hx, hr]
  exact h v' w' (by unfold Owns; rw [List.length_append, List.flatMap_append]; exact h2) h3 hloc
theorem step_append_slice {α : Type} {P : Program} {ops : Array Oper} {E : Prop} (w : World) {o : Oper} {a : Act} {K : Act → World → Prop} {Q : Exit → Act → World → Prop} (hgd : o.guard = none) (s x : Operand) (t : TypeId)
    (ho : o.op = .call { callee := .builtin .append, args := #[s, x], argTypes := #[t, t] })
    (base : Nat) (e : TypeId) {z : Value} {size bytes : Nat} (ht : P.underlying t = some (.slice e)) (hinfo : (P.info? e).map (fun i => (i.zero, i.size, i.bytes)) = some (some z, size, bytes)) (hzs : z.cells.size = size) (hsz : 0 < size) {C : α → List Value} (hC : ∀ y, (C y).length = size)
    (v : Value) (l : List α) (hs : a.eval s = v) (hown : Owns base e size C w v l) (v2 : Value) (l2 : List α) (hx : a.eval x = v2) (hsl : SliceOf size C w v2 l2) (h1 : ∀ y ∈ l2, ∀ u ∈ C y, u.oneCell' = true)
    (hbytes : (l.length + l2.length) * bytes ≤ 140737488355328) (hb0 : 0 < bytes) (hbase : base ≤ w.heap.size)
    (h : ∀ ao n cap w', Owns base e size C w' (.slice ao n cap) (l ++ l2) → w.grownBy w' v.ownBlock → K (a.put o.dst (.slice ao n cap)) w') :
    if Region.wanted o (yielded ops a.tmps) = true then Oper.wp P o a w K Q else E := by
 have hw : Region.wanted o (yielded ops a.tmps) = true := by simp [Region.wanted, hgd]
 rw [if_pos hw]
 refine wp_append_slice w s x t ho base e ht hinfo hzs hsz hC v l hs hown v2 l2 hx hsl h1 hbytes hb0 hbase fun v' w' h2 h3 _ => ?_
 obtain ⟨ao, cap, rfl⟩ := h2.shape
 exact h ao _ cap w' h2 h3

end Go.Proofs.YtphaeegbmfpcgaaGreat

/- The walk of a list of pom's reader; the conditions stand in the theorem. -/
namespace Go.Proofs.YtphaeegbmfpcgaaGreat
open Go Go.RowKit

abbrev ElV := TrV × Bs
def elC (x : ElV) : List Value := [.string (bs x.1.1.name), x.1.2.1, x.1.2.2, .string (bs x.1.1.text), .string (bs x.2)]
theorem elC_len (x : ElV) : (elC x).length = 5 := rfl
theorem info_el : (Tryz.prog.info? 114).map (fun i => (i.zero, i.size, i.bytes)) = some (some (.agg #[.string ⟨#[]⟩, .slice none 0 0, .slice none 0 0, .string ⟨#[]⟩, .string ⟨#[]⟩]), 5, 96) := by kernel_rfl
/-- The elements of a list and where each is. -/
def elsQ (w : Bs) : List Tr → Nat → List (Tr × Bs)
 | [], _ => []
 | t :: r, i => (t, atI w (i + 1)) :: elsQ w r (i + 1)
theorem elsQ_snoc (w : Bs) : ∀ (l : List Tr) (t : Tr) (i : Nat), elsQ w (l ++ [t]) i = elsQ w l i ++ [(t, atI w (i + l.length + 1))]
 | [], t, i => rfl
 | x :: l, t, i => by
  rw [List.cons_append, elsQ, elsQ, elsQ_snoc w l t (i + 1)]
  simp only [List.cons_append, List.length_cons]
  rw [show i + 1 + l.length + 1 = i + (l.length + 1) + 1 by omega]
def bigE (n : Nat) (w : Bs) : Option Er := if 1024 < n then some (2, w) else none
/-- The post of list: the elements in a row of its own, none in blocks of the caller's from B on. -/
def ListP (X : Nat → Prop) (w : World) (l : List (Tr × Bs)) (e : Ending) (w' : World) : Prop := ∃ v L, e = .returned v ∧ L.map (fun x : ElV => (x.1.1, x.2)) = l ∧ Owns w.heap.size 114 5 elC w' v L ∧ ∀ y ∈ L, NodeX (fun j => X j ∨ w.heap.size ≤ j) w' y.1.1 y.1.2.1 y.1.2.2
theorem elC_one (t : Tr) (a1 a3 : Option Addr) (l1 l3 a2 a4 : Nat) (b : Bs) : ∀ y ∈ [(((t, .slice a1 l1 a2, .slice a3 l3 a4), b) : ElV)], ∀ u ∈ elC y, u.oneCell' = true := by
 intro y hy u hu
 obtain rfl := List.mem_singleton.1 hy
 simp only [elC, List.mem_cons, List.not_mem_nil, or_false] at hu
 rcases hu with rfl | rfl | rfl | rfl | rfl <;> rfl
theorem el_lit (y : ElV) (W : World) (H : Nat) (hH : W.heap.size = H) : SliceOf 5 elC (W.alloc (.cells (elC y).toArray 114)) (.slice (some ⟨H, 0, none⟩) 1 1) [y] := by
 have h := sliceLit elC_len W [y] 114 H 1 hH rfl (by unfold maxLen; simp)
 simpa using h
theorem below_thenQ {B : Nat} {w V w8 : World} {v : Value} (h : Below B w V) (hB : B ≤ w.heap.size) (hg : V.grownBy w8 v.ownBlock) (hX : ∀ g, v.ownBlock = some g → B ≤ g) : Below B w w8 :=
 h.trans ⟨hg.os, hg.tape, hg.output, by have := hg.size; have := h.size; omega, fun k hk => hg.block k (by have := h.size; omega) (fun e => by have := hX k e.symm; omega)⟩
theorem keptQ {X : Nat → Prop} {B : Nat} {w w' : World} (h : Below B w w') (hs : w.heap.size ≤ w'.heap.size) (hX : ∀ k, ¬ X k → k < B) : KeptX X w w' := ⟨hs, fun k j _ hx => h.cell (p := ⟨k, j, none⟩) (hX k hx)⟩
set_option maxRecDepth 100000 in
set_option maxHeartbeats 8000000 in
theorem listQ_any (Z : Nat → Prop) (t : Tr) (wh m : Bs) (w : World) (av kv : Value) (ht : NodeX Z w t av kv) (hkl : t.kids.length ≤ 100000) (hl : wh.length + m.length ≤ 1000000000000) :
    Calls Tryz.prog 75 #[elemV t av kv wh, .string (bs m)] w (Ret (bigE (kidsF m t.kids).length wh) (ListP Z w (elsQ (sl wh m) (kidsF m t.kids) 0)) w) := by
 obtain ⟨ao, ac, ko, kc, rfl, rfl, hal, -⟩ := ht.shape
 obtain ⟨K, hK⟩ : ∃ K, K = kidsF m t.kids := ⟨_, rfl⟩
 obtain ⟨X, hX⟩ : ∃ X : S, X = bs wh := ⟨_, rfl⟩
 obtain ⟨M, hM⟩ : ∃ M : S, M = bs m := ⟨_, rfl⟩
 have HC : Hid (∀ W, Below w.heap.size w W → Calls Tryz.prog 71 #[.agg #[.string (bs t.name), .slice ao t.attrs.length ac, .slice ko t.kids.length kc, .string (bs t.text)], .string M] W fun e w' => ∃ v L, e = .returned v ∧ L.map (·.1) = K ∧ CollX (fun j => Z j ∨ w.heap.size ≤ j) W.heap.size W w' v L) := fun W h => by rw [hM, hK]; exact kids_x t m W _ _ (ht.freshX.later h) hkl
 have HW : Hid (∀ P : Bs, X ++ ⟨#[47]⟩ ++ M ++ ⟨#[91]⟩ ++ bs P ++ ⟨#[93]⟩ = bs (sl wh m ++ 91 :: (P ++ [93]))) := fun P => by
  rw [hX, hM]; show bs wh ++ bs [47] ++ bs m ++ bs [91] ++ bs P ++ bs [93] = _
  simp only [bs_append]; unfold sl; simp
 have hKL : K.length ≤ 100000 := by rw [hK]; exact Nat.le_trans (List.length_filter_le _ _) hkl
 have HXW : Hid ((bs wh : S) = X) := hX.symm
 have hzX : X.size = wh.length := by rw [hX, bs_size]
 have hzM : M.size = m.length := by rw [hM, bs_size]
 have HZ : Hid (X.size + M.size ≤ 1000000000000) := by show _ ≤ _; omega
 have HRB : Hid (1024 < K.length → bigE K.length wh = some (2, wh)) := fun h => if_pos h
 have HRG : Hid (¬ 1024 < K.length → bigE K.length wh = none) := fun h => if_neg h
 unfold elemV
 rw [← hK, ← hX, ← hM]
 generalize bigE K.length wh = r at *
 clear ht hX hM hzX hzM hK
 go_enter Tryz.func75, Tryz.ntmps75
 go_upto_region 1 with fail
 refine wp_world ?_
 intro W hW
 have x1 : Box W w.heap.size [.string (bs t.name), .slice ao t.attrs.length ac, .slice ko t.kids.length kc, .string (bs t.text), .string X] := by rw [hW]; exact Box.new w [.string (bs t.name), .slice ao t.attrs.length ac, .slice ko t.kids.length kc, .string (bs t.text), .string X] _ _ rfl
 have hb : Below w.heap.size w W := by rw [hW]; exact (Below.refl _ w).alloc (Nat.le_refl _) _
 clear hW
 have HX1 := Lib.hid x1
 have HB := Lib.hid hb
 clear x1 hb
 obtain ⟨a0, a1, a2, a3, a4⟩ := bxc5 HX1.out
 have al := HX1.out.lt
 go_wp2_with fail
 refine (HC.out _ HB.out).mono ?_
 rintro e w1 ⟨v, L, rfl, hL, hco⟩
 obtain ⟨la, lc, rfl⟩ := hco.own.shape
 have hb1 := hco.below
 have HB1 := Lib.hid (HB.out.trans (hb1.mono HB.out.size))
 have HY1 := Lib.hid (HX1.out.below hb1 HX1.out.lt)
 have HCO := Lib.hid (collQ hco (Below.refl _ _))
 have hLK : L.length = K.length := by rw [← hL]; simp
 rw [hLK] at HCO ⊢
 have HLM := Lib.hid hL
 have HLK := Lib.hid hLK
 clear a0 a1 a2 a3 a4 al hb1 hco HC HX1 hL hLK
 obtain ⟨a0, a1, a2, a3, a4⟩ := bxc5 HY1.out
 have al := HY1.out.lt
 by_cases hbig : 1024 < K.length
 · have hbI : (1024 : Int) < (K.length : Int) := by omega
   have HR : Hid (r = some (2, wh)) := HRB.out hbig
   clear hbig HRB HRG
   go_wp2_with fail
   refine (failQ_any _ _ _).mono ?_
   rintro e w3 ⟨rfl, rfl⟩
   go_wp2
   refine ⟨rfl, Ret.bad HR.out HB1.out ?_⟩
   unfold panE faultQ
   rw [HXW.out]
 · have hbI : ¬ (1024 : Int) < (K.length : Int) := by omega
   have HR : Hid (r = none) := HRG.out hbig
   clear HRB HRG
   have HKS : Hid (K.length ≤ 1024) := by show _ ≤ _; omega
   clear hbig
   go_wp2
   clear a0 a1 a2 a3 a4 al
   go_loopw [4, 20] (fun v i wr => ∃ (k : Nat) (O : List ElV) (oa : Option Addr) (oc : Nat), k ≤ K.length ∧ i = .int .i64 k ∧ v = .slice oa k oc ∧ Hid (Below w1.heap.size w1 wr ∧ Owns w1.heap.size 114 5 elC wr (.slice oa k oc) O ∧ O.map (fun x : ElV => (x.1.1, x.2)) = elsQ (sl wh m) (K.take k) 0 ∧ O.length = k ∧ ∀ y ∈ O, NodeX (fun j => Z j ∨ w.heap.size ≤ j) wr y.1.1 y.1.2.1 y.1.2.2)) (fun _ i _ => K.length - (intOf i).toNat)
   case atStart => exact ⟨0, [], none, 0, Nat.zero_le _, rfl, rfl, Below.refl _ _, Owns.nil, rfl, rfl, by simp⟩
   case round =>
    obtain ⟨k, O, oa, oc, hk, rfl, rfl, HRR⟩ := hrel
    by_cases hlt : k < K.length
    · have hb1r := HRR.out.1
      have hs1 := hb1r.size
      have HCW := Lib.hid (And.intro (HCO.out.1.below hb1r) (fun y hy => (HCO.out.2 y hy).later hb1r))
      rw [← HLK.out] at HCW
      obtain ⟨g, o1, p1, p2, p3, p4, hla, hg, c0, c1, c2, c3, hn⟩ := nodesQ HCW.out.1 HCW.out.2 k (by rw [HLK.out]; exact hlt)
      subst hla
      have HZ1 := Lib.hid (HY1.out.below hb1r HY1.out.lt)
      have hki : (k : Int) < (K.length : Int) := by omega
      have hkL : k < L.length := by rw [HLK.out]; exact hlt
      have hyk : K[k] = L[k].1 := by simp only [← HLM.out, List.getElem_map]
      have HTK := Lib.hid (by rw [List.take_succ_eq_append_getElem hlt, hyk] : K.take (k + 1) = K.take k ++ [L[k].1])
      have HNN := Lib.hid hn
      clear hn hyk
      generalize L[k] = y at *
      obtain ⟨t1, ya, yk⟩ := y
      simp only at c0 c1 c2 c3 HNN HTK
      obtain ⟨N, hN⟩ : ∃ N : S, N = bs (numP (k + 1)) := ⟨_, rfl⟩
      have hNz : N.size ≤ 1027 := by rw [hN, bs_size]; have h1 := numP_len (k + 1); have h2 := HKS.out; omega
      have HNU : Hid (∀ W, Calls Tryz.prog 105 #[.int .i64 ((k : Int) + 1)] W fun e w' => e = .returned (.string N) ∧ W = w') := fun W => by rw [hN]; exact numberQ_any (k + 1) W (by omega) (by have := HKS.out; omega)
      have HPA : Hid (X ++ ⟨#[47]⟩ ++ M ++ ⟨#[91]⟩ ++ N ++ ⟨#[93]⟩ = bs (atI (sl wh m) (k + 1))) := by rw [hN]; exact HW.out _
      have hz := HZ.out
      have hs1' : ¬ 9223372036854775807 < X.size + 1 := by omega
      have hs2' : ¬ 9223372036854775807 < X.size + 1 + M.size := by omega
      have hs3' : ¬ 9223372036854775807 < X.size + 1 + M.size + 1 := by omega
      have hs4' : ¬ 9223372036854775807 < X.size + 1 + M.size + 1 + N.size := by omega
      have hs5' : ¬ 9223372036854775807 < X.size + 1 + M.size + 1 + N.size + 1 := by omega
      have hw1 : IntKind.i64.wrap ((k : Int) + 1) = (k : Int) + 1 := IntWalk.i64_in _ (by have := HKS.out; omega)
      clear hN hNz hz
      have HOR := Lib.hid HRR.out.2.1
      have HR1 := Lib.hid hb1r
      clear hb1r
      go_upto_region 7 with fail
      refine wp_world ?_
      intro W7 hW7
      have x7 : Box W7 wr.heap.size [.string (bs t1.name), .slice p1 t1.attrs.length p2, .slice p3 t1.kids.length p4, .string (bs t1.text)] := by rw [hW7]; exact Box.new wr [.string (bs t1.name), .slice p1 t1.attrs.length p2, .slice p3 t1.kids.length p4, .string (bs t1.text)] _ _ rfl
      have hb7 : Below wr.heap.size wr W7 := by rw [hW7]; exact (Below.refl _ wr).alloc (Nat.le_refl _) _
      clear hW7
      have HX7 := Lib.hid x7
      have HB7 := Lib.hid hb7
      have HZ7 := Lib.hid (HZ1.out.below hb7 HZ1.out.lt)
      have HO7 := Lib.hid (HOR.out.below hb7)
      clear x7 hb7 c0 c1 c2 c3
      obtain ⟨c0, c1, c2, c3⟩ := bxc4 HX7.out
      have cl := HX7.out.lt
      have d4 := HZ7.out.cell 4 _ rfl
      have dl := HZ7.out.lt
      have HOA : Hid (∀ (o : Obj), Owns w1.heap.size 114 5 elC (W7.drew.alloc o) (.slice oa k oc) O) := fun o => Owns.alloc (w := W7.drew) (show Owns w1.heap.size 114 5 elC W7 (.slice oa k oc) O from HO7.out) o
      have HXA : Hid (∀ (o : Obj), Box (W7.drew.alloc o) wr.heap.size [.string (bs t1.name), .slice p1 t1.attrs.length p2, .slice p3 t1.kids.length p4, .string (bs t1.text)]) := fun o => Box.alloc (w := W7.drew) ⟨HX7.out.lt, HX7.out.cell, HX7.out.free⟩ o
      have HYA : Hid (∀ (o : Obj), Box (W7.drew.alloc o) w.heap.size [.string (bs t.name), .slice ao t.attrs.length ac, .slice ko t.kids.length kc, .string (bs t.text), .string X]) := fun o => Box.alloc (w := W7.drew) ⟨HZ7.out.lt, HZ7.out.cell, HZ7.out.free⟩ o
      have HSL : Hid (∀ V : World, SliceOf 5 elC (V.alloc (.cells #[.string (bs t1.name), .slice p1 t1.attrs.length p2, .slice p3 t1.kids.length p4, .string (bs t1.text), .string (X ++ ⟨#[47]⟩ ++ M ++ ⟨#[91]⟩ ++ N ++ ⟨#[93]⟩)] 114)) (.slice (some ⟨V.heap.size, 0, none⟩) 1 1) [(((t1, .slice p1 t1.attrs.length p2, .slice p3 t1.kids.length p4), atI (sl wh m) (k + 1)) : ElV)]) := fun V => by rw [HPA.out]; exact el_lit ((t1, .slice p1 t1.attrs.length p2, .slice p3 t1.kids.length p4), atI (sl wh m) (k + 1)) V _ rfl
      have HBY : Hid ((O.length + [(((t1, .slice p1 t1.attrs.length p2, .slice p3 t1.kids.length p4), atI (sl wh m) (k + 1)) : ElV)].length) * 96 ≤ 140737488355328) := by show _ ≤ _; have := HRR.out.2.2.2.1; have := HKS.out; simp only [List.length_cons, List.length_nil]; omega
      have HBS : Hid (∀ o : Obj, w1.heap.size ≤ (W7.drew.alloc o).heap.size) := fun o => by have h1 := HB7.out.size; have h2 := hs1; show _ ≤ (W7.heap.push o).size; simp only [Array.size_push]; omega
      have HNE : Hid (some wr.heap.size ≠ (Value.slice oa k oc).ownBlock ∧ some w.heap.size ≠ (Value.slice oa k oc).ownBlock) := ⟨fun h => by have := (HOR.out.lt _ h.symm).2; omega, fun h => by have := (HOR.out.lt _ h.symm).1; have := HY1.out.lt; omega⟩
      have HBA : Hid (∀ (o : Obj), Below w1.heap.size wr (W7.drew.alloc o)) := fun o => ((HB7.out.mono hs1).trans (belowN (Below.refl _ _) 1)).alloc (by have := HB7.out.size; show _ ≤ W7.heap.size; omega) o
      have HNB : Hid (∀ g, (Value.slice oa k oc).ownBlock = some g → w1.heap.size ≤ g) := fun g h => (HOR.out.lt _ h).1
      go_region_held3 (fun w' => w'.cell? ⟨wr.heap.size, 0, none⟩ = some (.string (bs t1.name)) ∧ w'.cell? ⟨wr.heap.size, 1, none⟩ = some (.slice p1 t1.attrs.length p2) ∧ w'.cell? ⟨wr.heap.size, 2, none⟩ = some (.slice p3 t1.kids.length p4) ∧ w'.cell? ⟨wr.heap.size, 3, none⟩ = some (.string (bs t1.text)) ∧ w'.cell? ⟨w.heap.size, 4, none⟩ = some (.string X)) (first | exact ⟨c0, c1, c2, c3, d4⟩ | exact ⟨hX8.out.cell 0 _ rfl, hX8.out.cell 1 _ rfl, hX8.out.cell 2 _ rfl, hX8.out.cell 3 _ rfl, hY8.out.cell 4 _ rfl⟩ | (go_keep; done)) (first | (go_at_call 105; refine (HNU.out _).mono ?_; rintro e w9 ⟨rfl, rfl⟩) | (refine step_append_slice _ rfl (.tmp 25) (.tmp 39) 144 rfl w1.heap.size 114 Tryz.underlying144 info_el rfl (by decide) elC_len (.slice oa k oc) O (by simp [Act.eval]) (HOA.out _) _ [(((t1, .slice p1 t1.attrs.length p2, .slice p3 t1.kids.length p4), atI (sl wh m) (k + 1)) : ElV)] (by simp [Act.eval]) (HSL.out _) (elC_one _ _ _ _ _ _ _ _) HBY.out (by decide) (HBS.out _) ?_; intro a8 n8 c8 w8 hown8 hgrow8; have hx8 := (HXA.out _).grown hgrow8 HNE.out.1; have hy8 := (HYA.out _).grown hgrow8 HNE.out.2; have hB8 := Lib.hid (below_thenQ (HBA.out _) hs1 hgrow8 HNB.out); have hO8 := Lib.hid hown8; have hG8 := Lib.hid hgrow8.size; have hX8 := Lib.hid hx8; have hY8 := Lib.hid hy8; clear hown8 hgrow8 hx8 hy8))
      obtain ⟨_, _, he8⟩ := hO8.out.shape
      simp only [Value.slice.injEq, List.length_append, List.length_cons, List.length_nil, HRR.out.2.2.2.1, Nat.zero_add] at he8
      obtain ⟨-, he8, -⟩ := he8
      subst he8
      go_wp2
      go_roundw
      case rel =>
       have h1 := HRR.out
       have hW1 : w.heap.size ≤ w1.heap.size := HB1.out.size
       have hk8 : KeptX (fun j => Z j ∨ w.heap.size ≤ j) wr w8 := keptQ hB8.out hB8.out.size (fun k hk => by have h2 : ¬ w.heap.size ≤ k := fun h => hk (.inr h); omega)
       refine ⟨k + 1, O ++ [(((t1, .slice p1 t1.attrs.length p2, .slice p3 t1.kids.length p4), atI (sl wh m) (k + 1)) : ElV)], a8, c8, hlt, by go_num, rfl, h1.1.trans hB8.out, hO8.out, ?_, by simp [h1.2.2.2.1], ?_⟩
       · rw [List.map_append, h1.2.2.1, HTK.out, elsQ_snoc]
         have hl2 : (K.take k).length = k := by rw [List.length_take]; omega
         rw [hl2, Nat.zero_add]
         rfl
       · intro y hy
         rcases List.mem_append.1 hy with hy | hy
         · exact (h1.2.2.2.2 y hy).keep hk8 (fun _ _ h => h)
         · obtain rfl := List.mem_singleton.1 hy
           exact (HNN.out.keep (keptQ hB8.out hB8.out.size (fun k hk => by have h2 : ¬ w.heap.size ≤ k := fun h => hk (.inl (.inr h)); omega)) (fun _ _ h => .inl h))
      case measure => simp [intOf]; omega
    · obtain rfl : k = K.length := by omega
      go_wp2
      go_ret
      have h1 := HRR.out
      refine Ret.good HR.out (HB1.out.trans (h1.1.mono HB1.out.size)) ⟨_, O, rfl, by rw [h1.2.2.1, List.take_length], h1.2.1.base_mono HB1.out.size, h1.2.2.2.2⟩

end Go.Proofs.YtphaeegbmfpcgaaGreat
