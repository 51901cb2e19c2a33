/- The walk of a dependency in pom's reader; the conditions stand in the theorem. -/
import Derived.Test.YtphaeegbmfpcgaaGreatDoorFB14
import Derived.Deep.CutBlock
namespace Go.Proofs.YtphaeegbmfpcgaaGreatDoor
open Go Go.RowKit

theorem Box.apart {w : World} {b c : Nat} {cs : List Value} (h : Box w b cs) (hne : b ≠ c) (j : Nat) (v : Value) : Box (w.setCell ⟨c, j, none⟩ v) b cs := h.grown (setCell_grown w c j v) (by simpa using hne)
theorem isScope_any (m : Bool) (w : World) : Calls Tryz.prog 171 #[.bool m] w fun e w' => e = .returned (.func (.func 201) #[] #[.pointer (some ⟨w.heap.size, 0, none⟩)]) ∧ w' = w.alloc (.cells #[.bool m] 4) := by
 go_enter Tryz.func171, Tryz.ntmps171
 go_wp2
 go_ret
 exact ⟨rfl, rfl⟩
theorem size_dep : (Tryz.prog.info? 171).map (·.size) = some 8 := by kernel_rfl
theorem info_idQ : (Tryz.prog.info? 24).map (fun i => (i.zero, i.size, i.bytes)) = some (some (.agg #[.string ⟨#[]⟩, .string ⟨#[]⟩]), 2, 32) := by kernel_rfl
theorem idC_len2 (x : Id) : (idC x).length = 2 := rfl
theorem idC_one2 (x : Id) : ∀ u ∈ idC x, u.oneCell' = true := by
 intro u hu
 simp only [idC, List.mem_cons, List.not_mem_nil, or_false] at hu
 rcases hu with rfl | rfl <;> rfl
/-- What a word's call ends in: a panic with the error, or the text. -/
def WdP (E : Option Er) (G : S) (e : Ending) : Prop := (∃ x, E = some x ∧ e = .panicked [{ v := .iface 161 (.agg #[.int .i64 x.1, .string (bs x.2)]), recovered := false }]) ∨ (E = none ∧ e = .returned (.string G))
theorem Ret.wd {E : Option Er} {G : S} {w w' : World} {e : Ending} (h : Ret E (fun e _ => e = .returned (.string G)) w e w') : Below w.heap.size w w' ∧ WdP E G e := by
 refine ⟨h.1, ?_⟩
 cases hE : E with
 | some x => exact .inl ⟨x, rfl, h.2.1 x hE⟩
 | none => exact .inr ⟨rfl, h.2.2 hE⟩
theorem elsQ_get (w : Bs) : ∀ (l : List Tr) (i k : Nat) (h : k < l.length), (elsQ w l i)[k]? = some (l[k], atI w (i + k + 1))
 | t :: l, i, 0, _ => rfl
 | t :: l, i, k + 1, h => by
  have := elsQ_get w l (i + 1) k (by simpa using h)
  rw [elsQ, List.getElem?_cons_succ, this]
  simp only [List.getElem_cons_succ]
  rw [show i + 1 + k + 1 = i + (k + 1) + 1 by omega]
theorem elsQ_len (w : Bs) : ∀ (l : List Tr) (i : Nat), (elsQ w l i).length = l.length
 | [], _ => rfl
 | t :: l, i => by rw [elsQ, List.length_cons, elsQ_len w l (i + 1), List.length_cons]
theorem eachE_at {f : Tr → Bs → Option Er} {w : Bs} {K : List Tr} {k : Nat} (h : k < K.length) : eachE f w (K.drop k) k = (f K[k] (atI w (k + 1))).or (eachE f w (K.drop (k + 1)) (k + 1)) := by
 rw [List.drop_eq_getElem_cons h, eachE]
/-- The post of dep. -/
def DepP (w : World) (d : Dep) (e : Ending) (w' : World) : Prop := ∃ v, e = .returned (.agg (depC (d, v)).toArray) ∧ Owns w.heap.size 24 2 idC w' v d.excl
def s6Upd (m : Bool) (v0 v1 v2 v3 v4 fv : Value) (x0 x1 x2 x3 x4 x5 x6 x7 x8 x9 x10 x11 x12 x13 x14 x15 x16 x17 x18 x19 x20 x21 x22 x23 y24 y25 y26 y27 y28 y29 y30 y31 y32 x33 x34 x35 x36 x37 x38 x39 x40 x41 x42 x43 x44 x45 x46 x47 x48 x49 x50 x51 x52 x53 x54 x55 x56 x57 x58 x59 x60 x61 x62 x63 x64 x65 : Value) (f0 f1 f2 f3 f4 f5 f6 f7 f8 _f9 : Bool)  : Act :=
 ⟨#[x0, x1, x2, x3, x4, x5, x6, x7, x8, x9, x10, x11, x12, x13, x14, x15, x16, x17, x18, x19, x20, x21, x22, x23, cond f5 (undef) y24, cond f0 (.agg #[v0, v1, v2, v3, v4]) y25, cond f1 (.bool m) y26, cond f2 (fv) y27, cond f3 (undef) y28, cond f4 (undef) y29, cond f6 (undef) y30, cond f7 (undef) y31, cond f8 (undef) y32, x33, x34, x35, x36, x37, x38, x39, x40, x41, x42, x43, x44, x45, x46, x47, x48, x49, x50, x51, x52, x53, x54, x55, x56, x57, x58, x59, x60, x61, x62, x63, x64, x65], []⟩
def s6J (m : Bool) (v0 v1 v2 v3 v4 fv : Value) (V : World) (x0 x1 x2 x3 x4 x5 x6 x7 x8 x9 x10 x11 x12 x13 x14 x15 x16 x17 x18 x19 x20 x21 x22 x23 y24 y25 y26 y27 y28 y29 y30 y31 y32 x33 x34 x35 x36 x37 x38 x39 x40 x41 x42 x43 x44 x45 x46 x47 x48 x49 x50 x51 x52 x53 x54 x55 x56 x57 x58 x59 x60 x61 x62 x63 x64 x65 : Value) (listed : Array Bool) (atx : Act) (w' : World) : Prop :=
 ∃ (f0 f1 f2 f3 f4 f5 f6 f7 f8 f9 : Bool) , listed = #[f0, f1, f2, f3, f4, f5, f6, f7, f8, f9] ∧ atx = s6Upd m v0 v1 v2 v3 v4 fv x0 x1 x2 x3 x4 x5 x6 x7 x8 x9 x10 x11 x12 x13 x14 x15 x16 x17 x18 x19 x20 x21 x22 x23 y24 y25 y26 y27 y28 y29 y30 y31 y32 x33 x34 x35 x36 x37 x38 x39 x40 x41 x42 x43 x44 x45 x46 x47 x48 x49 x50 x51 x52 x53 x54 x55 x56 x57 x58 x59 x60 x61 x62 x63 x64 x65 f0 f1 f2 f3 f4 f5 f6 f7 f8 f9  ∧ w' = cond f2 (V.drew.alloc (.cells #[.bool m] 4)) V.drew ∧ Hid (f3 = false ∧ f4 = false ∧ f5 = false ∧ f8 = false)
def x17Upd (B : Nat) (e0 e1 e2 e3 e4 : Value) (G A : S) (oa : Option Addr) (n oc : Nat) (l : List Id) (x0 x1 x2 x3 x4 x5 x6 x7 x8 x9 x10 x11 x12 x13 x14 x15 x16 x17 x18 x19 x20 x21 x22 x23 x24 x25 x26 x27 x28 x29 x30 x31 x32 x33 x34 x35 x36 x37 x38 x39 x40 x41 x42 x43 x44 x45 x46 x47 x48 x49 x50 x51 x52 x53 y54 y55 y56 y57 y58 y59 y60 y61 y62 y63 x64 x65 : Value) (f0 f1 f2 f3 f4 f5 f6 f7 f8 f9 _f10 : Bool) (H g8 c8 : Nat) : Act :=
 ⟨#[x0, x1, x2, x3, x4, x5, x6, x7, x8, x9, x10, x11, x12, x13, x14, x15, x16, x17, x18, x19, x20, x21, x22, x23, x24, x25, x26, x27, x28, x29, x30, x31, x32, x33, x34, x35, x36, x37, x38, x39, x40, x41, x42, x43, x44, x45, x46, x47, x48, x49, x50, x51, x52, x53, cond f0 (.pointer (some ⟨B, 7, none⟩)) y54, cond f1 (.slice oa n oc) y55, cond f2 (.agg #[e0, e1, e2, e3, e4]) y56, cond f3 (.string G) y57, cond f4 (.agg #[e0, e1, e2, e3, e4]) y58, cond f5 (.string A) y59, cond f6 (.agg #[.string G, .string A]) y60, cond f7 (.slice (some ⟨H, 0, none⟩) 1 1) y61, cond f8 (.slice (some ⟨g8, 0, none⟩) (l.length + 1) c8) y62, cond f9 (.pointer (some ⟨B, 7, none⟩)) y63, x64, x65], []⟩
def x17J (B : Nat) (e0 e1 e2 e3 e4 : Value) (G A : S) (oa : Option Addr) (n oc base : Nat) (l : List Id) (D : Value → List Value) (E1 E2 : Option Er) (V : World) (x0 x1 x2 x3 x4 x5 x6 x7 x8 x9 x10 x11 x12 x13 x14 x15 x16 x17 x18 x19 x20 x21 x22 x23 x24 x25 x26 x27 x28 x29 x30 x31 x32 x33 x34 x35 x36 x37 x38 x39 x40 x41 x42 x43 x44 x45 x46 x47 x48 x49 x50 x51 x52 x53 y54 y55 y56 y57 y58 y59 y60 y61 y62 y63 x64 x65 : Value) (listed : Array Bool) (atx : Act) (w' : World) : Prop :=
 ∃ (f0 f1 f2 f3 f4 f5 f6 f7 f8 f9 f10 : Bool) (H g8 c8 : Nat), listed = #[f0, f1, f2, f3, f4, f5, f6, f7, f8, f9, f10] ∧ atx = x17Upd B e0 e1 e2 e3 e4 G A oa n oc l x0 x1 x2 x3 x4 x5 x6 x7 x8 x9 x10 x11 x12 x13 x14 x15 x16 x17 x18 x19 x20 x21 x22 x23 x24 x25 x26 x27 x28 x29 x30 x31 x32 x33 x34 x35 x36 x37 x38 x39 x40 x41 x42 x43 x44 x45 x46 x47 x48 x49 x50 x51 x52 x53 y54 y55 y56 y57 y58 y59 y60 y61 y62 y63 x64 x65 f0 f1 f2 f3 f4 f5 f6 f7 f8 f9 f10 H g8 c8 ∧ Hid (f3 = true → f2 = true) ∧ Hid (f5 = true → f4 = true ∧ f3 = true) ∧ Hid (f6 = true → f3 = true ∧ f5 = true) ∧ Hid (f7 = true → f6 = true) ∧ Hid (f8 = true → f1 = true ∧ f7 = true ∧ f5 = true) ∧ Hid (f10 = true → f8 = true) ∧ Hid (f3 = true → E1 = none) ∧ Hid (f5 = true → E2 = none) ∧ (f8 = false → Below V.heap.size V w') ∧ (f7 = true → f8 = false → ∀ j u, (idC ⟨G, A⟩)[j]? = some u → w'.cell? ⟨H, j, none⟩ = some u) ∧
  (f8 = true → f10 = false → Owns base 24 2 idC w' (.slice (some ⟨g8, 0, none⟩) (l.length + 1) c8) (l ++ [⟨G, A⟩]) ∧ V.grownBy w' (Value.slice oa n oc).ownBlock) ∧ (f10 = true → Owns base 24 2 idC w' (.slice (some ⟨g8, 0, none⟩) (l.length + 1) c8) (l ++ [⟨G, A⟩]) ∧ Box w' B (D (.slice (some ⟨g8, 0, none⟩) (l.length + 1) c8)) ∧ ∃ w8, V.grownBy w8 (Value.slice oa n oc).ownBlock ∧ w8.grownBy w' (some B))
set_option maxRecDepth 100000 in
set_option maxHeartbeats 16000000 in
theorem depQ_any (m : Bool) (t : Tr) (wh : Bs) (w : World) (av kv : Value) (ht : NodeOf w t av kv) (hm : MildW t) (hl : wh.length ≤ 10000000000) :
    Calls Tryz.prog 134 #[elemV t av kv wh, .bool m] w (Ret (depE m t wh) (DepP w (depV t)) w) := by
 obtain ⟨ao, ac, ko, kc, rfl, rfl, hal, -⟩ := ht.shape
 obtain ⟨X, hX⟩ : ∃ X : S, X = bs wh := ⟨_, rfl⟩
 have HXW : Hid ((bs wh : S) = X) := hX.symm
 unfold elemV
 rw [← hX]
 have HW0 : Hid (∀ W, Below w.heap.size w W → Calls Tryz.prog 86 #[.agg #[.string (bs t.name), .slice ao t.attrs.length ac, .slice ko t.kids.length kc, .string (bs t.text), .string X], .string ⟨#[103, 114, 111, 117, 112, 73, 100]⟩, .bool true, .func (.func 87) #[] #[]] W (Ret (wordE t wh bGroup true freeB) (fun e _ => e = .returned (.string (bs (wordV t bGroup)))) W)) := fun W h => by
  rw [hX]; exact wordQ_any _ _ _ t wh bGroup true W _ _ (ht.later h) hm (by have : bGroup.length ≤ 20 := (by decide); omega) (tests_free W)
 have HW1 : Hid (∀ W, Below w.heap.size w W → Calls Tryz.prog 86 #[.agg #[.string (bs t.name), .slice ao t.attrs.length ac, .slice ko t.kids.length kc, .string (bs t.text), .string X], .string ⟨#[97, 114, 116, 105, 102, 97, 99, 116, 73, 100]⟩, .bool true, .func (.func 87) #[] #[]] W (Ret (wordE t wh bArtifact true freeB) (fun e _ => e = .returned (.string (bs (wordV t bArtifact)))) W)) := fun W h => by
  rw [hX]; exact wordQ_any _ _ _ t wh bArtifact true W _ _ (ht.later h) hm (by have : bArtifact.length ≤ 20 := (by decide); omega) (tests_free W)
 have HW2 : Hid (∀ W, Below w.heap.size w W → Calls Tryz.prog 86 #[.agg #[.string (bs t.name), .slice ao t.attrs.length ac, .slice ko t.kids.length kc, .string (bs t.text), .string X], .string ⟨#[118, 101, 114, 115, 105, 111, 110]⟩, .bool false, .func (.func 87) #[] #[]] W (Ret (wordE t wh bVersion false freeB) (fun e _ => e = .returned (.string (bs (wordV t bVersion)))) W)) := fun W h => by
  rw [hX]; exact wordQ_any _ _ _ t wh bVersion false W _ _ (ht.later h) hm (by have : bVersion.length ≤ 20 := (by decide); omega) (tests_free W)
 have HW3 : Hid (∀ W, Below w.heap.size w W → Calls Tryz.prog 86 #[.agg #[.string (bs t.name), .slice ao t.attrs.length ac, .slice ko t.kids.length kc, .string (bs t.text), .string X], .string ⟨#[116, 121, 112, 101]⟩, .bool false, .func (.func 87) #[] #[]] W (Ret (wordE t wh bType false freeB) (fun e _ => e = .returned (.string (bs (wordV t bType)))) W)) := fun W h => by
  rw [hX]; exact wordQ_any _ _ _ t wh bType false W _ _ (ht.later h) hm (by have : bType.length ≤ 20 := (by decide); omega) (tests_free W)
 have HW4 : Hid (∀ W, Below w.heap.size w W → Calls Tryz.prog 86 #[.agg #[.string (bs t.name), .slice ao t.attrs.length ac, .slice ko t.kids.length kc, .string (bs t.text), .string X], .string ⟨#[99, 108, 97, 115, 115, 105, 102, 105, 101, 114]⟩, .bool false, .func (.func 87) #[] #[]] W (Ret (wordE t wh bClassifier false freeB) (fun e _ => e = .returned (.string (bs (wordV t bClassifier)))) W)) := fun W h => by
  rw [hX]; exact wordQ_any _ _ _ t wh bClassifier false W _ _ (ht.later h) hm (by have : bClassifier.length ≤ 20 := (by decide); omega) (tests_free W)
 have HW6 : Hid (∀ W, Below w.heap.size w W → Calls Tryz.prog 86 #[.agg #[.string (bs t.name), .slice ao t.attrs.length ac, .slice ko t.kids.length kc, .string (bs t.text), .string X], .string ⟨#[111, 112, 116, 105, 111, 110, 97, 108]⟩, .bool false, .func (.func 172) #[] #[]] W (Ret (wordE t wh bOptional false isTruthB) (fun e _ => e = .returned (.string (bs (wordV t bOptional)))) W)) := fun W h => by
  rw [hX]; exact wordQ_any _ _ _ t wh bOptional false W _ _ (ht.later h) hm (by have : bOptional.length ≤ 20 := (by decide); omega) (tests_truth W)
 have HW5 : Hid (∀ W b, Below w.heap.size w W → b < W.heap.size → W.cell? ⟨b, 0, none⟩ = some (.bool m) → Calls Tryz.prog 86 #[.agg #[.string (bs t.name), .slice ao t.attrs.length ac, .slice ko t.kids.length kc, .string (bs t.text), .string X], .string ⟨#[115, 99, 111, 112, 101]⟩, .bool false, .func (.func 201) #[] #[.pointer (some ⟨b, 0, none⟩)]] W (Ret (wordE t wh bScope false (isScopeQ m)) (fun e _ => e = .returned (.string (bs (wordV t bScope)))) W)) := fun W b h hb hc => by
  rw [hX]; exact wordQ_any _ _ _ t wh bScope false W _ _ (ht.later h) hm (by have : bScope.length ≤ 20 := (by decide); omega) (tests_scope W b m hb hc)
 have HF : Hid (∀ W, Below w.heap.size w W → Calls Tryz.prog 85 #[.agg #[.string (bs t.name), .slice ao t.attrs.length ac, .slice ko t.kids.length kc, .string (bs t.text), .string X], .string ⟨#[101, 120, 99, 108, 117, 115, 105, 111, 110, 115]⟩] W (Ret (manyE t wh bExclusions) (FieldX (fun j => w.heap.size ≤ j) wh bExclusions (oneV t bExclusions)) W)) := fun W h => by
  rw [hX]; exact field_x (fun j => w.heap.size ≤ j) t wh bExclusions W _ _ (ht.fresh.later h) hm.kl (by have : bExclusions.length ≤ 20 := (by decide); omega)
 have HM := Lib.hid hm
 have HEE : Hid (∀ E, E = depE m t wh → E = depE m t wh) := fun _ h => h
 obtain ⟨r, hr⟩ : ∃ r, r = depE m t wh := ⟨_, rfl⟩
 have HE : Hid (r = depE m t wh) := hr
 rw [← hr]
 obtain ⟨V, hV⟩ : ∃ V, V = depV t := ⟨_, rfl⟩
 have HV : Hid (V = depV t) := hV
 rw [← hV]
 clear hX hm ht hr hV HEE
 go_enter Tryz.func134, Tryz.ntmps134
 go_upto_region 1 with fail
 refine wp_world ?_
 intro W hW
 have x1 : Box W w.heap.size [.string (bs t.name), .slice ao t.attrs.length ac, .slice ko t.kids.length kc, .string (bs t.text), .string X] := by rw [hW]; exact (Box.new w [.string (bs t.name), .slice ao t.attrs.length ac, .slice ko t.kids.length kc, .string (bs t.text), .string X] _ _ rfl).alloc _
 have x2 : Box W (w.heap.size + 1) [.string ⟨#[]⟩, .string ⟨#[]⟩, .string ⟨#[]⟩, .string ⟨#[]⟩, .string ⟨#[]⟩, .int .i64 0, .int .i64 0, .slice none 0 0] := by rw [hW]; exact Box.new (w.alloc _) [.string ⟨#[]⟩, .string ⟨#[]⟩, .string ⟨#[]⟩, .string ⟨#[]⟩, .string ⟨#[]⟩, .int .i64 0, .int .i64 0, .slice none 0 0] _ _ (by simp)
 have hb : Below w.heap.size w W := by rw [hW]; exact ((Below.refl _ w).alloc (Nat.le_refl _) _).alloc (by simp) _
 clear hW
 have HX := Lib.hid x1
 have HD := Lib.hid x2
 have HB := Lib.hid hb
 clear x1 x2 hb
 obtain ⟨a0, a1, a2, a3, a4⟩ := bxc5 HX.out
 have al := HX.out.lt
 go_wp2_with fail
 refine (HW0.out _ HB.out).mono ?_
 rintro e w1 ⟨hb1, hp, hq⟩
 have HB1 := Lib.hid (HB.out.trans (hb1.mono HB.out.size))
 have HX1 := Lib.hid (HX.out.below hb1 HX.out.lt)
 have HD1 := Lib.hid (HD.out.below hb1 HD.out.lt)
 clear a0 a1 a2 a3 a4 al HX HD HB hb1 HW0
 rcases hM : wordE t wh bGroup true freeB with _ | x
 rotate_left
 · obtain rfl := hp x hM
   have HR : Hid (r = some x) := by show _ = _; rw [HE.out]; unfold depE; rw [hM]; rfl
   clear hp hq hM HE HV
   unfold panE
   go_wp2
   exact ⟨rfl, Ret.bad HR.out HB1.out rfl⟩
 obtain rfl := hq hM
 have n0 := Lib.hid hM
 clear hp hq hM
 have HX := HX1
 have HD := HD1
 have HB := HB1
 clear HX1 HD1 HB1
 obtain ⟨d0, d1, d2, d3, d4, d5, d6, d7⟩ := bxc8 HD.out
 have df0 := HD.out.free 0
 have df1 := HD.out.free 1
 have df2 := HD.out.free 2
 have df3 := HD.out.free 3
 have df4 := HD.out.free 4
 have df5 := HD.out.free 5
 have df6 := HD.out.free 6
 have df7 := HD.out.free 7
 have dl := HD.out.lt
 go_upto_region 2 with fail
 refine wp_world ?_
 intro W hW
 have x1 : Box W w.heap.size [.string (bs t.name), .slice ao t.attrs.length ac, .slice ko t.kids.length kc, .string (bs t.text), .string X] := by rw [hW]; exact HX.out.apart (by omega) _ _
 have x2 : Box W (w.heap.size + 1) [.string (bs (wordV t bGroup)), .string ⟨#[]⟩, .string ⟨#[]⟩, .string ⟨#[]⟩, .string ⟨#[]⟩, .int .i64 0, .int .i64 0, .slice none 0 0] := by rw [hW]; exact HD.out.set 0 _
 have hb : Below w.heap.size w W := by rw [hW]; exact HB.out.setCell (by simp) _
 clear hW d0 d1 d2 d3 d4 d5 d6 d7 df0 df1 df2 df3 df4 df5 df6 df7 dl HX HD HB
 have HX := Lib.hid x1
 have HD := Lib.hid x2
 have HB := Lib.hid hb
 clear x1 x2 hb
 obtain ⟨a0, a1, a2, a3, a4⟩ := bxc5 HX.out
 have al := HX.out.lt
 go_wp2_with fail
 refine (HW1.out _ HB.out).mono ?_
 rintro e w2 ⟨hb1, hp, hq⟩
 have HB1 := Lib.hid (HB.out.trans (hb1.mono HB.out.size))
 have HX1 := Lib.hid (HX.out.below hb1 HX.out.lt)
 have HD1 := Lib.hid (HD.out.below hb1 HD.out.lt)
 clear a0 a1 a2 a3 a4 al HX HD HB hb1 HW1
 rcases hM : wordE t wh bArtifact true freeB with _ | x
 rotate_left
 · obtain rfl := hp x hM
   have HR : Hid (r = some x) := by show _ = _; rw [HE.out]; unfold depE; rw [n0.out, Option.none_or, hM]; rfl
   clear hp hq hM HE HV
   unfold panE
   go_wp2
   exact ⟨rfl, Ret.bad HR.out HB1.out rfl⟩
 obtain rfl := hq hM
 have n1 := Lib.hid hM
 clear hp hq hM
 have HX := HX1
 have HD := HD1
 have HB := HB1
 clear HX1 HD1 HB1
 obtain ⟨d0, d1, d2, d3, d4, d5, d6, d7⟩ := bxc8 HD.out
 have df0 := HD.out.free 0
 have df1 := HD.out.free 1
 have df2 := HD.out.free 2
 have df3 := HD.out.free 3
 have df4 := HD.out.free 4
 have df5 := HD.out.free 5
 have df6 := HD.out.free 6
 have df7 := HD.out.free 7
 have dl := HD.out.lt
 go_upto_region 3 with fail
 refine wp_world ?_
 intro W hW
 have x1 : Box W w.heap.size [.string (bs t.name), .slice ao t.attrs.length ac, .slice ko t.kids.length kc, .string (bs t.text), .string X] := by rw [hW]; exact HX.out.apart (by omega) _ _
 have x2 : Box W (w.heap.size + 1) [.string (bs (wordV t bGroup)), .string (bs (wordV t bArtifact)), .string ⟨#[]⟩, .string ⟨#[]⟩, .string ⟨#[]⟩, .int .i64 0, .int .i64 0, .slice none 0 0] := by rw [hW]; exact HD.out.set 1 _
 have hb : Below w.heap.size w W := by rw [hW]; exact HB.out.setCell (by simp) _
 clear hW d0 d1 d2 d3 d4 d5 d6 d7 df0 df1 df2 df3 df4 df5 df6 df7 dl HX HD HB
 have HX := Lib.hid x1
 have HD := Lib.hid x2
 have HB := Lib.hid hb
 clear x1 x2 hb
 obtain ⟨a0, a1, a2, a3, a4⟩ := bxc5 HX.out
 have al := HX.out.lt
 go_wp2_with fail
 refine (HW2.out _ HB.out).mono ?_
 rintro e w3 ⟨hb1, hp, hq⟩
 have HB1 := Lib.hid (HB.out.trans (hb1.mono HB.out.size))
 have HX1 := Lib.hid (HX.out.below hb1 HX.out.lt)
 have HD1 := Lib.hid (HD.out.below hb1 HD.out.lt)
 clear a0 a1 a2 a3 a4 al HX HD HB hb1 HW2
 rcases hM : wordE t wh bVersion false freeB with _ | x
 rotate_left
 · obtain rfl := hp x hM
   have HR : Hid (r = some x) := by show _ = _; rw [HE.out]; unfold depE; rw [n0.out, Option.none_or, n1.out, Option.none_or, hM]; rfl
   clear hp hq hM HE HV
   unfold panE
   go_wp2
   exact ⟨rfl, Ret.bad HR.out HB1.out rfl⟩
 obtain rfl := hq hM
 have n2 := Lib.hid hM
 clear hp hq hM
 have HX := HX1
 have HD := HD1
 have HB := HB1
 clear HX1 HD1 HB1
 obtain ⟨d0, d1, d2, d3, d4, d5, d6, d7⟩ := bxc8 HD.out
 have df0 := HD.out.free 0
 have df1 := HD.out.free 1
 have df2 := HD.out.free 2
 have df3 := HD.out.free 3
 have df4 := HD.out.free 4
 have df5 := HD.out.free 5
 have df6 := HD.out.free 6
 have df7 := HD.out.free 7
 have dl := HD.out.lt
 go_upto_region 4 with fail
 refine wp_world ?_
 intro W hW
 have x1 : Box W w.heap.size [.string (bs t.name), .slice ao t.attrs.length ac, .slice ko t.kids.length kc, .string (bs t.text), .string X] := by rw [hW]; exact HX.out.apart (by omega) _ _
 have x2 : Box W (w.heap.size + 1) [.string (bs (wordV t bGroup)), .string (bs (wordV t bArtifact)), .string (bs (wordV t bVersion)), .string ⟨#[]⟩, .string ⟨#[]⟩, .int .i64 0, .int .i64 0, .slice none 0 0] := by rw [hW]; exact HD.out.set 2 _
 have hb : Below w.heap.size w W := by rw [hW]; exact HB.out.setCell (by simp) _
 clear hW d0 d1 d2 d3 d4 d5 d6 d7 df0 df1 df2 df3 df4 df5 df6 df7 dl HX HD HB
 have HX := Lib.hid x1
 have HD := Lib.hid x2
 have HB := Lib.hid hb
 clear x1 x2 hb
 obtain ⟨a0, a1, a2, a3, a4⟩ := bxc5 HX.out
 have al := HX.out.lt
 go_wp2_with fail
 refine (HW3.out _ HB.out).mono ?_
 rintro e w4 ⟨hb1, hp, hq⟩
 have HB1 := Lib.hid (HB.out.trans (hb1.mono HB.out.size))
 have HX1 := Lib.hid (HX.out.below hb1 HX.out.lt)
 have HD1 := Lib.hid (HD.out.below hb1 HD.out.lt)
 clear a0 a1 a2 a3 a4 al HX HD HB hb1 HW3
 rcases hM : wordE t wh bType false freeB with _ | x
 rotate_left
 · obtain rfl := hp x hM
   have HR : Hid (r = some x) := by show _ = _; rw [HE.out]; unfold depE; rw [n0.out, Option.none_or, n1.out, Option.none_or, n2.out, Option.none_or, hM]; rfl
   clear hp hq hM HE HV
   unfold panE
   go_wp2
   exact ⟨rfl, Ret.bad HR.out HB1.out rfl⟩
 obtain rfl := hq hM
 have n3 := Lib.hid hM
 clear hp hq hM
 have HX := HX1
 have HD := HD1
 have HB := HB1
 clear HX1 HD1 HB1
 obtain ⟨d0, d1, d2, d3, d4, d5, d6, d7⟩ := bxc8 HD.out
 have df0 := HD.out.free 0
 have df1 := HD.out.free 1
 have df2 := HD.out.free 2
 have df3 := HD.out.free 3
 have df4 := HD.out.free 4
 have df5 := HD.out.free 5
 have df6 := HD.out.free 6
 have df7 := HD.out.free 7
 have dl := HD.out.lt
 go_upto_region 5 with fail
 refine wp_world ?_
 intro W hW
 have x1 : Box W w.heap.size [.string (bs t.name), .slice ao t.attrs.length ac, .slice ko t.kids.length kc, .string (bs t.text), .string X] := by rw [hW]; exact HX.out.apart (by omega) _ _
 have x2 : Box W (w.heap.size + 1) [.string (bs (wordV t bGroup)), .string (bs (wordV t bArtifact)), .string (bs (wordV t bVersion)), .string (bs (wordV t bType)), .string ⟨#[]⟩, .int .i64 0, .int .i64 0, .slice none 0 0] := by rw [hW]; exact HD.out.set 3 _
 have hb : Below w.heap.size w W := by rw [hW]; exact HB.out.setCell (by simp) _
 clear hW d0 d1 d2 d3 d4 d5 d6 d7 df0 df1 df2 df3 df4 df5 df6 df7 dl HX HD HB
 have HX := Lib.hid x1
 have HD := Lib.hid x2
 have HB := Lib.hid hb
 clear x1 x2 hb
 obtain ⟨a0, a1, a2, a3, a4⟩ := bxc5 HX.out
 have al := HX.out.lt
 go_wp2_with fail
 refine (HW4.out _ HB.out).mono ?_
 rintro e w5 ⟨hb1, hp, hq⟩
 have HB1 := Lib.hid (HB.out.trans (hb1.mono HB.out.size))
 have HX1 := Lib.hid (HX.out.below hb1 HX.out.lt)
 have HD1 := Lib.hid (HD.out.below hb1 HD.out.lt)
 clear a0 a1 a2 a3 a4 al HX HD HB hb1 HW4
 rcases hM : wordE t wh bClassifier false freeB with _ | x
 rotate_left
 · obtain rfl := hp x hM
   have HR : Hid (r = some x) := by show _ = _; rw [HE.out]; unfold depE; rw [n0.out, Option.none_or, n1.out, Option.none_or, n2.out, Option.none_or, n3.out, Option.none_or, hM]; rfl
   clear hp hq hM HE HV
   unfold panE
   go_wp2
   exact ⟨rfl, Ret.bad HR.out HB1.out rfl⟩
 obtain rfl := hq hM
 have n4 := Lib.hid hM
 clear hp hq hM
 have HX := HX1
 have HD := HD1
 have HB := HB1
 clear HX1 HD1 HB1
 obtain ⟨d0, d1, d2, d3, d4, d5, d6, d7⟩ := bxc8 HD.out
 have df0 := HD.out.free 0
 have df1 := HD.out.free 1
 have df2 := HD.out.free 2
 have df3 := HD.out.free 3
 have df4 := HD.out.free 4
 have df5 := HD.out.free 5
 have df6 := HD.out.free 6
 have df7 := HD.out.free 7
 have dl := HD.out.lt
 go_upto_region 6 with fail
 refine wp_world ?_
 intro W hW
 have x1 : Box W w.heap.size [.string (bs t.name), .slice ao t.attrs.length ac, .slice ko t.kids.length kc, .string (bs t.text), .string X] := by rw [hW]; exact HX.out.apart (by omega) _ _
 have x2 : Box W (w.heap.size + 1) [.string (bs (wordV t bGroup)), .string (bs (wordV t bArtifact)), .string (bs (wordV t bVersion)), .string (bs (wordV t bType)), .string (bs (wordV t bClassifier)), .int .i64 0, .int .i64 0, .slice none 0 0] := by rw [hW]; exact HD.out.set 4 _
 have hb : Below w.heap.size w W := by rw [hW]; exact HB.out.setCell (by simp) _
 clear hW d0 d1 d2 d3 d4 d5 d6 d7 df0 df1 df2 df3 df4 df5 df6 df7 dl HX HD HB
 have HX := Lib.hid x1
 have HD := Lib.hid x2
 have HB := Lib.hid hb
 clear x1 x2 hb
 obtain ⟨a0, a1, a2, a3, a4⟩ := bxc5 HX.out
 have al := HX.out.lt
 obtain ⟨d0, d1, d2, d3, d4, d5, d6, d7⟩ := bxc8 HD.out
 have df0 := HD.out.free 0
 have df1 := HD.out.free 1
 have df2 := HD.out.free 2
 have df3 := HD.out.free 3
 have df4 := HD.out.free 4
 have df5 := HD.out.free 5
 have df6 := HD.out.free 6
 have df7 := HD.out.free 7
 have dl := HD.out.lt
 have HCL : Hid (∀ T, (W.drew.alloc (.cells #[.bool m] T)).cell? ⟨W.drew.heap.size, 0, none⟩ = some (.bool m)) := fun T => (Box.new W.drew [.bool m] T _ rfl).cell 0 _ rfl
 have HCS : Hid (∀ o : Obj, W.drew.heap.size < (W.drew.alloc o).heap.size) := fun o => by show _ < (W.heap.push o).size; simp
 have HBA : Hid (∀ o : Obj, Below w.heap.size w (W.drew.alloc o)) := fun o => (belowN HB.out 1).alloc HB.out.size o
 rcases hM : wordE t wh bScope false (isScopeQ m) with _ | x
 rotate_left
 · have HR : Hid (r = some x) := by show _ = _; rw [HE.out]; unfold depE; rw [n0.out, Option.none_or, n1.out, Option.none_or, n2.out, Option.none_or, n3.out, Option.none_or, n4.out, Option.none_or, hM]; rfl
   have HEC : Hid (∀ W b, Below w.heap.size w W → b < W.heap.size → W.cell? ⟨b, 0, none⟩ = some (.bool m) → Calls Tryz.prog 86 #[.agg #[.string (bs t.name), .slice ao t.attrs.length ac, .slice ko t.kids.length kc, .string (bs t.text), .string X], .string ⟨#[115, 99, 111, 112, 101]⟩, .bool false, .func (.func 201) #[] #[.pointer (some ⟨b, 0, none⟩)]] W fun e w' => e = .panicked [{ v := .iface 161 (.agg #[.int .i64 x.1, .string (bs x.2)]), recovered := false }] ∧ Below w.heap.size w w') := fun W b h1 h2 h3 =>
    (HW5.out W b h1 h2 h3).mono fun e w' ⟨g1, g2, g3⟩ => ⟨g2 x hM, h1.trans (g1.mono h1.size)⟩
   clear hM HW5
   refine wp_region_flags0 (s6J m (.string (bs t.name)) (.slice ao t.attrs.length ac) (.slice ko t.kids.length kc) (.string (bs t.text)) (.string X) (.func (.func 201) #[] #[.pointer (some ⟨W.heap.size, 0, none⟩)]) W _ _ _ _ _ _ _ _ _ _ _ _ _ _ _ _ _ _ _ _ _ _ _ _ _ _ _ _ _ _ _ _ _ _ _ _ _ _ _ _ _ _ _ _ _ _ _ _ _ _ _ _ _ _ _ _ _ _ _ _ _ _ _ _ _ _) (by kernel_rfl) 10 rfl (by kernel_rfl) ⟨false, false, false, false, false, false, false, false, false, false, rfl, rfl, rfl, ⟨rfl, rfl, rfl, rfl⟩⟩ ?fin ?step
   case fin =>
    rintro a' w' ⟨f0, f1, f2, f3, f4, f5, f6, f7, f8, f9, hl, rfl, hw, h6⟩
    have hl' : [true, true, true, true, true, true, true, true, true, true] = [f0, f1, f2, f3, f4, f5, f6, f7, f8, f9] := congrArg Array.toList hl
    simp only [List.cons.injEq, and_true] at hl'
    obtain ⟨rfl, rfl, rfl, rfl, rfl, rfl, rfl, rfl, rfl, rfl⟩ := hl'
    unfold s6Upd
    simp only [cond_true]
    exact (Bool.false_ne_true h6.out.1.symm).elim
   case step =>
    rintro listed a' w' ⟨f0, f1, f2, f3, f4, f5, f6, f7, f8, f9, rfl, rfl, hw, h6⟩ i hi
    rw [mem_ready] at hi
    obtain ⟨hu, o, ho, ha⟩ := hi
    have hi8 : i < 10 := (Array.getElem?_eq_some_iff.1 ho).1
    rcases (by omega : i = 0 ∨ i = 1 ∨ i = 2 ∨ i = 3 ∨ i = 4 ∨ i = 5 ∨ i = 6 ∨ i = 7 ∨ i = 8 ∨ i = 9) with rfl | rfl | rfl | rfl | rfl | rfl | rfl | rfl | rfl | rfl
    · have ho' := ho
      simp at hu ho
      subst hu ho
      clear ha
      cases f2 with
      | false =>
       have hw2 := hw
       simp only [cond_false] at hw2
       subst hw2
       clear hw
       refine .inl ?_
       unfold s6Upd Oper.wp
       go_simp
       exact ⟨true, f1, false, f3, f4, f5, f6, f7, f8, f9, rfl, rfl, rfl, h6⟩
      | true =>
       have hw2 := hw
       simp only [cond_true] at hw2
       subst hw2
       clear hw
       refine .inl ?_
       unfold s6Upd Oper.wp
       go_simp
       exact ⟨true, f1, true, f3, f4, f5, f6, f7, f8, f9, rfl, rfl, rfl, h6⟩
    · have ho' := ho
      simp at hu ho
      subst hu ho
      clear ha
      cases f2 with
      | false =>
       have hw2 := hw
       simp only [cond_false] at hw2
       subst hw2
       clear hw
       refine .inl ?_
       unfold s6Upd Oper.wp
       go_simp
       exact ⟨f0, true, false, f3, f4, f5, f6, f7, f8, f9, rfl, rfl, rfl, h6⟩
      | true =>
       have hw2 := hw
       simp only [cond_true] at hw2
       subst hw2
       clear hw
       refine .inl ?_
       unfold s6Upd Oper.wp
       go_simp
       exact ⟨f0, true, true, f3, f4, f5, f6, f7, f8, f9, rfl, rfl, rfl, h6⟩
    · have ho' := ho
      simp at hu ho
      subst hu ho
      simp [Region.binds] at ha
      obtain rfl : f1 = true := by simp only [ha]
      clear ha
      have hw2 := hw
      simp only [cond_false] at hw2
      subst hw2
      clear hw
      refine .inl ?_
      unfold s6Upd Oper.wp
      go_simp
      refine (isScope_any m _).mono ?_
      rintro e w8 ⟨rfl, rfl⟩
      exact ⟨f0, true, true, f3, f4, f5, f6, f7, f8, f9, rfl, rfl, rfl, h6⟩
    · have ho' := ho
      simp at hu ho
      subst hu ho
      simp [Region.binds] at ha
      obtain rfl : f0 = true := by simp only [ha]
      obtain rfl : f2 = true := by simp only [ha]
      clear ha
      have hw2 := hw
      simp only [cond_true] at hw2
      subst hw2
      clear hw
      refine .inl ?_
      unfold s6Upd Oper.wp
      go_simp
      refine (HEC.out _ _ (HBA.out _) (HCS.out _) (HCL.out _)).mono ?_
      rintro e w9 ⟨rfl, hb9⟩
      exact ⟨rfl, Ret.bad HR.out hb9 rfl⟩
    · have ho' := ho
      simp at hu ho
      subst hu ho
      simp [Region.binds] at ha
      obtain rfl : f3 = true := by simp only [ha]
      clear ha
      exact (Bool.false_ne_true h6.out.1.symm).elim
    · have ho' := ho
      simp at hu ho
      subst hu ho
      simp [Region.binds] at ha
      obtain rfl : f4 = true := by simp only [ha]
      clear ha
      exact (Bool.false_ne_true h6.out.2.1.symm).elim
    · have ho' := ho
      simp at hu ho
      subst hu ho
      simp [Region.binds] at ha
      obtain rfl : f5 = true := by simp only [ha]
      clear ha
      exact (Bool.false_ne_true h6.out.2.2.1.symm).elim
    · have ho' := ho
      simp at hu ho
      subst hu ho
      simp [Region.binds] at ha
      obtain rfl : f5 = true := by simp only [ha]
      clear ha
      exact (Bool.false_ne_true h6.out.2.2.1.symm).elim
    · have ho' := ho
      simp at hu ho
      subst hu ho
      simp [Region.binds] at ha
      obtain rfl : f0 = true := by simp only [ha]
      obtain rfl : f1 = true := by simp only [ha]
      obtain rfl : f2 = true := by simp only [ha]
      obtain rfl : f3 = true := by simp only [ha]
      obtain rfl : f4 = true := by simp only [ha]
      obtain rfl : f5 = true := by simp only [ha]
      obtain rfl : f6 = true := by simp only [ha]
      clear ha
      exact (Bool.false_ne_true h6.out.1.symm).elim
    · have ho' := ho
      simp at hu ho
      subst hu ho
      simp [Region.binds] at ha
      obtain rfl : f8 = true := by simp only [ha]
      obtain rfl : f6 = true := by simp only [ha]
      clear ha
      exact (Bool.false_ne_true h6.out.2.2.2.symm).elim
 have HEC : Hid (∀ W b, Below w.heap.size w W → b < W.heap.size → W.cell? ⟨b, 0, none⟩ = some (.bool m) → Calls Tryz.prog 86 #[.agg #[.string (bs t.name), .slice ao t.attrs.length ac, .slice ko t.kids.length kc, .string (bs t.text), .string X], .string ⟨#[115, 99, 111, 112, 101]⟩, .bool false, .func (.func 201) #[] #[.pointer (some ⟨b, 0, none⟩)]] W fun e w' => e = .returned (.string (bs (wordV t bScope))) ∧ Below W.heap.size W w') := fun W b h1 h2 h3 =>
     (HW5.out W b h1 h2 h3).mono fun e w' ⟨g1, g2, g3⟩ => ⟨g3 hM, g1⟩
 have n5 := Lib.hid hM
 clear hM HW5
 have HXA : Hid (∀ o : Obj, Box (W.drew.alloc o) w.heap.size [.string (bs t.name), .slice ao t.attrs.length ac, .slice ko t.kids.length kc, .string (bs t.text), .string X]) := fun o => Box.alloc (w := W.drew) ⟨HX.out.lt, HX.out.cell, HX.out.free⟩ o
 have HDA : Hid (∀ o : Obj, Box (W.drew.alloc o) (w.heap.size + 1) [.string (bs (wordV t bGroup)), .string (bs (wordV t bArtifact)), .string (bs (wordV t bVersion)), .string (bs (wordV t bType)), .string (bs (wordV t bClassifier)), .int .i64 0, .int .i64 0, .slice none 0 0]) := fun o => Box.alloc (w := W.drew) ⟨HD.out.lt, HD.out.cell, HD.out.free⟩ o
 go_region_held3 (fun w' => w'.cell? ⟨w.heap.size, 0, none⟩ = some (.string (bs t.name)) ∧ w'.cell? ⟨w.heap.size, 1, none⟩ = some (.slice ao t.attrs.length ac) ∧ w'.cell? ⟨w.heap.size, 2, none⟩ = some (.slice ko t.kids.length kc) ∧ w'.cell? ⟨w.heap.size, 3, none⟩ = some (.string (bs t.text)) ∧ w'.cell? ⟨w.heap.size, 4, none⟩ = some (.string X)) (first | exact ⟨a0, a1, a2, a3, a4⟩ | exact ⟨hx9.out.cell 0 _ rfl, hx9.out.cell 1 _ rfl, hx9.out.cell 2 _ rfl, hx9.out.cell 3 _ rfl, hx9.out.cell 4 _ rfl⟩ | (have hxz := hx9.out.apart (c := w.heap.size + 1) (by omega) 5 (.int .i64 (scopeW (wordV t bScope))); exact ⟨hxz.cell 0 _ rfl, hxz.cell 1 _ rfl, hxz.cell 2 _ rfl, hxz.cell 3 _ rfl, hxz.cell 4 _ rfl⟩) | (go_keep; done)) (first | (go_at_call 171; refine (isScope_any m _).mono ?_; rintro e w8 ⟨rfl, rfl⟩) | (go_at_call 86; refine (HEC.out _ _ (HBA.out _) (HCS.out _) (HCL.out _)).mono ?_; rintro e w9 ⟨rfl, hb9⟩; have hx9 := Lib.hid ((HXA.out _).below hb9 (HXA.out (.cells #[.bool m] 4)).lt); have hd9 := Lib.hid ((HDA.out _).below hb9 (HDA.out (.cells #[.bool m] 4)).lt); have hB9 := Lib.hid ((HBA.out _).trans (hb9.mono (HBA.out (.cells #[.bool m] 4)).size)); have g5 := hd9.out.cell 5 _ rfl; have gf5 := hd9.out.free 5; have gl := hd9.out.lt; clear hb9) | (go_at_call 170; refine (scope_any _ _).mono ?_; rintro e w10 ⟨rfl, rfl⟩))
 clear d0 d1 d2 d3 d4 d5 d6 d7 df0 df1 df2 df3 df4 df5 df6 df7 dl a0 a1 a2 a3 a4 al HX HD HB HCL HCS HBA HEC HXA HDA g5 gf5
 go_upto_region 7 with fail
 refine wp_world ?_
 intro W7 hW7
 have x1 : Box W7 w.heap.size [.string (bs t.name), .slice ao t.attrs.length ac, .slice ko t.kids.length kc, .string (bs t.text), .string X] := by rw [hW7]; exact hx9.out.apart (by omega) _ _
 have x2 : Box W7 (w.heap.size + 1) [.string (bs (wordV t bGroup)), .string (bs (wordV t bArtifact)), .string (bs (wordV t bVersion)), .string (bs (wordV t bType)), .string (bs (wordV t bClassifier)), .int .i64 (scopeW (wordV t bScope)), .int .i64 0, .slice none 0 0] := by rw [hW7]; exact hd9.out.set 5 _
 have hb : Below w.heap.size w W7 := by rw [hW7]; exact hB9.out.setCell (by simp) _
 clear hW7 hx9 hd9 hB9 gl
 have HX := Lib.hid x1
 have HD := Lib.hid x2
 have HB := Lib.hid hb
 clear x1 x2 hb
 obtain ⟨a0, a1, a2, a3, a4⟩ := bxc5 HX.out
 have al := HX.out.lt
 go_wp2_with fail
 refine (HW6.out _ HB.out).mono ?_
 rintro e w7 ⟨hb1, hp, hq⟩
 have HB1 := Lib.hid (HB.out.trans (hb1.mono HB.out.size))
 have HX1 := Lib.hid (HX.out.below hb1 HX.out.lt)
 have HD1 := Lib.hid (HD.out.below hb1 HD.out.lt)
 clear a0 a1 a2 a3 a4 al HX HD HB hb1 HW6
 rcases hM : wordE t wh bOptional false isTruthB with _ | x
 rotate_left
 · obtain rfl := hp x hM
   have HR : Hid (r = some x) := by show _ = _; rw [HE.out]; unfold depE; rw [n0.out, Option.none_or, n1.out, Option.none_or, n2.out, Option.none_or, n3.out, Option.none_or, n4.out, Option.none_or, n5.out, Option.none_or, hM]; rfl
   clear hp hq hM HE HV
   unfold panE
   go_wp2
   exact ⟨rfl, Ret.bad HR.out HB1.out rfl⟩
 obtain rfl := hq hM
 have n6 := Lib.hid hM
 clear hp hq hM
 have HX := HX1
 have HD := HD1
 have HB := HB1
 clear HX1 HD1 HB1
 obtain ⟨d0, d1, d2, d3, d4, d5, d6, d7⟩ := bxc8 HD.out
 have df0 := HD.out.free 0
 have df1 := HD.out.free 1
 have df2 := HD.out.free 2
 have df3 := HD.out.free 3
 have df4 := HD.out.free 4
 have df5 := HD.out.free 5
 have df6 := HD.out.free 6
 have df7 := HD.out.free 7
 have dl := HD.out.lt
 obtain ⟨ow, how⟩ : ∃ ow, ow = wordV t bOptional := ⟨_, rfl⟩
 have HOW : Hid (wordV t bOptional = ow) := how.symm
 rw [← how]
 clear how
 have h1 := bs_beq2 ow bTrue
 have h2 := bs_beq2 ow bFalse
 rw [show ((bs bTrue : S)).toList = [116, 114, 117, 101] from by decide +kernel] at h1
 rw [show ((bs bFalse : S)).toList = [102, 97, 108, 115, 101] from by decide +kernel] at h2
 have HOQ : Hid ((ow = bTrue → optQ ow = 1) ∧ (ow ≠ bTrue → ow = bFalse → optQ ow = 2) ∧ (ow ≠ bTrue → ow ≠ bFalse → optQ ow = 0)) := ⟨fun h => by unfold optQ; rw [if_pos h], fun h h' => by unfold optQ; rw [if_neg h, if_pos h'], fun h h' => by unfold optQ; rw [if_neg h, if_neg h']⟩
 go_upto_block 0 with fail
 go_cut [] from 36 to 41 (fun wx => Hid (Box wx w.heap.size [.string (bs t.name), .slice ao t.attrs.length ac, .slice ko t.kids.length kc, .string (bs t.text), .string X] ∧ Box wx (w.heap.size + 1) [.string (bs (wordV t bGroup)), .string (bs (wordV t bArtifact)), .string (bs (wordV t bVersion)), .string (bs (wordV t bType)), .string (bs (wordV t bClassifier)), .int .i64 (scopeW (wordV t bScope)), .int .i64 (optQ ow), .slice none 0 0] ∧ Below w.heap.size w wx))
 case first =>
  by_cases ht : ow = bTrue
  · have HQ := Lib.hid (HOQ.out.1 ht)
    rw [decide_eq_true ht] at h1
    clear ht h2 HOQ
    go_wp2
    go_meet
    case rel => exact ⟨HX.out.apart (by omega) _ _, by rw [HQ.out]; exact HD.out.set 6 _, HB.out.setCell (by simp) _⟩
  · rw [decide_eq_false ht] at h1
    by_cases hf : ow = bFalse
    · have HQ := Lib.hid (HOQ.out.2.1 ht hf)
      rw [decide_eq_true hf] at h2
      clear ht hf HOQ
      go_wp2
      go_meet
      case rel => exact ⟨HX.out.apart (by omega) _ _, by rw [HQ.out]; exact HD.out.set 6 _, HB.out.setCell (by simp) _⟩
    · have HQ := Lib.hid (HOQ.out.2.2 ht hf)
      rw [decide_eq_false hf] at h2
      clear ht hf HOQ
      go_wp2
      go_meet
      case rel => exact ⟨HX.out, by rw [HQ.out]; exact HD.out, HB.out⟩
 case rest =>
  have HX := Lib.hid hcut.out.1
  have HD := Lib.hid hcut.out.2.1
  have HB := Lib.hid hcut.out.2.2
  clear hcut d0 d1 d2 d3 d4 d5 d6 d7 df0 df1 df2 df3 df4 df5 df6 df7 dl h1 h2
  obtain ⟨a0, a1, a2, a3, a4⟩ := bxc5 HX.out
  have al := HX.out.lt
  go_wp2_with fail
  refine (HF.out _ HB.out).mono ?_
  rintro e w8 ⟨hb1, hp, hq⟩
  have HB1 := Lib.hid (HB.out.trans (hb1.mono HB.out.size))
  have HX1 := Lib.hid (HX.out.below hb1 HX.out.lt)
  have HD1 := Lib.hid (HD.out.below hb1 HD.out.lt)
  clear a0 a1 a2 a3 a4 al HX HD HB hb1 HF
  have HRE : Hid (r = exclsE t wh) := by show _ = _; rw [HE.out]; unfold depE; rw [n0.out, Option.none_or, n1.out, Option.none_or, n2.out, Option.none_or, n3.out, Option.none_or, n4.out, Option.none_or, n5.out, Option.none_or, n6.out, Option.none_or]
  have HVE : Hid (∀ l : List Id, exclsV t = l → V = ⟨bs (wordV t bGroup), bs (wordV t bArtifact), bs (wordV t bVersion), bs (wordV t bType), bs (wordV t bClassifier), scopeW (wordV t bScope), optQ ow, l⟩) := fun l h => by rw [HV.out]; unfold depV; rw [h, HOW.out]
  clear HE HV HOW n0 n1 n2 n3 n4 n5 n6
  rcases hM : manyE t wh bExclusions with _ | x
  rotate_left
  · obtain rfl := hp x hM
    have HR : Hid (r = some x) := by show _ = _; rw [HRE.out]; unfold exclsE; rw [hM]; rfl
    clear hp hq hM HRE HVE
    unfold panE
    go_wp2
    exact ⟨rfl, Ret.bad HR.out HB1.out rfl⟩
  have hq := hq hM
  rcases hO : oneV t bExclusions with _ | k
  · have HR : Hid (r = none) := by show _ = _; rw [HRE.out]; unfold exclsE; rw [hM, hO]; rfl
    have HV2 := Lib.hid (HVE.out [] (by unfold exclsV; rw [hO]))
    rw [hO] at hq
    simp only [FieldX] at hq
    subst hq
    clear hp hM hO HRE HVE
    go_upto_region 19 with fail
    refine wp_world ?_
    intro W9 hW9
    have x2 : Box W9 (w.heap.size + 1) [.string (bs (wordV t bGroup)), .string (bs (wordV t bArtifact)), .string (bs (wordV t bVersion)), .string (bs (wordV t bType)), .string (bs (wordV t bClassifier)), .int .i64 (scopeW (wordV t bScope)), .int .i64 (optQ ow), .slice none 0 0] := by rw [hW9]; exact HD1.out.alloc _
    have hb : Below w.heap.size w W9 := by rw [hW9]; exact HB1.out.alloc HB1.out.size _
    clear hW9 HD1 HB1 HX1
    have HD := Lib.hid x2
    have HB := Lib.hid hb
    clear x2 hb
    go_wp2_with (first | ((with_reducible show wpList _ _ _ (Oper.mk _ (Op.load 171 (.tmp 4)) _ _ _ _ :: _) _ _); refine wpList_load_box rfl 171 (.tmp 4) rfl (w.heap.size + 1) [.string (bs (wordV t bGroup)), .string (bs (wordV t bArtifact)), .string (bs (wordV t bVersion)), .string (bs (wordV t bType)), .string (bs (wordV t bClassifier)), .int .i64 (scopeW (wordV t bScope)), .int .i64 (optQ ow), .slice none 0 0] rfl HD.out Tryz.underlying171 rfl size_dep ?_) | ((with_reducible show wpList _ _ _ (Oper.mk none (Op.store 171 (.tmp 4) (.tmp 65)) _ _ _ _ :: _) _ _); refine wpList_store_box rfl 171 (.tmp 4) (.tmp 65) rfl (w.heap.size + 1) [.string (bs (wordV t bGroup)), .string (bs (wordV t bArtifact)), .string (bs (wordV t bVersion)), .string (bs (wordV t bType)), .string (bs (wordV t bClassifier)), .int .i64 (scopeW (wordV t bScope)), .int .i64 (optQ ow), .slice none 0 0] [.string (bs (wordV t bGroup)), .string (bs (wordV t bArtifact)), .string (bs (wordV t bVersion)), .string (bs (wordV t bType)), .string (bs (wordV t bClassifier)), .int .i64 (scopeW (wordV t bScope)), .int .i64 (optQ ow), .slice none 0 0] rfl rfl HD.out rfl size_dep (by simp [Value.oneCell']) ?_; intro W10 v10 hg10; have HV10 := Lib.hid v10; have HG10 := Lib.hid hg10; clear v10 hg10))
    refine bodyPost_ret (results_cell_box rfl _ _ (w.heap.size + 1) [.string (bs (wordV t bGroup)), .string (bs (wordV t bArtifact)), .string (bs (wordV t bVersion)), .string (bs (wordV t bType)), .string (bs (wordV t bClassifier)), .int .i64 (scopeW (wordV t bScope)), .int .i64 (optQ ow), .slice none 0 0] rfl HV10.out Tryz.underlying171 rfl size_dep) rfl ?_
    refine Ret.good HR.out (HB.out.trans (below_row HG10.out (by omega) HB.out.size)) ?_
    rw [HV2.out]
    exact ⟨.slice none 0 0, rfl, Owns.nil⟩
  · obtain ⟨K, hK⟩ : ∃ K, K = kidsF bExclusion k.kids := ⟨_, rfl⟩
    have HRK : Hid (r = (bigE K.length (sl wh bExclusions)).or (eachE exclE (sl (sl wh bExclusions) bExclusion) K 0)) := by show _ = _; rw [HRE.out, hK]; unfold exclsE; rw [hM, hO]; rfl
    have HVK := Lib.hid (HVE.out (K.map exclV) (by rw [hK]; unfold exclsV; rw [hO]))
    rw [hO] at hq
    obtain ⟨av2, kv2, rfl, hn⟩ := hq
    obtain ⟨p1, p2, p3, p4, rfl, rfl, -, -⟩ := hn.shape
    have hmk := HM.out.one hO
    have HLI : Hid (∀ W, Below w8.heap.size w8 W → Calls Tryz.prog 133 #[.agg #[.string (bs k.name), .slice p1 k.attrs.length p2, .slice p3 k.kids.length p4, .string (bs k.text), .string (bs (sl wh bExclusions))], .string ⟨#[101, 120, 99, 108, 117, 115, 105, 111, 110]⟩] W (Ret (bigE K.length (sl wh bExclusions)) (ListP (fun j => w.heap.size ≤ j) W (elsQ (sl (sl wh bExclusions) bExclusion) K 0)) W)) := fun W h => by
     rw [hK]
     exact listQ_any (fun j => w.heap.size ≤ j) k (sl wh bExclusions) bExclusion W _ _ (hn.later h) hmk.kl (by have h1 : bExclusion.length ≤ 20 := (by decide); have h2 : bExclusions.length ≤ 20 := (by decide); unfold sl; simp only [List.length_append, List.length_cons]; omega)
    have HMK : Hid (∀ y ∈ K, MildW y) := fun y hy => hmk.kids y (kidsF_sub (by rw [← hK]; exact hy))
    clear hp hM hO HRE HVE hK hn hmk
    unfold elemV
    obtain ⟨d0, d1, d2, d3, d4, d5, d6, d7⟩ := bxc8 HD1.out
    have df0 := HD1.out.free 0
    have df1 := HD1.out.free 1
    have df2 := HD1.out.free 2
    have df3 := HD1.out.free 3
    have df4 := HD1.out.free 4
    have df5 := HD1.out.free 5
    have df6 := HD1.out.free 6
    have df7 := HD1.out.free 7
    have dl := HD1.out.lt
    go_upto_region 14 with fail
    refine wp_world ?_
    intro W9 hW9
    have x1 : Box W9 w8.heap.size [.string (bs k.name), .slice p1 k.attrs.length p2, .slice p3 k.kids.length p4, .string (bs k.text), .string (bs (sl wh bExclusions))] := by rw [hW9]; exact Box.new w8 [.string (bs k.name), .slice p1 k.attrs.length p2, .slice p3 k.kids.length p4, .string (bs k.text), .string (bs (sl wh bExclusions))] _ _ rfl
    have x2 : Box W9 (w.heap.size + 1) [.string (bs (wordV t bGroup)), .string (bs (wordV t bArtifact)), .string (bs (wordV t bVersion)), .string (bs (wordV t bType)), .string (bs (wordV t bClassifier)), .int .i64 (scopeW (wordV t bScope)), .int .i64 (optQ ow), .slice none 0 0] := by rw [hW9]; exact HD1.out.alloc _
    have hb8 : Below w8.heap.size w8 W9 := by rw [hW9]; exact (Below.refl _ w8).alloc (Nat.le_refl _) _
    clear hW9 HX1 d0 d1 d2 d3 d4 d5 d6 d7 df0 df1 df2 df3 df4 df5 df6 df7 dl
    have HX := Lib.hid x1
    have HDD := Lib.hid x2
    have HB8 := Lib.hid hb8
    have HB := Lib.hid (HB1.out.trans (hb8.mono HB1.out.size))
    have HW8 := Lib.hid HD1.out.lt
    clear x1 x2 hb8 HD1 HB1
    obtain ⟨a0, a1, a2, a3, a4⟩ := bxc5 HX.out
    have al := HX.out.lt
    go_wp2_with fail
    refine (HLI.out _ HB8.out).mono ?_
    rintro e w9 ⟨hb9, hp, hq⟩
    have HB9 := Lib.hid (HB.out.trans (hb9.mono HB.out.size))
    have HD9 := Lib.hid (HDD.out.below hb9 HDD.out.lt)
    have HS9 := Lib.hid (And.intro HDD.out.lt hb9.size)
    clear a0 a1 a2 a3 a4 al HX HDD HB hb9 HLI
    rcases hM : bigE K.length (sl wh bExclusions) with _ | x
    rotate_left
    · obtain rfl := hp x hM
      have HR : Hid (r = some x) := by show _ = _; rw [HRK.out, hM]; rfl
      clear hp hq hM HRK HVK
      unfold panE
      go_wp2
      exact ⟨rfl, Ret.bad HR.out HB9.out rfl⟩
    obtain ⟨v, O, rfl, hOe, hOo, hOn⟩ := hq hM
    have hKb : K.length ≤ 1024 := by
     unfold bigE at hM
     split at hM
     · cases hM
     · omega
    have HKB := Lib.hid hKb
    have HRE0 : Hid (r = eachE exclE (sl (sl wh bExclusions) bExclusion) K 0) := by show _ = _; rw [HRK.out, hM]; rfl
    have hOl : O.length = K.length := by
     have h1 := congrArg List.length hOe
     rw [List.length_map, elsQ_len] at h1
     exact h1
    obtain ⟨la, lc, rfl⟩ := hOo.shape
    rw [hOl] at hOo ⊢
    have HOO := Lib.hid hOo
    have HOE := Lib.hid hOe
    have HON := Lib.hid hOn
    have HOL := Lib.hid hOl
    obtain ⟨WK, hWK⟩ : ∃ WK, WK = sl (sl wh bExclusions) bExclusion := ⟨_, rfl⟩
    have HWZ : Hid (WK.length ≤ 100000000000) := by
     show _ ≤ _
     rw [hWK]; have h1 : bExclusion.length ≤ 20 := (by decide); have h2 : bExclusions.length ≤ 20 := (by decide); unfold sl; simp only [List.length_append, List.length_cons]; omega
    rw [← hWK] at HRE0 HOE
    clear hp hq hM HRK hKb hOl hOo hOe hOn hWK
    go_wp2
    go_loopw [50] (fun iv wr => ∃ (n : Nat) (oa : Option Addr) (oc : Nat), n ≤ K.length ∧ iv = .int .i64 n ∧ Hid (w9.grownBy wr (some (w.heap.size + 1)) ∧ Box wr (w.heap.size + 1) [.string (bs (wordV t bGroup)), .string (bs (wordV t bArtifact)), .string (bs (wordV t bVersion)), .string (bs (wordV t bType)), .string (bs (wordV t bClassifier)), .int .i64 (scopeW (wordV t bScope)), .int .i64 (optQ ow), .slice oa n oc] ∧ Owns w9.heap.size 24 2 idC wr (.slice oa n oc) ((K.take n).map exclV) ∧ r = eachE exclE WK (K.drop n) n)) (fun iv _ => K.length - (intOf iv).toNat)
    case atStart => exact ⟨0, none, 0, Nat.zero_le _, rfl, World.grownBy.refl _ _, HD9.out, Owns.nil, HRE0.out⟩
    case round =>
     obtain ⟨n, oa, oc, hi, rfl, HRR⟩ := hrel
     by_cases hlt : n < K.length
     · have hgr := HRR.out.1
       have hOw : Owns (W9.heap.size) 163 5 elC wr (.slice la K.length lc) O := by
        have h9 := HOO.out
        exact h9.keptR hgr HS9.out.1
       have HBR := Lib.hid (below_row hgr (by omega : w.heap.size ≤ w.heap.size + 1) HB9.out.size)
       have hiL : n < O.length := by rw [HOL.out]; exact hlt
       have hy := congrArg (·[n]?) HOE.out
       simp only [List.getElem?_map, elsQ_get _ _ _ _ hlt, List.getElem?_eq_getElem hiL, Option.map_some, Option.some.injEq, Nat.zero_add] at hy
       have hOs := hOw.slice elC_len
       rw [← HOL.out] at hOs
       obtain ⟨g, o1, hla, hg, hc⟩ := hOs.at hiL
       subst hla
       have c0 : wr.cell? ⟨g, o1 + n * 5, none⟩ = some (.string (bs O[n].1.1.name)) := by simpa using hc 0 _ rfl
       have c1 := hc 1 _ rfl
       have c2 := hc 2 _ rfl
       have c3 := hc 3 _ rfl
       have c4 := hc 4 _ rfl
       have hn1 : NodeOf wr O[n].1.1 O[n].1.2.1 O[n].1.2.2 := (HON.out O[n] (List.getElem_mem hiL)).keep (keptQ HBR.out HBR.out.size (fun k hk => by have h2 : ¬ w.heap.size ≤ k := fun h => hk (.inl h); omega)) (fun _ _ h => h.elim)
       clear hc hOs hOw hgr
       generalize O[n] = y at *
       obtain ⟨⟨t1, ya, yk⟩, wy⟩ := y
       simp only [Prod.mk.injEq] at hy c0 c1 c2 c3 c4 hn1
       obtain ⟨hy1, rfl⟩ := hy
       obtain ⟨q1, q2, q3, q4, rfl, rfl, -, -⟩ := hn1.shape
       have HNN := Lib.hid hn1
       have HTK := Lib.hid (by rw [List.take_succ_eq_append_getElem hlt, ← hy1] : K.take (n + 1) = K.take n ++ [t1])
       have HMY := Lib.hid (HMK.out t1 (by rw [hy1]; exact List.getElem_mem hlt))
       have HRE1 := Lib.hid (by rw [HRR.out.2.2.2, eachE_at hlt, ← hy1]; rfl : r = ((wordE t1 (atI WK (n + 1)) bGroup true isPartQ).or (wordE t1 (atI WK (n + 1)) bArtifact true isPartQ)).or (eachE exclE WK (K.drop (n + 1)) (n + 1)))
       have HZ : Hid ((atI WK (n + 1)).length + 20 ≤ 1000000000000) := by
        have h1 := numP_len (n + 1); have h2 := HKB.out; have h3 := HWZ.out
        show _ ≤ _
        unfold atI; simp only [List.length_append, List.length_cons, List.length_nil]; omega
       obtain ⟨Y, hY⟩ : ∃ Y : S, Y = bs (atI WK (n + 1)) := ⟨_, rfl⟩
       obtain ⟨E1, hE1⟩ : ∃ E1, E1 = wordE t1 (atI WK (n + 1)) bGroup true isPartQ := ⟨_, rfl⟩
       obtain ⟨E2, hE2⟩ : ∃ E2, E2 = wordE t1 (atI WK (n + 1)) bArtifact true isPartQ := ⟨_, rfl⟩
       obtain ⟨G, hG⟩ : ∃ G : S, G = bs (wordV t1 bGroup) := ⟨_, rfl⟩
       obtain ⟨A, hA⟩ : ∃ A : S, A = bs (wordV t1 bArtifact) := ⟨_, rfl⟩
       obtain ⟨l, hl⟩ : ∃ l, l = (K.take n).map exclV := ⟨_, rfl⟩
       obtain ⟨base, hbase⟩ : ∃ base, base = w9.heap.size := ⟨_, rfl⟩
       have HBE := Lib.hid hbase
       have HLL := Lib.hid (by rw [hl, hG, hA]; rfl : l ++ [(⟨G, A⟩ : Id)] = (K.take n).map exclV ++ [t1].map exclV)
       have HLN : Hid (l.length = n) := by show _ = _; rw [hl, List.length_map, List.length_take]; omega
       have HRE2 : Hid (r = (E1.or E2).or (eachE exclE WK (K.drop (n + 1)) (n + 1))) := by show _ = _; rw [hE1, hE2]; exact HRE1.out
       have HRE : Hid ((∀ x, E1 = some x → r = some x) ∧ (∀ x, E1 = none → E2 = some x → r = some x)) := ⟨fun x h => by rw [HRE2.out, h]; rfl, fun x h h' => by rw [HRE2.out, h, h']; rfl⟩
       have HWA : Hid (∀ W, Below wr.heap.size wr W → Calls Tryz.prog 86 #[.agg #[.string (bs t1.name), .slice q1 t1.attrs.length q2, .slice q3 t1.kids.length q4, .string (bs t1.text), .string Y], .string ⟨#[103, 114, 111, 117, 112, 73, 100]⟩, .bool true, .func (.func 173) #[] #[]] W fun e w' => Below W.heap.size W w' ∧ WdP E1 G e) := fun W h => by
        rw [hY, hE1, hG]
        exact (wordQ_any _ _ _ t1 (atI WK (n + 1)) bGroup true W _ _ (HNN.out.later h) HMY.out (by have h1 : bGroup.length ≤ 20 := (by decide); have h2 := HZ.out; omega) (tests_part W)).mono fun e w' h => h.wd
       have HWB : Hid (∀ W, Below wr.heap.size wr W → Calls Tryz.prog 86 #[.agg #[.string (bs t1.name), .slice q1 t1.attrs.length q2, .slice q3 t1.kids.length q4, .string (bs t1.text), .string Y], .string ⟨#[97, 114, 116, 105, 102, 97, 99, 116, 73, 100]⟩, .bool true, .func (.func 173) #[] #[]] W fun e w' => Below W.heap.size W w' ∧ WdP E2 A e) := fun W h => by
        rw [hY, hE2, hA]
        exact (wordQ_any _ _ _ t1 (atI WK (n + 1)) bArtifact true W _ _ (HNN.out.later h) HMY.out (by have h1 : bArtifact.length ≤ 20 := (by decide); have h2 := HZ.out; omega) (tests_part W)).mono fun e w' h => h.wd
       have HOR : Hid (Owns base 24 2 idC wr (.slice oa n oc) l) := by show Owns _ _ _ _ _ _ _; rw [hbase, hl]; exact HRR.out.2.2.1
       have HDR := Lib.hid HRR.out.2.1
       have hsz := HRR.out.1.size
       have HSZ := Lib.hid hsz
       have hki : (n : Int) < (K.length : Int) := by omega
       rw [← hY] at c4
       clear hy1 hn1 hY hE1 hE2 hG hA hl hbase hsz HRE1
       go_upto_region 17 with fail
       refine wp_world ?_
       intro W7 hW7
       have x7 : Box W7 wr.heap.size [.string (bs t1.name), .slice q1 t1.attrs.length q2, .slice q3 t1.kids.length q4, .string (bs t1.text), .string Y] := by rw [hW7]; exact Box.new wr [.string (bs t1.name), .slice q1 t1.attrs.length q2, .slice q3 t1.kids.length q4, .string (bs t1.text), .string Y] _ _ rfl
       have hb7 : Below wr.heap.size wr W7 := by rw [hW7]; exact (Below.refl _ wr).alloc (Nat.le_refl _) _
       clear hW7 c0 c1 c2 c3 c4
       have HX7 := Lib.hid x7
       have HB7w := Lib.hid hb7
       have HB7 := Lib.hid ((HB9.out.trans HBR.out).trans (hb7.mono (HB9.out.trans HBR.out).size))
       have HDV := Lib.hid (HDR.out.below hb7 HDR.out.lt)
       have HOV := Lib.hid (HOR.out.below hb7)
       have HW1 : Hid (∀ W, Below W7.heap.size W7 W → Calls Tryz.prog 86 #[.agg #[.string (bs t1.name), .slice q1 t1.attrs.length q2, .slice q3 t1.kids.length q4, .string (bs t1.text), .string Y], .string ⟨#[103, 114, 111, 117, 112, 73, 100]⟩, .bool true, .func (.func 173) #[] #[]] W fun e w' => Below W.heap.size W w' ∧ WdP E1 G e) := fun W h => HWA.out W (HB7w.out.trans (h.mono HB7w.out.size))
       have HW2 : Hid (∀ W, Below W7.heap.size W7 W → Calls Tryz.prog 86 #[.agg #[.string (bs t1.name), .slice q1 t1.attrs.length q2, .slice q3 t1.kids.length q4, .string (bs t1.text), .string Y], .string ⟨#[97, 114, 116, 105, 102, 97, 99, 116, 73, 100]⟩, .bool true, .func (.func 173) #[] #[]] W fun e w' => Below W.heap.size W w' ∧ WdP E2 A e) := fun W h => HWB.out W (HB7w.out.trans (h.mono HB7w.out.size))
       have HBD : Hid (w.heap.size + 1 < base) := by show _ < _; rw [HBE.out]; have := HS9.out; omega
       have HBS : Hid (base ≤ W7.heap.size) := by show _ ≤ _; rw [HBE.out]; have h1 := HSZ.out; have h2 := HB7w.out.size; omega
       have HNB : Hid (∀ k, (Value.slice oa n oc).ownBlock = some k → base ≤ k) := fun k h => (HOR.out.lt _ h).1
       have HNE : Hid (some (w.heap.size + 1) ≠ (Value.slice oa n oc).ownBlock) := fun h => by have h1 := (HOR.out.lt _ h.symm).1; have h2 := HBD.out; omega
       have HBY : Hid ((l.length + 1) * 32 ≤ 140737488355328) := by show _ ≤ _; rw [HLN.out]; have := HKB.out; omega
       clear x7 hb7 HWA HWB
       refine wp_region_flags0 (x17J (w.heap.size + 1) (.string (bs t1.name)) (.slice q1 t1.attrs.length q2) (.slice q3 t1.kids.length q4) (.string (bs t1.text)) (.string Y) G A oa n oc base l (fun v => [.string (bs (wordV t bGroup)), .string (bs (wordV t bArtifact)), .string (bs (wordV t bVersion)), .string (bs (wordV t bType)), .string (bs (wordV t bClassifier)), .int .i64 (scopeW (wordV t bScope)), .int .i64 (optQ ow), v]) E1 E2 W7 _ _ _ _ _ _ _ _ _ _ _ _ _ _ _ _ _ _ _ _ _ _ _ _ _ _ _ _ _ _ _ _ _ _ _ _ _ _ _ _ _ _ _ _ _ _ _ _ _ _ _ _ _ _ _ _ _ _ _ _ _ _ _ _ _ _) (by kernel_rfl) 11 rfl (by kernel_rfl) ⟨false, false, false, false, false, false, false, false, false, false, false, 0, 0, 0, rfl, rfl, Lib.hid (by simp), Lib.hid (by simp), Lib.hid (by simp), Lib.hid (by simp), Lib.hid (by simp), Lib.hid (by simp), Lib.hid (by simp), Lib.hid (by simp), fun _ => belowN (Below.refl _ _) 1, by simp, by simp, by simp⟩ ?fin ?step
       case fin =>
        rintro a' w' ⟨f0, f1, f2, f3, f4, f5, f6, f7, f8, f9, f10, H, g8, c8, hl, rfl, a2, a4, a6, a7, a8, a10, n1, n2, hB, h7, h8, h10⟩
        have hl' : [true, true, true, true, true, true, true, true, true, true, true] = [f0, f1, f2, f3, f4, f5, f6, f7, f8, f9, f10] := congrArg Array.toList hl
        simp only [List.cons.injEq, and_true] at hl'
        obtain ⟨rfl, rfl, rfl, rfl, rfl, rfl, rfl, rfl, rfl, rfl, rfl⟩ := hl'
        unfold x17Upd
        simp only [cond_true]
        have HDONE := Lib.hid (h10 rfl)
        have HNN1 := Lib.hid (n1.out rfl)
        have HNN2 := Lib.hid (n2.out rfl)
        clear a2 a4 a6 a7 a8 a10 n1 n2 hB h7 h8 h10
        have hn24 : n < 1024 := by have := HKB.out; omega
        go_wp2
        go_roundw
        case rel =>
         have h1 := HRR.out
         obtain ⟨hown, hbox, w8', hg1, hg2⟩ := HDONE.out
         rw [HLN.out] at hown hbox
         rw [HBE.out] at hown
         refine ⟨n + 1, some ⟨g8, 0, none⟩, c8, hlt, by go_num, ?_⟩
         refine ⟨grown_join (grown_row (grown_then h1.1 HB7w.out) hg1 HNB.out (Nat.le_of_eq HBE.out.symm)) hg2, hbox, ?_, ?_⟩
         · rw [HTK.out, List.map_append, ← HLL.out]; exact hown
         · rw [HRE2.out, HNN1.out, HNN2.out]; rfl
        case measure => simp [intOf]; omega
       case step =>
        rintro listed a' w' ⟨f0, f1, f2, f3, f4, f5, f6, f7, f8, f9, f10, H, g8, c8, rfl, rfl, a2, a4, a6, a7, a8, a10, n1, n2, hB, h7, h8, h10⟩ i hi
        rw [mem_ready] at hi
        obtain ⟨hu, o, ho, ha⟩ := hi
        have hi8 : i < 11 := (Array.getElem?_eq_some_iff.1 ho).1
        rcases (by omega : i = 0 ∨ i = 1 ∨ i = 2 ∨ i = 3 ∨ i = 4 ∨ i = 5 ∨ i = 6 ∨ i = 7 ∨ i = 8 ∨ i = 9 ∨ i = 10) with rfl | rfl | rfl | rfl | rfl | rfl | rfl | rfl | rfl | rfl | rfl
        · have ho' := ho
          simp at hu ho
          subst hu ho
          clear ha
          refine .inl ?_
          unfold x17Upd Oper.wp
          go_simp
          exact ⟨true, f1, f2, f3, f4, f5, f6, f7, f8, f9, f10, H, g8, c8, rfl, rfl, a2, a4, a6, a7, a8, a10, n1, n2, hB, h7, h8, h10⟩
        · have ho' := ho
          simp at hu ho
          subst hu ho
          simp [Region.binds] at ha
          obtain rfl : f0 = true := by simp only [ha]
          clear ha
          have e8 : f8 = false := false_of (fun h => (a8.out h).1) rfl
          subst e8
          have e10 : f10 = false := false_of a10.out rfl
          subst e10
          have hB1 := hB rfl
          have hS1 := hB1.size
          have k7 := (hB1.cell (p := ⟨w.heap.size + 1, 7, none⟩) (by exact HDV.out.lt)).trans (HDV.out.cell 7 _ rfl)
          refine .inl ?_
          unfold x17Upd Oper.wp
          go_simp
          exact ⟨true, true, f2, f3, f4, f5, f6, f7, false, f9, false, H, g8, c8, rfl, rfl, a2, a4, a6, a7, Lib.hid (by simp), a10, n1, n2, hB, h7, h8, h10⟩
        · have ho' := ho
          simp at hu ho
          subst hu ho
          clear ha
          have e3 : f3 = false := false_of a2.out rfl
          subst e3
          have e5 : f5 = false := false_of (fun h => (a4.out h).2) rfl
          subst e5
          have e6 : f6 = false := false_of (fun h => (a6.out h).2) rfl
          subst e6
          have e7 : f7 = false := false_of a7.out rfl
          subst e7
          have e8 : f8 = false := false_of (fun h => (a8.out h).2.1) rfl
          subst e8
          have e10 : f10 = false := false_of a10.out rfl
          subst e10
          have hB1 := hB rfl
          have hS1 := hB1.size
          have k0 := (hB1.cell (p := ⟨wr.heap.size, 0, none⟩) (by exact HX7.out.lt)).trans (HX7.out.cell 0 _ rfl)
          have k1 := (hB1.cell (p := ⟨wr.heap.size, 1, none⟩) (by exact HX7.out.lt)).trans (HX7.out.cell 1 _ rfl)
          have k2 := (hB1.cell (p := ⟨wr.heap.size, 2, none⟩) (by exact HX7.out.lt)).trans (HX7.out.cell 2 _ rfl)
          have k3 := (hB1.cell (p := ⟨wr.heap.size, 3, none⟩) (by exact HX7.out.lt)).trans (HX7.out.cell 3 _ rfl)
          have k4 := (hB1.cell (p := ⟨wr.heap.size, 4, none⟩) (by exact HX7.out.lt)).trans (HX7.out.cell 4 _ rfl)
          refine .inl ?_
          unfold x17Upd Oper.wp
          go_simp
          exact ⟨f0, f1, true, false, f4, false, false, false, false, f9, false, H, g8, c8, rfl, rfl, Lib.hid (by simp), a4, a6, a7, a8, a10, n1, n2, hB, h7, h8, h10⟩
        · have ho' := ho
          simp at hu ho
          subst hu ho
          simp [Region.binds] at ha
          obtain rfl : f2 = true := by simp only [ha]
          clear ha
          have e5 : f5 = false := false_of (fun h => (a4.out h).2) rfl
          subst e5
          have e6 : f6 = false := false_of (fun h => (a6.out h).2) rfl
          subst e6
          have e7 : f7 = false := false_of a7.out rfl
          subst e7
          have e8 : f8 = false := false_of (fun h => (a8.out h).2.1) rfl
          subst e8
          have e10 : f10 = false := false_of a10.out rfl
          subst e10
          have hB1 := hB rfl
          have hS1 := hB1.size
          refine .inl ?_
          unfold x17Upd Oper.wp
          go_simp
          refine (HW1.out _ hB1).mono ?_
          rintro e w9 ⟨hb9, ⟨x, hM, rfl⟩ | ⟨hM, rfl⟩⟩
          · exact ⟨rfl, Ret.bad (HRE.out.1 x hM) (HB7.out.trans ((hB1.trans (hb9.mono hS1)).mono HB7.out.size)) rfl⟩
          exact ⟨f0, f1, true, true, f4, false, false, false, false, f9, false, H, g8, c8, rfl, rfl, Lib.hid (by simp), Lib.hid (by simp), Lib.hid (by simp), a7, a8, a10, Lib.hid (fun _ => hM), n2, fun _ => hB1.trans (hb9.mono hS1), by simp, by simp, by simp⟩
        · have ho' := ho
          simp at hu ho
          subst hu ho
          clear ha
          have e5 : f5 = false := false_of (fun h => (a4.out h).1) rfl
          subst e5
          have e6 : f6 = false := false_of (fun h => (a6.out h).2) rfl
          subst e6
          have e7 : f7 = false := false_of a7.out rfl
          subst e7
          have e8 : f8 = false := false_of (fun h => (a8.out h).2.1) rfl
          subst e8
          have e10 : f10 = false := false_of a10.out rfl
          subst e10
          have hB1 := hB rfl
          have hS1 := hB1.size
          have k0 := (hB1.cell (p := ⟨wr.heap.size, 0, none⟩) (by exact HX7.out.lt)).trans (HX7.out.cell 0 _ rfl)
          have k1 := (hB1.cell (p := ⟨wr.heap.size, 1, none⟩) (by exact HX7.out.lt)).trans (HX7.out.cell 1 _ rfl)
          have k2 := (hB1.cell (p := ⟨wr.heap.size, 2, none⟩) (by exact HX7.out.lt)).trans (HX7.out.cell 2 _ rfl)
          have k3 := (hB1.cell (p := ⟨wr.heap.size, 3, none⟩) (by exact HX7.out.lt)).trans (HX7.out.cell 3 _ rfl)
          have k4 := (hB1.cell (p := ⟨wr.heap.size, 4, none⟩) (by exact HX7.out.lt)).trans (HX7.out.cell 4 _ rfl)
          refine .inl ?_
          unfold x17Upd Oper.wp
          go_simp
          exact ⟨f0, f1, f2, f3, true, false, false, false, false, f9, false, H, g8, c8, rfl, rfl, a2, Lib.hid (by simp), a6, a7, a8, a10, n1, n2, hB, h7, h8, h10⟩
        · have ho' := ho
          simp at hu ho
          subst hu ho
          simp [Region.binds] at ha
          obtain rfl : f4 = true := by simp only [ha]
          obtain rfl : f3 = true := by simp only [ha]
          clear ha
          have e6 : f6 = false := false_of (fun h => (a6.out h).2) rfl
          subst e6
          have e7 : f7 = false := false_of a7.out rfl
          subst e7
          have e8 : f8 = false := false_of (fun h => (a8.out h).2.1) rfl
          subst e8
          have e10 : f10 = false := false_of a10.out rfl
          subst e10
          have hB1 := hB rfl
          have hS1 := hB1.size
          refine .inl ?_
          unfold x17Upd Oper.wp
          go_simp
          refine (HW2.out _ hB1).mono ?_
          rintro e w9 ⟨hb9, ⟨x, hM, rfl⟩ | ⟨hM, rfl⟩⟩
          · exact ⟨rfl, Ret.bad (HRE.out.2 x (n1.out rfl) hM) (HB7.out.trans ((hB1.trans (hb9.mono hS1)).mono HB7.out.size)) rfl⟩
          exact ⟨f0, f1, f2, true, true, true, false, false, false, f9, false, H, g8, c8, rfl, rfl, a2, Lib.hid (by simp), Lib.hid (by simp), a7, Lib.hid (by simp), a10, n1, Lib.hid (fun _ => hM), fun _ => hB1.trans (hb9.mono hS1), by simp, by simp, by simp⟩
        · have ho' := ho
          simp at hu ho
          subst hu ho
          simp [Region.binds] at ha
          obtain rfl : f3 = true := by simp only [ha]
          obtain rfl : f5 = true := by simp only [ha]
          clear ha
          have e7 : f7 = false := false_of a7.out rfl
          subst e7
          have e8 : f8 = false := false_of (fun h => (a8.out h).2.1) rfl
          subst e8
          have e10 : f10 = false := false_of a10.out rfl
          subst e10
          have hB1 := hB rfl
          have hS1 := hB1.size
          refine .inl ?_
          unfold x17Upd Oper.wp
          go_simp
          exact ⟨f0, f1, f2, true, f4, true, true, false, false, f9, false, H, g8, c8, rfl, rfl, a2, a4, Lib.hid (by simp), Lib.hid (by simp), a8, a10, n1, n2, hB, h7, h8, h10⟩
        · have ho' := ho
          simp at hu ho
          subst hu ho
          simp [Region.binds] at ha
          obtain rfl : f6 = true := by simp only [ha]
          clear ha
          have e8 : f8 = false := false_of (fun h => (a8.out h).2.1) rfl
          subst e8
          have e10 : f10 = false := false_of a10.out rfl
          subst e10
          have hB1 := hB rfl
          have hS1 := hB1.size
          refine .inl ?_
          unfold x17Upd Oper.wp
          go_simp
          exact ⟨f0, f1, f2, f3, f4, f5, true, true, false, f9, false, w'.heap.size, g8, c8, rfl, rfl, a2, a4, a6, Lib.hid (by simp), Lib.hid (by simp), a10, n1, n2, fun _ => hB1.alloc hS1 _, fun _ _ j u hu => (Box.new w' [.string G, .string A] _ _ rfl).cell j u hu, by simp, by simp⟩
        · have ho' := ho
          simp at hu ho
          subst hu ho
          simp [Region.binds] at ha
          obtain rfl : f1 = true := by simp only [ha]
          obtain rfl : f7 = true := by simp only [ha]
          obtain rfl : f5 = true := by simp only [ha]
          clear ha
          have e10 : f10 = false := false_of a10.out rfl
          subst e10
          have hB1 := hB rfl
          have hS1 := hB1.size
          have h7x := h7 rfl rfl
          unfold x17Upd
          refine wpOp_do ho' (by rfl) ?_
          refine wp_append_one rfl (.tmp 55) (.tmp 61) 64 rfl base 24 Tryz.underlying64 info_idQ rfl (by decide) idC_len2 (.slice oa n oc) l (by simp [Act.eval]) (HOV.out.below hB1) H ⟨G, A⟩ (by simp [Act.eval]) h7x (idC_one2 _) HBY.out (by decide) (Nat.le_trans HBS.out hS1) w'.heap.size rfl ?_
          intro g9 cap9 w9 hown9 hgrow9 _ _
          simp only [Act.put, List.setIfInBounds_toArray, List.set_cons_succ, List.set_cons_zero]
          exact ⟨f0, true, f2, f3, f4, true, f6, true, true, f9, false, H, g9, cap9, rfl, rfl, a2, a4, a6, a7, Lib.hid (by simp), Lib.hid (by simp), n1, n2, by simp, by simp, fun _ _ => ⟨hown9, grown_after hB1 hgrow9⟩, by simp⟩
        · have ho' := ho
          simp at hu ho
          subst hu ho
          simp [Region.binds] at ha
          obtain rfl : f0 = true := by simp only [ha]
          obtain rfl : f1 = true := by simp only [ha]
          obtain rfl : f2 = true := by simp only [ha]
          obtain rfl : f3 = true := by simp only [ha]
          obtain rfl : f4 = true := by simp only [ha]
          obtain rfl : f5 = true := by simp only [ha]
          obtain rfl : f6 = true := by simp only [ha]
          obtain rfl : f7 = true := by simp only [ha]
          obtain rfl : f8 = true := by simp only [ha]
          clear ha
          refine .inl ?_
          unfold x17Upd Oper.wp
          go_simp
          exact ⟨true, true, true, true, true, true, true, true, true, true, f10, H, g8, c8, rfl, rfl, a2, a4, a6, a7, a8, a10, n1, n2, hB, h7, h8, h10⟩
        · have ho' := ho
          simp at hu ho
          subst hu ho
          simp [Region.binds] at ha
          obtain rfl : f9 = true := by simp only [ha]
          obtain rfl : f8 = true := by simp only [ha]
          obtain rfl : f0 = true := by simp only [ha]
          obtain rfl : f1 = true := by simp only [ha]
          obtain rfl : f2 = true := by simp only [ha]
          obtain rfl : f3 = true := by simp only [ha]
          obtain rfl : f4 = true := by simp only [ha]
          obtain rfl : f5 = true := by simp only [ha]
          obtain rfl : f6 = true := by simp only [ha]
          obtain rfl : f7 = true := by simp only [ha]
          clear ha
          obtain ⟨hown, hgr⟩ := h8 rfl rfl
          have hD8 := HDV.out.grown hgr HNE.out
          have z7 := hD8.cell 7 _ rfl
          have u7 := hD8.free 7
          have l7 := hD8.lt
          have HDN := Lib.hid (hD8.set 7 (.slice (some ⟨g8, 0, none⟩) (l.length + 1) c8))
          have HOW := Lib.hid (hown.keptR (setCell_grown w' (w.heap.size + 1) 7 (.slice (some ⟨g8, 0, none⟩) (l.length + 1) c8)) HBD.out)
          have HGR := Lib.hid hgr
          clear hD8 hown hgr
          refine .inl ?_
          unfold x17Upd Oper.wp
          go_simp
          exact ⟨true, true, true, true, true, true, true, true, true, true, true, H, g8, c8, rfl, rfl, a2, a4, a6, a7, a8, Lib.hid (by simp), n1, n2, by simp, by simp, by simp, fun _ => ⟨HOW.out, HDN.out, w', HGR.out, setCell_grown _ _ _ _⟩⟩
     · obtain rfl : n = K.length := by omega
       have h1 := HRR.out
       have HD := Lib.hid h1.2.1
       have HB := Lib.hid (HB9.out.trans (below_row h1.1 (by omega : w.heap.size ≤ w.heap.size + 1) HB9.out.size))
       have HR : Hid (r = none) := by show _ = _; rw [h1.2.2.2, List.drop_length]; rfl
       have hO := h1.2.2.1
       rw [List.take_length] at hO
       have HO := Lib.hid hO
       clear h1 hO
       go_upto_region 19 with fail
       go_wp2_with (first | ((with_reducible show wpList _ _ _ (Oper.mk _ (Op.load 171 (.tmp 4)) _ _ _ _ :: _) _ _); refine wpList_load_box rfl 171 (.tmp 4) rfl (w.heap.size + 1) [.string (bs (wordV t bGroup)), .string (bs (wordV t bArtifact)), .string (bs (wordV t bVersion)), .string (bs (wordV t bType)), .string (bs (wordV t bClassifier)), .int .i64 (scopeW (wordV t bScope)), .int .i64 (optQ ow), .slice oa K.length oc] rfl HD.out Tryz.underlying171 rfl size_dep ?_) | ((with_reducible show wpList _ _ _ (Oper.mk none (Op.store 171 (.tmp 4) (.tmp 65)) _ _ _ _ :: _) _ _); refine wpList_store_box rfl 171 (.tmp 4) (.tmp 65) rfl (w.heap.size + 1) [.string (bs (wordV t bGroup)), .string (bs (wordV t bArtifact)), .string (bs (wordV t bVersion)), .string (bs (wordV t bType)), .string (bs (wordV t bClassifier)), .int .i64 (scopeW (wordV t bScope)), .int .i64 (optQ ow), .slice oa K.length oc] [.string (bs (wordV t bGroup)), .string (bs (wordV t bArtifact)), .string (bs (wordV t bVersion)), .string (bs (wordV t bType)), .string (bs (wordV t bClassifier)), .int .i64 (scopeW (wordV t bScope)), .int .i64 (optQ ow), .slice oa K.length oc] rfl rfl HD.out rfl size_dep (by simp [Value.oneCell']) ?_; intro W10 v10 hg10; have HV10 := Lib.hid v10; have HG10 := Lib.hid hg10; clear v10 hg10))
       refine bodyPost_ret (results_cell_box rfl _ _ (w.heap.size + 1) [.string (bs (wordV t bGroup)), .string (bs (wordV t bArtifact)), .string (bs (wordV t bVersion)), .string (bs (wordV t bType)), .string (bs (wordV t bClassifier)), .int .i64 (scopeW (wordV t bScope)), .int .i64 (optQ ow), .slice oa K.length oc] rfl HV10.out Tryz.underlying171 rfl size_dep) rfl ?_
       refine Ret.good HR.out (HB.out.trans (below_row HG10.out (by omega) HB.out.size)) ?_
       rw [HVK.out]
       exact ⟨.slice oa K.length oc, rfl, (HO.out.keptR HG10.out (by have := HS9.out; omega)).base_mono HB9.out.size⟩

end Go.Proofs.YtphaeegbmfpcgaaGreatDoor
