/- How great the tree of a written project is: plain laws on trees; no program in sight. -/
import Derived.Test.YtbbbfjcikhpmbaaGreatJE17
import Derived.Test.YtbbbfjcikhpmbaaGreatProg
import Derived.Test.YtbbbfjcikhpmbaaGreatJE13
import Derived.Test.YtbbbfjcikhpmbaaGreatJE01
import Derived.Test.YtbbbfjcikhpmbaaGreatJE02
import Derived.Test.YtbbbfjcikhpmbaaGreatJE11
import Derived.Test.YtbbbfjcikhpmbaaGreatJE08
import Derived.Test.YtbbbfjcikhpmbaaGreatJE15

namespace Go.Proofs.YtbbbfjcikhpmbaaGreat
open Go Go.RowKit

/-! A written project is mild. -/
def MildL (l : List Tr) : Prop := ∀ t ∈ l, t.name ≠ [] ∧ Mild t
theorem MildL.nil : MildL [] := fun _ h => by cases h
theorem MildL.app {a b : List Tr} (h : MildL a) (g : MildL b) : MildL (a ++ b) := fun t ht => (List.mem_append.1 ht).elim (h t) (g t)
theorem textF_named : ∀ {l : List Tr}, (∀ t ∈ l, t.name ≠ []) → textF l = []
 | [], _ => rfl
 | t :: l, h => by
  have h1 := h t (by simp)
  rw [textF, textF_named (fun u hu => h u (by simp [hu]))]
  cases hn : t.name with
  | nil => exact absurd hn h1
  | cons _ _ => rfl
theorem MildL.up {l : List Tr} (h : MildL l) (n : Bs) (hn : n.length ≤ 1000000000) (hl : l.length ≤ 100000) : Mild (.mk n [] l []) :=
 .of hl (by show (textF l).length ≤ _; rw [textF_named (fun t ht => (h t ht).1)]; simp) hn (fun k hk => (h k hk).2)
theorem mild_text (x : Bs) : Mild (.mk [] [] [] x) := .of (by simp [Tr.kids]) (by show (textF []).length ≤ _; simp [textF]) (by simp [Tr.name]) (fun k hk => by cases hk)
theorem mildL_leaf (n : Bs) (s : S) (h0 : n ≠ []) (h1 : n.length ≤ 100) (h2 : s.size ≤ 1000000) : MildL (leafT n s) := by
 unfold leafT
 split
 · exact .nil
 · intro t ht
   obtain rfl := List.mem_singleton.1 ht
   refine ⟨h0, .of (by simp [Tr.kids]) ?_ (by show n.length ≤ _; omega) (fun k hk => ?_)⟩
   · show (s.data.toList ++ []).length ≤ _
     rw [List.append_nil, size_data]; omega
   · obtain rfl := List.mem_singleton.1 hk
     exact mild_text _
theorem mildL_branch (n : Bs) (l : List Tr) (h0 : n ≠ []) (h1 : n.length ≤ 100) (h : MildL l) (hl : l.length ≤ 2000) : MildL (branchT n l) := by
 unfold branchT
 split
 · exact .nil
 · intro t ht
   obtain rfl := List.mem_singleton.1 ht
   exact ⟨h0, h.up n (by omega) (by omega)⟩
theorem mildL_map {α : Type} (f : α → Tr) (l : List α) (h : ∀ x ∈ l, (f x).name ≠ [] ∧ Mild (f x)) : MildL (l.map f) := fun t ht => by
 obtain ⟨x, hx, rfl⟩ := List.mem_map.1 ht
 exact h x hx
/-- A dependency whose texts and lists are not too long. -/
structure DepLt (d : Dep) : Prop where
 own : ∀ s ∈ [d.group, d.artifact, d.version, d.type, d.classifier], s.size ≤ 1000000
 ex : ∀ y ∈ d.excl, y.group.size ≤ 1000000 ∧ y.artifact.size ≤ 1000000
 excl : d.excl.length ≤ 2000
theorem wordB_len (n : Int) : (wordB n).length ≤ 100 := by
 unfold wordB
 repeat' split
 all_goals simp
theorem mild_ex {y : Id} (h : y.group.size ≤ 1000000 ∧ y.artifact.size ≤ 1000000) : Mild (exT y) :=
 ((mildL_leaf bGroup y.group (by decide) (by decide) h.1).app (mildL_leaf bArtifact y.artifact (by decide) (by decide) h.2)).up _ (by decide) (by rw [List.length_append]; have := leafT_len bGroup y.group; have := leafT_len bArtifact y.artifact; omega)
theorem mildL_opt (n : Int) : MildL (optT n) := by
 unfold optT
 split
 · exact mildL_leaf _ _ (by decide) (by decide) (by decide)
 · split
   · exact mildL_leaf _ _ (by decide) (by decide) (by decide)
   · exact .nil
theorem mild_dep {d : Dep} (h : DepLt d) : Mild (depT d) := by
 have hs : (bs (wordB d.scope) : S).size ≤ 1000000 := by rw [bs_size]; have := wordB_len d.scope; omega
 refine MildL.up ((((((((MildL.nil.app (mildL_leaf _ _ (by decide) (by decide) (h.own _ (by simp)))).app (mildL_leaf _ _ (by decide) (by decide) (h.own _ (by simp)))).app (mildL_leaf _ _ (by decide) (by decide) (h.own _ (by simp)))).app (mildL_leaf _ _ (by decide) (by decide) (h.own _ (by simp)))).app (mildL_leaf _ _ (by decide) (by decide) (h.own _ (by simp)))).app (mildL_leaf _ _ (by decide) (by decide) hs)).app (mildL_opt _)).app (mildL_branch _ _ (by decide) (by decide) (mildL_map _ _ fun y hy => ⟨by show bExclusion ≠ []; decide, mild_ex (h.ex y hy)⟩) (by rw [List.length_map]; exact h.excl))) _ (by decide) ?_
 refine Nat.le_trans (br_len (m := 7) ?_ _ _) (by decide)
 rw [List.length_append]
 have := optT_len d.opt
 have h6 : ((((((([] : List Tr) ++ leafT bGroup d.group) ++ leafT bArtifact d.artifact) ++ leafT bVersion d.version) ++ leafT bType d.type) ++ leafT bClassifier d.classifier) ++ leafT bScope (bs (wordB d.scope))).length ≤ 6 := leaf_len (leaf_len (leaf_len (leaf_len (leaf_len (leaf_len (m := 0) (by simp) _ _) _ _) _ _) _ _) _ _) _ _
 omega
/-- A project whose texts and lists are not too long. -/
structure PomLt (p : Pom) : Prop where
 own : ∀ s ∈ [p.group, p.artifact, p.version, p.packaging, p.parent.group, p.parent.artifact, p.parent.version], s.size ≤ 1000000
 prp : ∀ y ∈ p.props, y.name.size ≤ 1000000 ∧ y.value.size ≤ 1000000 ∧ y.name.data.toList ≠ []
 man : ∀ d ∈ p.managed, DepLt d
 dep : ∀ d ∈ p.deps, DepLt d
 n1 : p.props.length ≤ 2000
 n2 : p.managed.length ≤ 2000
 n3 : p.deps.length ≤ 2000
theorem mild_prop {x : Prp} (h : x.name.size ≤ 1000000 ∧ x.value.size ≤ 1000000 ∧ x.name.data.toList ≠ []) : Mild (propT x) := by
 unfold propT
 refine .of ?_ ?_ (by show x.name.data.toList.length ≤ _; rw [size_data]; omega) (fun k hk => ?_)
 · show (if x.value.toList.isEmpty then ([] : List Tr) else [.mk [] [] [] x.value.data.toList]).length ≤ _
   split <;> simp
 · show (textF (if x.value.toList.isEmpty then ([] : List Tr) else [.mk [] [] [] x.value.data.toList])).length ≤ _
   split
   · simp [textF]
   · show (x.value.data.toList ++ []).length ≤ _
     rw [List.append_nil, size_data]; omega
 · have hk : k ∈ (if x.value.toList.isEmpty then ([] : List Tr) else [.mk [] [] [] x.value.data.toList]) := hk
   split at hk
   · cases hk
   · obtain rfl := List.mem_singleton.1 hk; exact mild_text _
theorem mildL_deps {ds : List Dep} (h : ∀ d ∈ ds, DepLt d) (hl : ds.length ≤ 2000) : MildL (depsT ds) :=
 mildL_branch _ _ (by decide) (by decide) (mildL_map _ _ fun d hd => ⟨by show bDependency ≠ []; decide, mild_dep (h d hd)⟩) (by rw [List.length_map]; exact hl)
theorem mildL_par {p : Pom} (h : PomLt p) : MildL (parentL p.hasParent p.parent) := by
 unfold parentL
 split
 · refine MildL.nil.app (mildL_branch _ _ (by decide) (by decide) (((MildL.nil.app (mildL_leaf _ _ (by decide) (by decide) (h.own _ (by simp)))).app (mildL_leaf _ _ (by decide) (by decide) (h.own _ (by simp)))).app (mildL_leaf _ _ (by decide) (by decide) (h.own _ (by simp)))) ?_)
   exact Nat.le_trans (leaf_len (leaf_len (leaf_len (m := 0) (by simp) _ _) _ _) _ _) (by decide)
 · exact .nil
theorem mildL_write {p : Pom} (h : PomLt p) : MildL (writeT p).kids :=
 (((((((mildL_par h).app (mildL_leaf _ _ (by decide) (by decide) (h.own _ (by simp)))).app (mildL_leaf _ _ (by decide) (by decide) (h.own _ (by simp)))).app (mildL_leaf _ _ (by decide) (by decide) (h.own _ (by simp)))).app (mildL_leaf _ _ (by decide) (by decide) (h.own _ (by simp)))).app (mildL_branch _ _ (by decide) (by decide) (mildL_map _ _ fun y hy => ⟨by show y.name.data.toList ≠ []; exact (h.prp y hy).2.2, mild_prop (h.prp y hy)⟩) (by rw [List.length_map]; exact h.n1))).app
  (mildL_branch _ _ (by decide) (by decide) (MildL.nil.app (mildL_deps h.man h.n2)) (by rw [List.nil_append]; exact Nat.le_trans (branchT_len _ _) (by decide)))).app (mildL_deps h.dep h.n3)
theorem write_len (p : Pom) : (writeT p).kids.length ≤ 8 := by
 show (parentL p.hasParent p.parent ++ leafT bGroup p.group ++ leafT bArtifact p.artifact ++ leafT bVersion p.version ++ leafT bPackaging p.packaging ++ branchT bProperties (p.props.map propT) ++ branchT bManagement ([] ++ depsT p.managed) ++ depsT p.deps).length ≤ 8
 exact br_len (br_len (br_len (leaf_len (leaf_len (leaf_len (leaf_len (parentL_len _ _) _ _) _ _) _ _) _ _) _ _) _ _) _ _
theorem mild_write {p : Pom} (h : PomLt p) : Mild (writeT p) := (mildL_write h).up bProject (by decide) (Nat.le_trans (write_len p) (by decide))

end Go.Proofs.YtbbbfjcikhpmbaaGreat

/- The walk of pom's properties; the conditions stand in the theorem. -/

namespace Go.Proofs.YtbbbfjcikhpmbaaGreat
open Go Go.RowKit

theorem prpC_len2 (x : Prp) : (prpC x).length = 2 := rfl
theorem prpC_one2 (x : Prp) : ∀ y ∈ [x], ∀ u ∈ prpC y, u.oneCell' = true := by
 intro y hy u hu
 obtain rfl := List.mem_singleton.1 hy
 simp only [prpC, List.mem_cons, List.not_mem_nil, or_false] at hu
 rcases hu with rfl | rfl <;> rfl
theorem info_prpQ : (Tryz.prog.info? 55).map (fun i => (i.zero, i.size, i.bytes)) = some (some (.agg #[.string ⟨#[]⟩, .string ⟨#[]⟩]), 2, 32) := by kernel_rfl
theorem prp_lit (y : Prp) (W : World) (H : Nat) (hH : W.heap.size = H) : SliceOf 2 prpC (W.alloc (.cells (prpC y).toArray 55)) (.slice (some ⟨H, 0, none⟩) 1 1) [y] := by
 have h := sliceLit prpC_len2 W [y] 55 H 1 hH rfl (by unfold maxLen; simp)
 simpa using h
theorem hasN_prp (d : List Tr) (n : Bs) : hasN (d.map prpV) (bs n) = d.any (fun x => decide (x.name = n)) := by
 unfold hasN
 rw [List.any_map]
 congr 1
 funext x
 exact bs_beq2 x.name n
theorem propsEgo_at {w : Bs} {K : List Tr} {k : Nat} (h : k < K.length) : propsEgo w (K.drop k) (K.take k) = (if (K.take k).any (fun x => decide (x.name = K[k].name)) then some (20, two (sl w K[k].name)) else none).or ((textE K[k] (sl w K[k].name) true).or (propsEgo w (K.drop (k + 1)) (K.take (k + 1)))) := by
 rw [List.drop_eq_getElem_cons h, propsEgo, List.take_succ_eq_append_getElem h]
def PropsP (w : World) (l : List Prp) (e : Ending) (w' : World) : Prop := ∃ v, e = .returned v ∧ Owns w.heap.size 55 2 prpC w' v l
def ppUpd (B : Nat) (v0 v1 v2 v3 : Value) (x0 x1 y2 x3 x4 x5 x6 x7 x8 x9 x10 x11 x12 x13 x14 x15 x16 x17 x18 x19 x20 x21 x22 x23 x24 x25 x26 x27 x28 x29 x30 x31 x32 x33 x34 x35 x36 x37 x38 x39 x40 x41 x42 y43 y44 y45 y46 y47 y48 y49 y50 y51 y52 x53 x54 : Value) (f0 f1 f2 f3 f4 f5 f6 f7 f8 f9 f10 : Bool)  : Act :=
 ⟨#[x0, x1, cond f10 (undef) y2, x3, x4, x5, x6, x7, x8, x9, x10, x11, x12, x13, x14, x15, x16, x17, x18, x19, x20, x21, x22, x23, x24, x25, x26, x27, x28, x29, x30, x31, x32, x33, x34, x35, x36, x37, x38, x39, x40, x41, x42, cond f0 (y2) y43, cond f1 (.pointer (some ⟨B, 0, none⟩)) y44, cond f2 (v0) y45, cond f3 (.agg #[v0, v1, v2, v3]) y46, cond f4 (x8) y47, cond f5 (.agg #[v0, v1, v2, v3, x8]) y48, cond f6 (undef) y49, cond f7 (undef) y50, cond f8 (undef) y51, cond f9 (undef) y52, x53, x54], []⟩
def ppJ (B : Nat) (v0 v1 v2 v3 : Value) (V : World) (x0 x1 y2 x3 x4 x5 x6 x7 x8 x9 x10 x11 x12 x13 x14 x15 x16 x17 x18 x19 x20 x21 x22 x23 x24 x25 x26 x27 x28 x29 x30 x31 x32 x33 x34 x35 x36 x37 x38 x39 x40 x41 x42 y43 y44 y45 y46 y47 y48 y49 y50 y51 y52 x53 x54 : Value) (listed : Array Bool) (atx : Act) (w' : World) : Prop :=
 ∃ (f0 f1 f2 f3 f4 f5 f6 f7 f8 f9 f10 : Bool) , listed = #[f0, f1, f2, f3, f4, f5, f6, f7, f8, f9, f10] ∧ atx = ppUpd B v0 v1 v2 v3 x0 x1 y2 x3 x4 x5 x6 x7 x8 x9 x10 x11 x12 x13 x14 x15 x16 x17 x18 x19 x20 x21 x22 x23 x24 x25 x26 x27 x28 x29 x30 x31 x32 x33 x34 x35 x36 x37 x38 x39 x40 x41 x42 y43 y44 y45 y46 y47 y48 y49 y50 y51 y52 x53 x54 f0 f1 f2 f3 f4 f5 f6 f7 f8 f9 f10  ∧ w' = V.drew ∧ Hid (f6 = false ∧ f7 = false ∧ f8 = false ∧ f9 = false ∧ f10 = false)
set_option maxRecDepth 100000 in
set_option maxHeartbeats 16000000 in
theorem propsQ_any (t : Tr) (wh : Bs) (w : World) (av kv : Value) (ht : NodeOf w t av kv) (hm : Mild t) (hl : wh.length ≤ 100000000000) :
    Calls Tryz.prog 40 #[elemV t av kv wh] w (Ret (propsE t wh) (PropsP w (propsV t)) w) := by
 obtain ⟨ao, ac, ko, kc, rfl, rfl, hal, -⟩ := ht.shape
 have HF : Hid (∀ W, Below w.heap.size w W → Calls Tryz.prog 35 #[elemV t (.slice ao t.attrs.length ac) (.slice ko t.kids.length kc) wh, .string ⟨#[112, 114, 111, 112, 101, 114, 116, 105, 101, 115]⟩] W (Ret (manyE t wh bProperties) (FieldP wh bProperties (oneV t bProperties)) W)) := fun W h => field_any t wh bProperties W _ _ (ht.later h) hm.kl (by show _ + 10 ≤ _; omega)
 have HM := Lib.hid hm
 have HE : Hid (propsE t wh = (manyE t wh bProperties).or (match oneV t bProperties with
  | none => none
  | some f => (bigE (kidsF [] f.kids).length (sl wh bProperties)).or (propsEgo (sl wh bProperties) (kidsF [] f.kids) []))) := rfl
 have HV : Hid (propsV t = match oneV t bProperties with
  | none => []
  | some f => (kidsF [] f.kids).map prpV) := rfl
 obtain ⟨E, hE⟩ : ∃ E, E = propsE t wh := ⟨_, rfl⟩
 obtain ⟨V, hV⟩ : ∃ V, V = propsV t := ⟨_, rfl⟩
 rw [← hE] at HE ⊢
 rw [← hV] at HV ⊢
 clear hE hV ht hm
 obtain ⟨X, hX⟩ : ∃ X : S, X = bs wh := ⟨_, rfl⟩
 obtain ⟨Y, hY⟩ : ∃ Y : S, Y = bs (sl wh bProperties) := ⟨_, rfl⟩
 have HY : Hid ((bs (sl wh bProperties) : S) = Y) := hY.symm
 have hYz : Y.size = wh.length + 11 := by rw [hY, bs_size]; unfold sl; simp [bProperties]
 have HYZ : Hid (Y.size ≤ 1000000000000) := by show _ ≤ _; omega
 unfold elemV at HF ⊢
 rw [← hX] at HF ⊢
 clear hX hYz
 go_enter Tryz.func40, Tryz.ntmps40
 go_upto_region 1 with fail
 refine wp_world ?_
 intro W hW
 have x1 : Box W w.heap.size [.string (bs t.name), .slice ao t.attrs.length ac, .slice ko t.kids.length kc, .string (bs t.text), .string X] := by rw [hW]; exact Box.new w [.string (bs t.name), .slice ao t.attrs.length ac, .slice ko t.kids.length kc, .string (bs t.text), .string X] _ _ rfl
 have hb : Below w.heap.size w W := by rw [hW]; exact (Below.refl _ w).alloc (Nat.le_refl _) _
 clear hW
 have HX1 := Lib.hid x1
 have HB := Lib.hid hb
 clear x1 hb
 obtain ⟨a0, a1, a2, a3, a4⟩ := bxc5 HX1.out
 have al := HX1.out.lt
 go_wp2_with fail
 refine (HF.out _ HB.out).mono ?_
 rintro e w1 ⟨hb1, hp, hq⟩
 have HB1 := Lib.hid (HB.out.trans (hb1.mono HB.out.size))
 clear a0 a1 a2 a3 a4 al HF HX1 hb1
 cases hM : manyE t wh bProperties with
 | some x =>
  obtain rfl := hp x hM
  have HR : Hid (E = some x) := by show _ = _; rw [HE.out, hM]; rfl
  clear hp hq hM HE HV
  unfold panE
  go_wp2
  exact ⟨rfl, Ret.bad HR.out HB1.out rfl⟩
 | none =>
  have hq := hq hM
  rw [hM, Option.none_or] at HE
  clear hp hM
  cases hO : oneV t bProperties with
  | none =>
   rw [hO] at HE HV hq
   simp only [FieldP, FieldX] at hq
   rw [← hY] at hq
   subst hq
   have HVE : Hid (V = []) := HV.out
   have HR : Hid (E = none) := HE.out
   clear hO HV hY HE
   have HB2 : Hid (∀ o, Below w.heap.size w (w1.alloc o)) := fun o => HB1.out.alloc HB1.out.size o
   go_wp2
   go_ret
   refine Ret.good HR.out (HB2.out _) ⟨_, rfl, ?_⟩
   rw [HVE.out]
   exact Owns.nil
  | some k =>
   rw [hO] at HE HV hq
   obtain ⟨av2, kv2, rfl, hn⟩ := hq
   obtain ⟨p1, p2, p3, p4, rfl, rfl, -, -⟩ := hn.shape
   have hmk := HM.out.one hO
   obtain ⟨K, hK⟩ : ∃ K, K = kidsF [] k.kids := ⟨_, rfl⟩
   have HVE : Hid (V = K.map prpV) := by rw [hK]; exact HV.out
   have HER : Hid (E = (bigE K.length (sl wh bProperties)).or (propsEgo (sl wh bProperties) K [])) := by rw [hK]; exact HE.out
   have HC : Hid (∀ W, Below w1.heap.size w1 W → Calls Tryz.prog 83 #[.agg #[.string (bs k.name), .slice p1 k.attrs.length p2, .slice p3 k.kids.length p4, .string (bs k.text)], .string ⟨#[]⟩] W fun e w' => ∃ v L, e = .returned v ∧ L.map (·.1) = K ∧ Coll W.heap.size W w' v L) := fun W h => by rw [hK]; exact kids_any k [] W _ _ (hn.later h) hmk.kl
   have HMK : Hid (∀ y ∈ K, Mild y) := fun y hy => hmk.kids y (kidsF_sub (by rw [← hK]; exact hy))
   have hKL : K.length ≤ 100000 := by rw [hK]; exact Nat.le_trans (List.length_filter_le _ _) hmk.kl
   clear HE HV hO hn hmk hK
   unfold elemV
   rw [← hY]
   clear hY
   go_upto_region 2 with fail
   refine wp_world ?_
   intro W2 hW2
   have x2 : Box W2 w1.heap.size [.string (bs k.name), .slice p1 k.attrs.length p2, .slice p3 k.kids.length p4, .string (bs k.text), .string Y] := by rw [hW2]; exact Box.new w1 [.string (bs k.name), .slice p1 k.attrs.length p2, .slice p3 k.kids.length p4, .string (bs k.text), .string Y] _ _ rfl
   have hb2 : Below w.heap.size w W2 := by rw [hW2]; exact HB1.out.alloc HB1.out.size _
   have hb12 : Below w1.heap.size w1 W2 := by rw [hW2]; exact (Below.refl _ w1).alloc (Nat.le_refl _) _
   clear hW2
   have HX2 := Lib.hid x2
   have HB2 := Lib.hid hb2
   have HB12 := Lib.hid hb12
   clear x2 hb2 hb12
   obtain ⟨a0, a1, a2, a3, a4⟩ := bxc5 HX2.out
   have al := HX2.out.lt
   go_wp2_with fail
   refine (HC.out _ HB12.out).mono ?_
   rintro e w3 ⟨v, L, rfl, hL, hco⟩
   obtain ⟨la, lc, rfl⟩ := hco.own.shape
   have hb3 := hco.below
   have HB3 := Lib.hid (HB2.out.trans (hb3.mono HB2.out.size))
   have HX3 := Lib.hid (HX2.out.below hb3 HX2.out.lt)
   have HCO : Hid (SliceOf 4 trC w3 (.slice la L.length lc) L ∧ ∀ y ∈ L, NodeOf w3 y.1 y.2.1 y.2.2) := ⟨hco.own.slice trC_len, fun y hy => (hco.nodes y hy).node⟩
   have hLK : L.length = K.length := by rw [← hL]; simp
   rw [hLK] at HCO ⊢
   have HLM := Lib.hid hL
   have HLK := Lib.hid hLK
   clear a0 a1 a2 a3 a4 al hb3 hco HC HX2 hL hLK
   obtain ⟨a0, a1, a2, a3, a4⟩ := bxc5 HX3.out
   have al := HX3.out.lt
   by_cases hbig : 1024 < K.length
   · have hbI : (1024 : Int) < (K.length : Int) := by omega
     have HR : Hid (E = some (2, sl wh bProperties)) := by show _ = _; rw [HER.out]; unfold bigE; rw [if_pos hbig]; rfl
     clear hbig HER HVE
     go_wp2_with fail
     refine (failQ_any _ _ _).mono ?_
     rintro e w9 ⟨rfl, rfl⟩
     go_wp2
     refine ⟨rfl, Ret.bad HR.out HB3.out ?_⟩
     unfold panE faultQ
     rw [HY.out]
   · have hbI : ¬ (1024 : Int) < (K.length : Int) := by omega
     have HRG : Hid (E = propsEgo (sl wh bProperties) K []) := by show _ = _; rw [HER.out]; unfold bigE; rw [if_neg hbig]; rfl
     have HKS : Hid (K.length ≤ 1024) := by show _ ≤ _; omega
     clear hbig HER
     go_wp2
     clear a0 a1 a2 a3 a4 al
     go_loopw [2, 27] (fun v i wr => ∃ (k : Nat) (oa : Option Addr) (oc : Nat), k ≤ K.length ∧ i = .int .i64 k ∧ v = .slice oa k oc ∧ Hid (Below w3.heap.size w3 wr ∧ Owns w3.heap.size 55 2 prpC wr (.slice oa k oc) ((K.take k).map prpV) ∧ E = propsEgo (sl wh bProperties) (K.drop k) (K.take k))) (fun _ i _ => K.length - (intOf i).toNat)
     case atStart => exact ⟨0, none, 0, Nat.zero_le _, rfl, rfl, Below.refl _ _, Owns.nil, HRG.out⟩
     case round =>
      obtain ⟨k, oa, oc, hk, rfl, rfl, HRR⟩ := hrel
      by_cases hlt : k < K.length
      · have hb1r := HRR.out.1
        have hs1 := hb1r.size
        have HCW : Hid (SliceOf 4 trC wr (.slice la L.length lc) L ∧ ∀ y ∈ L, NodeOf wr y.1 y.2.1 y.2.2) := ⟨by rw [HLK.out]; exact HCO.out.1.below hb1r, fun y hy => (HCO.out.2 y hy).later hb1r⟩
        obtain ⟨g, o1, q1, q2, q3, q4, hla, hg, c0, c1, c2, c3, hn⟩ := nodesQ HCW.out.1 HCW.out.2 k (by rw [HLK.out]; exact hlt)
        subst hla
        have HZ1 := Lib.hid (HX3.out.below hb1r HX3.out.lt)
        have hki : (k : Int) < (K.length : Int) := by omega
        have hkL : k < L.length := by rw [HLK.out]; exact hlt
        have hyk : K[k] = L[k].1 := by simp only [← HLM.out, List.getElem_map]
        have HTK := Lib.hid (by rw [List.take_succ_eq_append_getElem hlt, hyk] : K.take (k + 1) = K.take k ++ [L[k].1])
        have HEG := Lib.hid (by rw [HRR.out.2.2, propsEgo_at hlt, hyk] : E = (if (K.take k).any (fun x => decide (x.name = L[k].1.name)) then some (20, two (sl (sl wh bProperties) L[k].1.name)) else none).or ((textE L[k].1 (sl (sl wh bProperties) L[k].1.name) true).or (propsEgo (sl wh bProperties) (K.drop (k + 1)) (K.take (k + 1)))))
        have hmy : Mild L[k].1 := by rw [← hyk]; exact HMK.out _ (List.getElem_mem hlt)
        have HMY := Lib.hid hmy
        have HNN := Lib.hid hn
        have HOR := Lib.hid HRR.out.2.1
        have HLN : Hid (((K.take k).map prpV).length = k) := by show _ = _; rw [List.length_map, List.length_take]; omega
        clear hn hyk hmy
        generalize L[k] = y at *
        obtain ⟨t1, ya, yk⟩ := y
        simp only at c0 c1 c2 c3 HNN HTK HMY HEG
        have hnz : (bs t1.name : S).size ≤ 1000000000 := by rw [bs_size]; exact HMY.out.name
        have hyz := HYZ.out
        have hs1' : ¬ 9223372036854775807 < Y.size + 1 := by omega
        have hs2' : ¬ 9223372036854775807 < Y.size + 1 + (bs t1.name : S).size := by omega
        have hs3' : ¬ 9223372036854775807 < Y.size + 1 + (bs t1.name : S).size + 3 := by omega
        have HPA : Hid (Y ++ ⟨#[47]⟩ ++ bs t1.name = bs (sl (sl wh bProperties) t1.name)) := by
         rw [← HY.out]; show bs (sl wh bProperties) ++ bs [47] ++ bs t1.name = _; rw [bs_append, bs_append, List.append_assoc]; rfl
        have HDU := Lib.hid (hasN_prp (K.take k) t1.name)
        clear hnz hyz
        go_upto_region 10 with fail
        refine wp_world ?_
        intro W7 hW7
        have x7 : Box W7 wr.heap.size [.string (bs t1.name), .slice q1 t1.attrs.length q2, .slice q3 t1.kids.length q4, .string (bs t1.text)] := by rw [hW7]; exact Box.new wr [.string (bs t1.name), .slice q1 t1.attrs.length q2, .slice q3 t1.kids.length q4, .string (bs t1.text)] _ _ rfl
        have hb7 : Below wr.heap.size wr W7 := by rw [hW7]; exact (Below.refl _ wr).alloc (Nat.le_refl _) _
        clear hW7
        have HX7 := Lib.hid x7
        have HB7 := Lib.hid hb7
        have HZ7 := Lib.hid (HZ1.out.below hb7 HZ1.out.lt)
        have HO7 := Lib.hid (HOR.out.below hb7)
        clear x7 hb7 c0 c1 c2 c3
        obtain ⟨c0, c1, c2, c3⟩ := bxc4 HX7.out
        have cl := HX7.out.lt
        have d4 := HZ7.out.cell 4 _ rfl
        have dl := HZ7.out.lt
        obtain ⟨q, hq⟩ : ∃ q, q = (K.take k).any (fun x => decide (x.name = t1.name)) := ⟨_, rfl⟩
        rw [← hq] at HEG HDU
        have HCP : Hid (Calls Tryz.prog 88 #[.slice oa k oc, .func (.func 89) #[] #[.pointer (some ⟨wr.heap.size, 0, none⟩)]] W7 fun e w' => e = .returned (.bool q) ∧ Below W7.heap.size W7 w') := by
         show Calls _ _ _ _ _
         have h9 := containsP_any ((K.take k).map prpV) (bs t1.name) (.slice oa k oc) wr.heap.size W7 (HO7.out.slice prpC_len2) (HX7.out.cell 0 _ rfl) HX7.out.lt
         rw [HDU.out] at h9
         exact h9
        clear hq HDU
        go_wp2_with fail
        refine HCP.out.mono ?_
        rintro e w8 ⟨rfl, hb8⟩
        have HBR8 := Lib.hid (HB7.out.trans (hb8.mono HB7.out.size))
        have HX8 := Lib.hid (HX7.out.below hb8 HX7.out.lt)
        have HZ8 := Lib.hid (HZ7.out.below hb8 HZ7.out.lt)
        have HO8 := Lib.hid (HO7.out.below hb8)
        clear HCP hb8 c0 c1 c2 c3 cl d4 dl HX7 HZ7 HO7
        obtain ⟨c0, c1, c2, c3⟩ := bxc4 HX8.out
        have cl := HX8.out.lt
        have d4 := HZ8.out.cell 4 _ rfl
        have dl := HZ8.out.lt
        cases q with
        | true =>
         have HR : Hid (E = some (20, two (sl (sl wh bProperties) t1.name))) := HEG.out
         have HPT : Hid (Y ++ ⟨#[47]⟩ ++ bs t1.name ++ ⟨#[91, 50, 93]⟩ = bs (two (sl (sl wh bProperties) t1.name))) := two_bs _ _ _ _ HPA.out
         clear HEG
         go_wp2_with fail
         refine (failQ_any _ _ _).mono ?_
         rintro e w9 ⟨rfl, rfl⟩
         go_wp2
         refine ⟨rfl, Ret.bad HR.out (HB3.out.trans ((HRR.out.1.trans (HBR8.out.mono hs1)).mono HB3.out.size)) ?_⟩
         unfold panE faultQ
         rw [HPT.out]
        | false =>
         have HEG2 : Hid (E = (textE t1 (sl (sl wh bProperties) t1.name) true).or (propsEgo (sl wh bProperties) (K.drop (k + 1)) (K.take (k + 1)))) := HEG.out
         clear HEG
         have HDR : Hid (Below w8.heap.size w8 w8.drew) := belowN (Below.refl _ _) 1
         have HTQ : Hid (∀ W, Below w8.heap.size w8 W → Calls Tryz.prog 84 #[.agg #[.string (bs t1.name), .slice q1 t1.attrs.length q2, .slice q3 t1.kids.length q4, .string (bs t1.text), .string (Y ++ ⟨#[47]⟩ ++ bs t1.name)], .bool true] W (Ret (textE t1 (sl (sl wh bProperties) t1.name) true) (fun e _ => e = .returned (.string (bs (textV t1)))) W)) := fun W h => by
          rw [HPA.out]
          exact textQ_any t1 _ true W _ _ (HNN.out.later ((HBR8.out.trans (h.mono HBR8.out.size)))) HMY.out.kl HMY.out.txt
         cases hM2 : textE t1 (sl (sl wh bProperties) t1.name) true with
         | some x =>
          have HR : Hid (E = some x) := by show _ = _; rw [HEG2.out, hM2]; rfl
          have HTX : Hid (∀ W, Below w8.heap.size w8 W → Calls Tryz.prog 84 #[.agg #[.string (bs t1.name), .slice q1 t1.attrs.length q2, .slice q3 t1.kids.length q4, .string (bs t1.text), .string (Y ++ ⟨#[47]⟩ ++ bs t1.name)], .bool true] W fun e w' => e = .panicked [{ v := .iface 66 (.agg #[.int .i64 x.1, .string (bs x.2)]), recovered := false }] ∧ Below w8.heap.size w8 w') := fun W h =>
           (HTQ.out W h).mono fun e w' ⟨h1, h2, h3⟩ => ⟨h2 x hM2, h.trans (h1.mono h.size)⟩
          clear hM2 HTQ HEG2
          go_upto_region 13 with fail
          refine wp_region_flags0 (ppJ wr.heap.size (.string (bs t1.name)) (.slice q1 t1.attrs.length q2) (.slice q3 t1.kids.length q4) (.string (bs t1.text)) w8 _ _ _ _ _ _ _ _ _ _ _ _ _ _ _ _ _ _ _ _ _ _ _ _ _ _ _ _ _ _ _ _ _ _ _ _ _ _ _ _ _ _ _ _ _ _ _ _ _ _ _ _ _ _ _) (by kernel_rfl) 11 rfl (by kernel_rfl) ⟨false, false, false, false, false, false, false, false, false, false, false, rfl, rfl, rfl, ⟨rfl, rfl, rfl, rfl, rfl⟩⟩ ?fin ?step
          case fin =>
           rintro a' w' ⟨f0, f1, f2, f3, f4, f5, f6, f7, f8, f9, f10, hl, rfl, hw, h6⟩
           have hl' : [true, true, true, true, true, true, true, true, true, true, true] = [f0, f1, f2, f3, f4, f5, f6, f7, f8, f9, f10] := congrArg Array.toList hl
           simp only [List.cons.injEq, and_true] at hl'
           obtain ⟨rfl, rfl, rfl, rfl, rfl, rfl, rfl, rfl, rfl, rfl, rfl⟩ := hl'
           unfold ppUpd
           simp only [cond_true]
           exact (Bool.false_ne_true h6.out.1.symm).elim
          case step =>
           rintro listed a' w' ⟨f0, f1, f2, f3, f4, f5, f6, f7, f8, f9, f10, rfl, rfl, hw, h6⟩ i hi
           rw [mem_ready] at hi
           obtain ⟨hu, o, ho, ha⟩ := hi
           have hi8 : i < 11 := (Array.getElem?_eq_some_iff.1 ho).1
           rcases (by omega : i = 0 ∨ i = 1 ∨ i = 2 ∨ i = 3 ∨ i = 4 ∨ i = 5 ∨ i = 6 ∨ i = 7 ∨ i = 8 ∨ i = 9 ∨ i = 10) with rfl | rfl | rfl | rfl | rfl | rfl | rfl | rfl | rfl | rfl | rfl
           · have ho' := ho
             simp at hu ho
             subst hu ho
             clear ha
             obtain rfl : f10 = false := h6.out.2.2.2.2
             subst hw
             refine .inl ?_
             unfold ppUpd Oper.wp
             go_simp
             exact ⟨true, f1, f2, f3, f4, f5, f6, f7, f8, f9, false, rfl, rfl, rfl, h6⟩
           · have ho' := ho
             simp at hu ho
             subst hu ho
             clear ha
             subst hw
             refine .inl ?_
             unfold ppUpd Oper.wp
             go_simp
             exact ⟨f0, true, f2, f3, f4, f5, f6, f7, f8, f9, f10, rfl, rfl, rfl, h6⟩
           · have ho' := ho
             simp at hu ho
             subst hu ho
             simp [Region.binds] at ha
             obtain rfl : f1 = true := by simp only [ha]
             clear ha
             subst hw
             refine .inl ?_
             unfold ppUpd Oper.wp
             go_simp
             exact ⟨f0, true, true, f3, f4, f5, f6, f7, f8, f9, f10, rfl, rfl, rfl, h6⟩
           · have ho' := ho
             simp at hu ho
             subst hu ho
             clear ha
             subst hw
             refine .inl ?_
             unfold ppUpd Oper.wp
             go_simp
             exact ⟨f0, f1, f2, true, f4, f5, f6, f7, f8, f9, f10, rfl, rfl, rfl, h6⟩
           · have ho' := ho
             simp at hu ho
             subst hu ho
             clear ha
             subst hw
             refine .inl ?_
             unfold ppUpd Oper.wp
             go_simp
             exact ⟨f0, f1, f2, f3, true, f5, f6, f7, f8, f9, f10, rfl, rfl, rfl, h6⟩
           · have ho' := ho
             simp at hu ho
             subst hu ho
             simp [Region.binds] at ha
             obtain rfl : f3 = true := by simp only [ha]
             obtain rfl : f4 = true := by simp only [ha]
             clear ha
             subst hw
             refine .inl ?_
             unfold ppUpd Oper.wp
             go_simp
             exact ⟨f0, f1, f2, true, true, true, f6, f7, f8, f9, f10, rfl, rfl, rfl, h6⟩
           · have ho' := ho
             simp at hu ho
             subst hu ho
             simp [Region.binds] at ha
             obtain rfl : f5 = true := by simp only [ha]
             clear ha
             subst hw
             refine .inl ?_
             unfold ppUpd Oper.wp
             go_simp
             refine (HTX.out _ HDR.out).mono ?_
             rintro e w9 ⟨rfl, hb9⟩
             exact ⟨rfl, Ret.bad HR.out (HB3.out.trans ((HRR.out.1.trans ((HBR8.out.trans (hb9.mono HBR8.out.size)).mono hs1)).mono HB3.out.size)) rfl⟩
           · have ho' := ho
             simp at hu ho
             subst hu ho
             simp [Region.binds] at ha
             obtain rfl : f6 = true := by simp only [ha]
             clear ha
             exact (Bool.false_ne_true h6.out.1.symm).elim
           · have ho' := ho
             simp at hu ho
             subst hu ho
             simp [Region.binds] at ha
             obtain rfl : f7 = true := by simp only [ha]
             clear ha
             exact (Bool.false_ne_true h6.out.2.1.symm).elim
           · have ho' := ho
             simp at hu ho
             subst hu ho
             simp [Region.binds] at ha
             obtain rfl : f8 = true := by simp only [ha]
             clear ha
             exact (Bool.false_ne_true h6.out.2.2.1.symm).elim
           · have ho' := ho
             simp at hu ho
             subst hu ho
             simp [Region.binds] at ha
             obtain rfl : f9 = true := by simp only [ha]
             clear ha
             exact (Bool.false_ne_true h6.out.2.2.2.1.symm).elim
         | none =>
          have HTX : Hid (∀ W, Below w8.heap.size w8 W → Calls Tryz.prog 84 #[.agg #[.string (bs t1.name), .slice q1 t1.attrs.length q2, .slice q3 t1.kids.length q4, .string (bs t1.text), .string (Y ++ ⟨#[47]⟩ ++ bs t1.name)], .bool true] W fun e w' => e = .returned (.string (bs (textV t1))) ∧ Below W.heap.size W w') := fun W h =>
           (HTQ.out W h).mono fun e w' ⟨h1, h2, h3⟩ => ⟨h3 hM2, h1⟩
          have HEN : Hid (E = propsEgo (sl wh bProperties) (K.drop (k + 1)) (K.take (k + 1))) := by show _ = _; rw [HEG2.out, hM2]; rfl
          clear hM2 HTQ HEG2
          have HO8D : Hid (Owns w3.heap.size 55 2 prpC w8.drew (.slice oa k oc) ((K.take k).map prpV)) := HO8.out
          have HX8D : Hid (Box w8.drew wr.heap.size [.string (bs t1.name), .slice q1 t1.attrs.length q2, .slice q3 t1.kids.length q4, .string (bs t1.text)]) := ⟨HX8.out.lt, HX8.out.cell, HX8.out.free⟩
          have HSL : Hid (∀ V : World, SliceOf 2 prpC (V.alloc (.cells #[.string (bs t1.name), .string (bs (textV t1))] 55)) (.slice (some ⟨V.heap.size, 0, none⟩) 1 1) [prpV t1]) := fun V => prp_lit (prpV t1) V _ rfl
          have HBY : Hid ((((K.take k).map prpV).length + [prpV t1].length) * 32 ≤ 140737488355328) := by show _ ≤ _; rw [HLN.out]; have := HKS.out; simp only [List.length_cons, List.length_nil]; omega
          have HBS : Hid (∀ (V : World) (o : Obj), w8.heap.size ≤ V.heap.size → w3.heap.size ≤ (V.alloc o).heap.size) := fun V o h => by have h1 := HBR8.out.size; have h2 := hs1; show _ ≤ (V.heap.push o).size; simp only [Array.size_push]; omega
          have HBA : Hid (∀ (V : World) (o : Obj), Below w8.drew.heap.size w8.drew V → Below w3.heap.size wr (V.alloc o)) := fun V o h => (((HBR8.out.mono hs1).trans ((belowN (Below.refl _ _) 1 : Below w8.heap.size w8 w8.drew).mono (by have := HBR8.out.size; omega))).trans (h.mono (by have := HBR8.out.size; show _ ≤ w8.heap.size; omega))).alloc (by have := HBR8.out.size; have h2 : w8.heap.size ≤ V.heap.size := h.size; omega) o
          have HNB : Hid (∀ g, (Value.slice oa k oc).ownBlock = some g → w3.heap.size ≤ g) := fun g h => (HOR.out.lt _ h).1
          have HNE : Hid (some wr.heap.size ≠ (Value.slice oa k oc).ownBlock) := fun h => by have := (HOR.out.lt _ h.symm).2; omega
          go_upto_region 13 with fail
          go_region_held3 (fun w' => w'.cell? ⟨wr.heap.size, 0, none⟩ = some (.string (bs t1.name)) ∧ w'.cell? ⟨wr.heap.size, 1, none⟩ = some (.slice q1 t1.attrs.length q2) ∧ w'.cell? ⟨wr.heap.size, 2, none⟩ = some (.slice q3 t1.kids.length q4) ∧ w'.cell? ⟨wr.heap.size, 3, none⟩ = some (.string (bs t1.text))) (first | exact ⟨c0, c1, c2, c3⟩ | exact ⟨hx8.out.cell 0 _ rfl, hx8.out.cell 1 _ rfl, hx8.out.cell 2 _ rfl, hx8.out.cell 3 _ rfl⟩ | exact ⟨e0, e1, e2, e3⟩ | (go_keep; done)) (first | (go_at_call 84; refine (HTX.out _ HDR.out).mono ?_; rintro e w9 ⟨rfl, hb9⟩; have hx9 := Lib.hid (HX8D.out.below hb9 HX8D.out.lt); have HB9 := Lib.hid hb9; have e0 := hx9.out.cell 0 _ rfl; have e1 := hx9.out.cell 1 _ rfl; have e2 := hx9.out.cell 2 _ rfl; have e3 := hx9.out.cell 3 _ rfl; clear hb9) | (refine step_append_slice _ rfl (.tmp 43) (.tmp 51) 30 rfl w3.heap.size 55 Tryz.underlying30 info_prpQ rfl (by decide) prpC_len2 (.slice oa k oc) ((K.take k).map prpV) (by simp [Act.eval]) (Owns.alloc (HO8D.out.below HB9.out) _) _ [prpV t1] (by simp [Act.eval]) (HSL.out _) (prpC_one2 _) HBY.out (by decide) (HBS.out _ _ HB9.out.size) ?_; intro a8 n8 c8 wz hown8 hgrow8; have hB8 := Lib.hid (below_thenQ (HBA.out _ _ HB9.out) hs1 hgrow8 HNB.out); have hO8 := Lib.hid hown8; have hx8 := Lib.hid ((Box.alloc hx9.out _).grown hgrow8 HNE.out); clear hown8 hgrow8))
          obtain ⟨_, _, he8⟩ := hO8.out.shape
          simp only [Value.slice.injEq, List.length_append, List.length_cons, List.length_nil, HLN.out, Nat.zero_add] at he8
          obtain ⟨-, he8, -⟩ := he8
          subst he8
          go_wp2
          go_roundw
          case rel =>
           have h1 := HRR.out
           refine ⟨k + 1, a8, c8, hlt, by go_num, rfl, h1.1.trans hB8.out, ?_, HEN.out⟩
           rw [HTK.out, List.map_append]
           exact hO8.out
          case measure => simp [intOf]; omega
      · obtain rfl : k = K.length := by omega
        go_wp2
        go_ret
        have h1 := HRR.out
        have hEN : E = none := by rw [h1.2.2, List.drop_length]; rfl
        refine Ret.good hEN (HB3.out.trans (h1.1.mono HB3.out.size)) ⟨_, rfl, ?_⟩
        rw [HVE.out]
        have h2 := h1.2.1
        rw [List.take_length] at h2
        exact h2.base_mono HB3.out.size

end Go.Proofs.YtbbbfjcikhpmbaaGreat

/- What is read of a tree that may be is a project that may be: plain laws; no program in sight. -/

namespace Go.Proofs.YtbbbfjcikhpmbaaGreat
open Go Go.RowKit

theorem okW_size {s : S} {b : Bool} (h : okW s b = true) : s.size ≤ 1000000 := by
 unfold okW at h
 simp only [Bool.and_eq_true, decide_eq_true_eq] at h
 exact Nat.le_trans h.2.1 (by decide)
theorem mayD_lt {m : Int} {d : Dep} (h : mayD m d = true) : DepLt d := by
 unfold mayD at h
 simp only [Bool.and_eq_true, decide_eq_true_eq] at h
 obtain ⟨hv, ht, hc, hx, hg, ha, -, -, -, -, hl⟩ := h
 rw [List.all_eq_true] at hx
 refine ⟨fun s hs => ?_, fun y hy => ?_, Nat.le_trans hl (by decide)⟩
 · simp only [List.mem_cons, List.not_mem_nil, or_false] at hs
   rcases hs with rfl | rfl | rfl | rfl | rfl
   · exact okW_size hg
   · exact okW_size ha
   · exact okW_size hv
   · exact okW_size ht
   · exact okW_size hc
 · have := hx y hy
   unfold patB at this
   simp only [Bool.and_eq_true] at this
   exact ⟨okW_size (part_okW this.1).1, okW_size (part_okW this.2).1⟩
theorem PomLt.small {p : Pom} (h : PomLt p) : PomSm p :=
 ⟨fun s hs => h.own s (by simp only [List.mem_cons, List.not_mem_nil, or_false] at hs ⊢; rcases hs with rfl | rfl | rfl | rfl <;> simp), fun y hy => ⟨(h.prp y hy).1, (h.prp y hy).2.1⟩, fun d hd => ⟨(h.man d hd).own, (h.man d hd).ex⟩, fun d hd => ⟨(h.dep d hd).own, (h.dep d hd).ex⟩,
  Nat.le_trans (h.own p.parent.group (by simp)) (by decide), Nat.le_trans (h.own p.parent.artifact (by simp)) (by decide), Nat.le_trans (h.own p.parent.version (by simp)) (by decide)⟩

end Go.Proofs.YtbbbfjcikhpmbaaGreat

/- Lists just up to their limit, and beyond it: which projects may be, and what is read: plain laws; no program in sight. -/

namespace Go.Proofs.YtbbbfjcikhpmbaaGreat
open Go Go.RowKit

def limD (x : List Id) : Dep := ⟨bs [103], bs [97], bs [], bs [], bs [], 0, 0, x⟩
def limProp (i : Nat) : Prp := ⟨bs (112 :: numP (i + 1)), bs [118]⟩
def limProps (n : Nat) : List Prp := (List.range n).map limProp
def limEx : Id := ⟨bs [42], bs [120]⟩
/-- The project of a kind with so many of a list. -/
def limP (k n : Nat) : Pom := ⟨false, ⟨⟨#[]⟩, ⟨#[]⟩, ⟨#[]⟩⟩, ⟨#[]⟩, ⟨#[97]⟩, ⟨#[]⟩, ⟨#[]⟩, if k = 3 then limProps n else [], if k = 1 then List.replicate n (limD []) else [], if k = 0 then List.replicate n (limD []) else if k = 2 then [limD (List.replicate n limEx)] else []⟩
/-- Where such a list is. -/
def limW (k : Nat) : Bs := if k = 0 then sl bProject bDependencies else if k = 1 then sl (sl bProject bManagement) bDependencies else if k = 2 then sl (atI (sl (sl bProject bDependencies) bDependency) 1) bExclusions else sl bProject bProperties
/-! Numbers' texts. -/
def valP (l : Bs) : Nat := l.foldl (fun a c => a * 10 + (c.toNat - 48)) 0
theorem digQ_nat {d : Nat} (h : d < 10) : (digQ d).toNat = 48 + d := by
 rcases (by omega : d = 0 ∨ d = 1 ∨ d = 2 ∨ d = 3 ∨ d = 4 ∨ d = 5 ∨ d = 6 ∨ d = 7 ∨ d = 8 ∨ d = 9) with rfl | rfl | rfl | rfl | rfl | rfl | rfl | rfl | rfl | rfl <;> rfl
theorem valP_num (n : Nat) : valP (numP n) = n := by
 induction n using Nat.strongRecOn with
 | ind n ih =>
  rw [numP]
  split
  · rename_i h
    show 0 * 10 + ((digQ n).toNat - 48) = n
    rw [digQ_nat h]; omega
  · rename_i h
    unfold valP
    rw [List.foldl_append]
    show valP (numP (n / 10)) * 10 + ((digQ (n % 10)).toNat - 48) = n
    rw [ih (n / 10) (by omega), digQ_nat (by omega)]; omega
theorem numP_inj {n m : Nat} (h : numP n = numP m) : n = m := by rw [← valP_num n, ← valP_num m, h]
theorem numP_dig (n : Nat) : ∀ c ∈ numP n, cDigit c = true := by
 induction n using Nat.strongRecOn with
 | ind n ih =>
  rw [numP]
  have hd : ∀ d, d < 10 → cDigit (digQ d) = true := fun d h => by
   rcases (by omega : d = 0 ∨ d = 1 ∨ d = 2 ∨ d = 3 ∨ d = 4 ∨ d = 5 ∨ d = 6 ∨ d = 7 ∨ d = 8 ∨ d = 9) with rfl | rfl | rfl | rfl | rfl | rfl | rfl | rfl | rfl | rfl <;> rfl
  split
  · rename_i h
    intro c hc
    obtain rfl := List.mem_singleton.1 hc
    exact hd n h
  · rename_i h
    intro c hc
    rcases List.mem_append.1 hc with hc | hc
    · exact ih (n / 10) (by omega) c hc
    · obtain rfl := List.mem_singleton.1 hc
      exact hd _ (by omega)
theorem spanW {p : UInt8 → Bool} : ∀ {l : Bs}, (∀ c ∈ l, p c = true) → span p l = l.length
 | [], _ => rfl
 | c :: l, h => by rw [span, if_pos (h c (by simp)), spanW (fun d hd => h d (by simp [hd]))]; rfl
theorem lim_name (i : Nat) : okName (limProp i).name.data.toList = true := by
 show okName (bs (112 :: numP (i + 1))).data.toList = true
 rw [bs_data]
 unfold okName
 rw [show nameLen (112 :: numP (i + 1)) = span cName (112 :: numP (i + 1)) from rfl, spanW (fun c hc => by
  rcases List.mem_cons.1 hc with rfl | hc
  · rfl
  · unfold cName; rw [numP_dig _ c hc]; simp)]
 simp
theorem lim_value (i : Nat) : okW (limProp i).value true = true := by
 show okW (bs [118]) true = true
 kernel_rfl
theorem lim_ne {i j : Nat} (h : i ≠ j) : (limProp i).name ≠ (limProp j).name := fun e => by
 have h1 : (112 :: numP (i + 1) : Bs) = 112 :: numP (j + 1) := by
  have h2 := congrArg (fun s : S => s.data.toList) (show bs (112 :: numP (i + 1)) = bs (112 :: numP (j + 1)) from e)
  simpa only [bs_data] using h2
 have h2 := numP_inj (List.cons.inj h1).2
 omega
theorem props_may_of : ∀ {r d : List Prp}, (∀ x ∈ r, okName x.name.data.toList = true ∧ okW x.value true = true) → (d ++ r).Pairwise (fun a b => a.name ≠ b.name) → propsGo r d = true
 | [], _, _, _ => rfl
 | x :: r, d, h, hp => by
  have h1 : hasN d x.name = false := by
   unfold hasN
   rw [List.any_eq_false]
   intro y hy
   rw [str_beq]
   have := (List.pairwise_append.1 hp).2.2 y hy x (by simp)
   simpa using this
  rw [propsGo, h1, (h x (by simp)).1, (h x (by simp)).2, props_may_of (fun y hy => h y (by simp [hy])) (by simpa using hp)]
  rfl
theorem lim_props (n : Nat) : propsGo (limProps n) [] = true := by
 refine props_may_of (fun x hx => ?_) ?_
 · obtain ⟨i, -, rfl⟩ := List.mem_map.1 hx
   exact ⟨lim_name i, lim_value i⟩
 · rw [List.nil_append]
   unfold limProps
   rw [List.pairwise_map]
   exact (List.pairwise_lt_range).imp fun h => lim_ne (by omega)
theorem limProps_len (n : Nat) : (limProps n).length = n := by unfold limProps; simp
theorem lim_pat : patB limEx = true := by kernel_rfl
theorem lim_dep (m : Int) (h : m = 6 ∨ m = 5) (n : Nat) (hn : n ≤ 1024) : mayD m (limD (List.replicate n limEx)) = true := by
 have h1 : (List.replicate n limEx).all patB = true := List.all_eq_true.2 fun x hx => by rw [List.eq_of_mem_replicate hx]; exact lim_pat
 unfold mayD
 show (okW (bs []) true && (okW (bs []) true && (okW (bs []) true && ((List.replicate n limEx).all patB && (okW (bs [103]) false && (okW (bs [97]) false && (decide ((0 : Int) ≤ 0) && (decide ((0 : Int) ≤ m) && (decide ((0 : Int) ≤ 0) && (decide ((0 : Int) ≤ 2) && decide ((List.replicate n limEx).length ≤ 1024))))))))))) = true
 rw [h1, show okW (bs []) true = true from by kernel_rfl, show okW (bs [103]) false = true from by kernel_rfl, show okW (bs [97]) false = true from by kernel_rfl, List.length_replicate]
 simp only [Bool.true_and, Bool.and_eq_true, decide_eq_true_eq]
 omega
theorem lim_dep0 (m : Int) (h : m = 6 ∨ m = 5) : mayD m (limD []) = true := lim_dep m h 0 (by omega)
theorem lim_ok {k n : Nat} (hk : k < 4) (hn : n ≤ 1024) : mayP (limP k n) = true := by
 have hA : ∀ m, m = 6 ∨ m = 5 → (List.replicate n (limD [])).all (mayD m) = true := fun m hm => List.all_eq_true.2 fun x hx => by rw [List.eq_of_mem_replicate hx]; exact lim_dep0 m hm
 unfold mayP
 simp only [Bool.and_eq_true, decide_eq_true_eq]
 refine ⟨by kernel_rfl, ⟨by show okW ⟨#[]⟩ true = true; kernel_rfl, by show okW ⟨#[97]⟩ false = true; kernel_rfl, by show okW ⟨#[]⟩ true = true; kernel_rfl, by show okW ⟨#[]⟩ true = true; kernel_rfl⟩, ?_⟩
 rcases (by omega : k = 0 ∨ k = 1 ∨ k = 2 ∨ k = 3) with rfl | rfl | rfl | rfl
 · exact ⟨by show ([] : List Prp).length ≤ 1024; simp, by show propsGo [] [] = true; rfl, ⟨by show ([] : List Dep).all (mayD 6) = true; rfl, by show ([] : List Dep).length ≤ 1024; simp⟩, hA 5 (.inr rfl), by show (List.replicate n (limD [])).length ≤ 1024; rw [List.length_replicate]; exact hn⟩
 · exact ⟨by show ([] : List Prp).length ≤ 1024; simp, by show propsGo [] [] = true; rfl, ⟨hA 6 (.inl rfl), by show (List.replicate n (limD [])).length ≤ 1024; rw [List.length_replicate]; exact hn⟩, by show ([] : List Dep).all (mayD 5) = true; rfl, by show ([] : List Dep).length ≤ 1024; simp⟩
 · refine ⟨by show ([] : List Prp).length ≤ 1024; simp, by show propsGo [] [] = true; rfl, ⟨by show ([] : List Dep).all (mayD 6) = true; rfl, by show ([] : List Dep).length ≤ 1024; simp⟩, ?_, by show ([limD (List.replicate n limEx)] : List Dep).length ≤ 1024; simp⟩
   show ([limD (List.replicate n limEx)] : List Dep).all (mayD 5) = true
   rw [List.all_cons, lim_dep 5 (.inr rfl) n hn]
   rfl
 · exact ⟨by show (limProps n).length ≤ 1024; rw [limProps_len]; exact hn, lim_props n, ⟨by show ([] : List Dep).all (mayD 6) = true; rfl, by show ([] : List Dep).length ≤ 1024; simp⟩, by show ([] : List Dep).all (mayD 5) = true; rfl, by show ([] : List Dep).length ≤ 1024; simp⟩
theorem lim_no {k n : Nat} (hk : k < 4) (hn : 1024 < n) : mayP (limP k n) = false := by
 refine Bool.eq_false_iff.2 fun h => ?_
 unfold mayP at h
 simp only [Bool.and_eq_true, decide_eq_true_eq] at h
 obtain ⟨-, -, hpl, -, ⟨-, hml⟩, hd, hdl⟩ := h
 rcases (by omega : k = 0 ∨ k = 1 ∨ k = 2 ∨ k = 3) with rfl | rfl | rfl | rfl
 · have hdl : (List.replicate n (limD [])).length ≤ 1024 := hdl
   rw [List.length_replicate] at hdl; omega
 · have hml : (List.replicate n (limD [])).length ≤ 1024 := hml
   rw [List.length_replicate] at hml; omega
 · have hd : ([limD (List.replicate n limEx)] : List Dep).all (mayD 5) = true := hd
   have h1 := List.all_eq_true.1 hd (limD (List.replicate n limEx)) (by simp)
   unfold mayD at h1
   simp only [Bool.and_eq_true, decide_eq_true_eq] at h1
   have h2 : (List.replicate n limEx).length ≤ 1024 := h1.2.2.2.2.2.2.2.2.2.2
   rw [List.length_replicate] at h2; omega
 · have hpl : (limProps n).length ≤ 1024 := hpl
   rw [limProps_len] at hpl; omega
/-! What is read where a list is too long. -/
theorem deps_big {m : Bool} {ds : List Dep} {t : Tr} (hi : DepsIs ds t) (hl : 1024 < ds.length) (w : Bs) : depsE m t w = some (2, sl w bDependencies) := by
 rcases hi with ⟨h1, rfl⟩ | ⟨f, L, h1, rfl, h2, h3⟩
 · simp at hl
 · obtain ⟨a, b⟩ := one_some h1
   unfold depsE
   rw [a, b]
   show Option.or none ((if 1024 < (kidsF bDependency f.kids).length then some (2, sl w bDependencies) else none).or (eachE (depE m) (sl (sl w bDependencies) bDependency) (kidsF bDependency f.kids) 0)) = _
   rw [List.length_map] at hl
   rw [h2, if_pos (by rw [List.length_map]; exact hl)]
   rfl
theorem dep_big {m : Bool} {n : Nat} {t : Tr} (hi : DepIs (limD (List.replicate n limEx)) t) (hl : 1024 < n) (w : Bs) : depE m t w = some (2, sl w bExclusions) := by
 have wg := word_leaf (t := t) (m := bGroup) (s := bs [103]) hi.g (by kernel_rfl)
 have wa := word_leaf (t := t) (m := bArtifact) (s := bs [97]) hi.a (by kernel_rfl)
 have wv := word_leaf (t := t) (m := bVersion) (s := bs []) hi.v (by kernel_rfl)
 have wt := word_leaf (t := t) (m := bType) (s := bs []) hi.ty (by kernel_rfl)
 have wc := word_leaf (t := t) (m := bClassifier) (s := bs []) hi.c (by kernel_rfl)
 have hs0 : kidsF bScope t.kids = [] := hi.s.trans (show leafT bScope (bs (wordB 0)) = [] from by kernel_rfl)
 have ho0 : kidsF bOptional t.kids = [] := hi.o.trans (show optT 0 = [] from by kernel_rfl)
 obtain ⟨s1, s2⟩ := one_none hs0
 obtain ⟨o1, o2⟩ := one_none ho0
 have he : bs ([] : Bs) = ⟨#[]⟩ := rfl
 have hne : (List.replicate n limEx).map exT ≠ [] := fun e => by have := congrArg List.length e; simp at this; omega
 obtain ⟨x1, -, x2⟩ := one_branch (t := t) (m := bExclusions) (l := (List.replicate n limEx).map exT) hi.x
 have x2 := x2 hne
 unfold depE
 rw [wg.2 w true freeB (fun _ => by kernel_rfl) (fun _ => rfl), wa.2 w true freeB (fun _ => by kernel_rfl) (fun _ => rfl), wv.2 w false freeB (by simp) (fun _ => rfl), wt.2 w false freeB (by simp) (fun _ => rfl), wc.2 w false freeB (by simp) (fun _ => rfl)]
 rw [show wordE t w bScope false (isScopeQ m) = none from by unfold wordE; rw [s1, s2]; rfl, show wordE t w bOptional false isTruthB = none from by unfold wordE; rw [o1, o2]; rfl]
 have hn : Named bExclusion ((List.replicate n limEx).map exT) := fun t h => by obtain ⟨y, -, rfl⟩ := List.mem_map.1 h; rfl
 unfold exclsE
 rw [x1, x2]
 show Option.or none ((if 1024 < (kidsF bExclusion ((List.replicate n limEx).map exT)).length then some (2, sl w bExclusions) else none).or (eachE exclE _ _ 0)) = _
 rw [hn.same (by decide), if_pos (by rw [List.length_map, List.length_replicate]; exact hl)]
 rfl
theorem lim_read {k n : Nat} (hk : k < 4) (hn : 1024 < n) : readE (writeT (limP k n)) = some (2, limW k) := by
 obtain ⟨t, ht⟩ : ∃ t, t = writeT (limP k n) := ⟨_, rfl⟩
 have hi : PomIs (limP k n) t := by rw [ht]; exact write_is _
 rw [← ht]
 have e1 : parentE t bProject = none := (parent_read hi.par (by show parentB false ⟨⟨#[]⟩, ⟨#[]⟩, ⟨#[]⟩⟩ = true; kernel_rfl)).2 _
 have e2 : wordE t bProject bGroup false freeB = none := (word_leaf hi.g (by show okW ⟨#[]⟩ true = true; kernel_rfl)).2 _ false freeB (by simp) (fun _ => rfl)
 have e3 : wordE t bProject bArtifact true freeB = none := (word_leaf hi.a (by show okW ⟨#[97]⟩ true = true; kernel_rfl)).2 _ true freeB (fun _ => by show (⟨#[97]⟩ : S).toList.isEmpty = false; kernel_rfl) (fun _ => rfl)
 have e4 : wordE t bProject bVersion false freeB = none := (word_leaf hi.v (by show okW ⟨#[]⟩ true = true; kernel_rfl)).2 _ false freeB (by simp) (fun _ => rfl)
 have e5 : wordE t bProject bPackaging false freeB = none := (word_leaf hi.k (by show okW ⟨#[]⟩ true = true; kernel_rfl)).2 _ false freeB (by simp) (fun _ => rfl)
 have e6 : k ≠ 3 → propsE t bProject = none := fun h => (props_read (ps := []) (by have := hi.props; rwa [show (limP k n).props = [] from if_neg h] at this) rfl (by simp)).2 _
 have e7 : k ≠ 1 → managedE t bProject = none := fun h => (managed_read (t := t) (ds := []) (by have := hi.man; rwa [show (limP k n).managed = [] from if_neg h] at this) rfl (by simp)).2 _
 unfold readE
 rw [if_pos hi.name, e1, e2, e3, e4, e5]
 rcases (by omega : k = 0 ∨ k = 1 ∨ k = 2 ∨ k = 3) with rfl | rfl | rfl | rfl
 · rw [e6 (by decide), e7 (by decide), deps_big (ds := List.replicate n (limD [])) hi.deps (by rw [List.length_replicate]; exact hn)]
   rfl
 · rw [e6 (by decide)]
   have hm : managedE t bProject = some (2, limW 1) := by
    rcases hi.man with ⟨-, h2⟩ | ⟨f, h1, h2⟩
    · have h2 : List.replicate n (limD []) = [] := h2
      have := congrArg List.length h2
      simp at this; omega
    · obtain ⟨a, b⟩ := one_some h1
      unfold managedE
      rw [a, b]
      show Option.or none (depsE true f (sl bProject bManagement)) = _
      rw [deps_big (ds := List.replicate n (limD [])) h2 (by rw [List.length_replicate]; exact hn)]
      rfl
   rw [hm]
   rfl
 · rw [e6 (by decide), e7 (by decide)]
   have hd : depsE false t bProject = some (2, limW 2) := by
    rcases hi.deps with ⟨-, h2⟩ | ⟨f, L, h1, h2, h3, h4⟩
    · cases h2
    · obtain ⟨a, b⟩ := one_some h1
      have h2 : L.map (·.1) = [limD (List.replicate n limEx)] := h2
      obtain ⟨⟨d, u⟩, rfl⟩ : ∃ y, L = [y] := by
       cases L with
       | nil => simp at h2
       | cons y L => cases L with
        | nil => exact ⟨y, rfl⟩
        | cons z L => simp at h2
      have h2 : d = limD (List.replicate n limEx) := (List.cons.inj h2).1
      subst h2
      have h5 := h4 _ (List.mem_singleton.2 rfl)
      have h3 : kidsF bDependency f.kids = [u] := h3
      unfold depsE
      rw [a, b]
      show Option.or none ((if 1024 < (kidsF bDependency f.kids).length then some (2, sl bProject bDependencies) else none).or (eachE (depE false) (sl (sl bProject bDependencies) bDependency) (kidsF bDependency f.kids) 0)) = _
      rw [h3, eachE, dep_big h5 hn]
      rfl
   rw [hd]
   rfl
 · have hp : propsE t bProject = some (2, limW 3) := by
    have hne : (limProps n).map propT ≠ [] := fun e => by
     have := congrArg List.length e
     rw [List.length_map, limProps_len] at this
     simp at this; omega
    obtain ⟨a, -, b⟩ := one_branch (t := t) (m := bProperties) (l := (limProps n).map propT) hi.props
    have b := b hne
    have hf : kidsF [] ((limProps n).map propT) = (limProps n).map propT := by
     unfold kidsF
     rw [List.filter_eq_self]
     intro u hu
     obtain ⟨x, hx, rfl⟩ := List.mem_map.1 hu
     obtain ⟨i, -, rfl⟩ := List.mem_map.1 hx
     unfold isKid
     show (!(bs (112 :: numP (i + 1))).data.toList.isEmpty && (List.isEmpty ([] : Bs) || _)) = true
     rw [bs_data]
     rfl
    unfold propsE
    rw [a, b]
    show Option.or none ((if 1024 < (kidsF [] ((limProps n).map propT)).length then some (2, sl bProject bProperties) else none).or (propsEgo (sl bProject bProperties) (kidsF [] ((limProps n).map propT)) [])) = _
    rw [hf, if_pos (by rw [List.length_map, limProps_len]; exact hn)]
    rfl
   rw [hp]
   rfl
/-! Sizes. -/
theorem lim_depLt {n : Nat} (hn : n ≤ 2000) : DepLt (limD (List.replicate n limEx)) := by
 refine ⟨fun s hs => ?_, fun y hy => ?_, by show (List.replicate n limEx).length ≤ 2000; rw [List.length_replicate]; exact hn⟩
 · have hs : s ∈ [bs [103], bs [97], bs [], bs [], bs []] := hs
   simp only [List.mem_cons, List.not_mem_nil, or_false] at hs
   rcases hs with rfl | rfl | rfl | rfl | rfl <;> decide
 · have hy : y ∈ List.replicate n limEx := hy
   rw [List.eq_of_mem_replicate hy]
   exact ⟨by decide, by decide⟩
theorem lim_lt {k n : Nat} (_hk : k < 4) (hn : n ≤ 2000) : PomLt (limP k n) := by
 have hD : ∀ d ∈ List.replicate n (limD []), DepLt d := fun d hd => by rw [List.eq_of_mem_replicate hd]; exact lim_depLt (n := 0) (by omega)
 refine ⟨fun s hs => ?_, fun y hy => ?_, fun d hd => ?_, fun d hd => ?_, ?_, ?_, ?_⟩
 · have hs : s ∈ ([⟨#[]⟩, ⟨#[97]⟩, ⟨#[]⟩, ⟨#[]⟩, ⟨#[]⟩, ⟨#[]⟩, ⟨#[]⟩] : List S) := hs
   simp only [List.mem_cons, List.not_mem_nil, or_false] at hs
   rcases hs with rfl | rfl | rfl | rfl | rfl | rfl | rfl <;> decide
 · have hy : y ∈ (if k = 3 then limProps n else []) := hy
   split at hy
   · obtain ⟨i, hi, rfl⟩ := List.mem_map.1 hy
     have hi := List.mem_range.1 hi
     refine ⟨?_, by show (bs [118]).size ≤ _; decide, ?_⟩
     · show (bs (112 :: numP (i + 1))).size ≤ _
       rw [bs_size, List.length_cons]
       have := numP_len (i + 1); omega
     · show (bs (112 :: numP (i + 1))).data.toList ≠ []
       rw [bs_data]; simp
   · cases hy
 · have hd : d ∈ (if k = 1 then List.replicate n (limD []) else []) := hd
   split at hd
   · exact hD d hd
   · cases hd
 · have hd : d ∈ (if k = 0 then List.replicate n (limD []) else if k = 2 then [limD (List.replicate n limEx)] else []) := hd
   split at hd
   · exact hD d hd
   · split at hd
     · rw [List.mem_singleton.1 hd]; exact lim_depLt hn
     · cases hd
 · show (if k = 3 then limProps n else []).length ≤ 2000
   split
   · rw [limProps_len]; exact hn
   · simp
 · show (if k = 1 then List.replicate n (limD []) else []).length ≤ 2000
   split
   · rw [List.length_replicate]; exact hn
   · simp
 · show (if k = 0 then List.replicate n (limD []) else if k = 2 then [limD (List.replicate n limEx)] else []).length ≤ 2000
   split
   · rw [List.length_replicate]; exact hn
   · split <;> simp

end Go.Proofs.YtbbbfjcikhpmbaaGreat
