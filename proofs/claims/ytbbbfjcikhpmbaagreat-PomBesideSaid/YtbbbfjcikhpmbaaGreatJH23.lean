/- How great the tree of a written project is: plain laws on trees; no program in sight. -/
import Derived.Test.YtbbbfjcikhpmbaaGreatJH22
import Derived.Test.YtbbbfjcikhpmbaaGreatJH19
import Derived.Test.YtbbbfjcikhpmbaaGreatJH13
import Derived.Test.YtbbbfjcikhpmbaaGreatJH11
import Derived.Test.YtbbbfjcikhpmbaaGreatJH08
import Derived.Test.YtbbbfjcikhpmbaaGreatJH20
import Derived.Deep.CutBlock
import Derived.Test.YtbbbfjcikhpmbaaGreatJH14

namespace Go.Proofs.YtbbbfjcikhpmbaaGreat
open Go Go.RowKit

/-! A written project is mild. -/
def MildL (l : List Tr) : Prop := ∀ t ∈ l, t.name ≠ [] ∧ Mild t
theorem MildL.nil : MildL [] := fun _ h => by cases h
theorem MildL.app {a b : List Tr} (h : MildL a) (g : MildL b) : MildL (a ++ b) := fun t ht => (List.mem_append.1 ht).elim (h t) (g t)
theorem textF_named : ∀ {l : List Tr}, (∀ t ∈ l, t.name ≠ []) → textF l = []
 | [], _ => rfl
 | t :: l, h => by
  have h1 := h t (by simp)
  rw [textF, textF_named (fun u hu => h u (by simp [hu]))]
  cases hn : t.name with
  | nil => exact absurd hn h1
  | cons _ _ => rfl
theorem MildL.up {l : List Tr} (h : MildL l) (n : Bs) (hn : n.length ≤ 1000000000) (hl : l.length ≤ 100000) : Mild (.mk n [] l []) :=
 .of hl (by show (textF l).length ≤ _; rw [textF_named (fun t ht => (h t ht).1)]; simp) hn (fun k hk => (h k hk).2)
theorem mild_text (x : Bs) : Mild (.mk [] [] [] x) := .of (by simp [Tr.kids]) (by show (textF []).length ≤ _; simp [textF]) (by simp [Tr.name]) (fun k hk => by cases hk)
theorem mildL_leaf (n : Bs) (s : S) (h0 : n ≠ []) (h1 : n.length ≤ 100) (h2 : s.size ≤ 1000000) : MildL (leafT n s) := by
 unfold leafT
 split
 · exact .nil
 · intro t ht
   obtain rfl := List.mem_singleton.1 ht
   refine ⟨h0, .of (by simp [Tr.kids]) ?_ (by show n.length ≤ _; omega) (fun k hk => ?_)⟩
   · show (s.data.toList ++ []).length ≤ _
     rw [List.append_nil, size_data]; omega
   · obtain rfl := List.mem_singleton.1 hk
     exact mild_text _
theorem mildL_branch (n : Bs) (l : List Tr) (h0 : n ≠ []) (h1 : n.length ≤ 100) (h : MildL l) (hl : l.length ≤ 2000) : MildL (branchT n l) := by
 unfold branchT
 split
 · exact .nil
 · intro t ht
   obtain rfl := List.mem_singleton.1 ht
   exact ⟨h0, h.up n (by omega) (by omega)⟩
theorem mildL_map {α : Type} (f : α → Tr) (l : List α) (h : ∀ x ∈ l, (f x).name ≠ [] ∧ Mild (f x)) : MildL (l.map f) := fun t ht => by
 obtain ⟨x, hx, rfl⟩ := List.mem_map.1 ht
 exact h x hx
/-- A dependency whose texts and lists are not too long. -/
structure DepLt (d : Dep) : Prop where
 own : ∀ s ∈ [d.group, d.artifact, d.version, d.type, d.classifier], s.size ≤ 1000000
 ex : ∀ y ∈ d.excl, y.group.size ≤ 1000000 ∧ y.artifact.size ≤ 1000000
 excl : d.excl.length ≤ 2000
theorem wordB_len (n : Int) : (wordB n).length ≤ 100 := by
 unfold wordB
 repeat' split
 all_goals simp
theorem mild_ex {y : Id} (h : y.group.size ≤ 1000000 ∧ y.artifact.size ≤ 1000000) : Mild (exT y) :=
 ((mildL_leaf bGroup y.group (by decide) (by decide) h.1).app (mildL_leaf bArtifact y.artifact (by decide) (by decide) h.2)).up _ (by decide) (by rw [List.length_append]; have := leafT_len bGroup y.group; have := leafT_len bArtifact y.artifact; omega)
theorem mildL_opt (n : Int) : MildL (optT n) := by
 unfold optT
 split
 · exact mildL_leaf _ _ (by decide) (by decide) (by decide)
 · split
   · exact mildL_leaf _ _ (by decide) (by decide) (by decide)
   · exact .nil
theorem mild_dep {d : Dep} (h : DepLt d) : Mild (depT d) := by
 have hs : (bs (wordB d.scope) : S).size ≤ 1000000 := by rw [bs_size]; have := wordB_len d.scope; omega
 refine MildL.up ((((((((MildL.nil.app (mildL_leaf _ _ (by decide) (by decide) (h.own _ (by simp)))).app (mildL_leaf _ _ (by decide) (by decide) (h.own _ (by simp)))).app (mildL_leaf _ _ (by decide) (by decide) (h.own _ (by simp)))).app (mildL_leaf _ _ (by decide) (by decide) (h.own _ (by simp)))).app (mildL_leaf _ _ (by decide) (by decide) (h.own _ (by simp)))).app (mildL_leaf _ _ (by decide) (by decide) hs)).app (mildL_opt _)).app (mildL_branch _ _ (by decide) (by decide) (mildL_map _ _ fun y hy => ⟨by show bExclusion ≠ []; decide, mild_ex (h.ex y hy)⟩) (by rw [List.length_map]; exact h.excl))) _ (by decide) ?_
 refine Nat.le_trans (br_len (m := 7) ?_ _ _) (by decide)
 rw [List.length_append]
 have := optT_len d.opt
 have h6 : ((((((([] : List Tr) ++ leafT bGroup d.group) ++ leafT bArtifact d.artifact) ++ leafT bVersion d.version) ++ leafT bType d.type) ++ leafT bClassifier d.classifier) ++ leafT bScope (bs (wordB d.scope))).length ≤ 6 := leaf_len (leaf_len (leaf_len (leaf_len (leaf_len (leaf_len (m := 0) (by simp) _ _) _ _) _ _) _ _) _ _) _ _
 omega
/-- A project whose texts and lists are not too long. -/
structure PomLt (p : Pom) : Prop where
 own : ∀ s ∈ [p.group, p.artifact, p.version, p.packaging, p.parent.group, p.parent.artifact, p.parent.version], s.size ≤ 1000000
 prp : ∀ y ∈ p.props, y.name.size ≤ 1000000 ∧ y.value.size ≤ 1000000 ∧ y.name.data.toList ≠ []
 man : ∀ d ∈ p.managed, DepLt d
 dep : ∀ d ∈ p.deps, DepLt d
 n1 : p.props.length ≤ 2000
 n2 : p.managed.length ≤ 2000
 n3 : p.deps.length ≤ 2000
theorem mild_prop {x : Prp} (h : x.name.size ≤ 1000000 ∧ x.value.size ≤ 1000000 ∧ x.name.data.toList ≠ []) : Mild (propT x) := by
 unfold propT
 refine .of ?_ ?_ (by show x.name.data.toList.length ≤ _; rw [size_data]; omega) (fun k hk => ?_)
 · show (if x.value.toList.isEmpty then ([] : List Tr) else [.mk [] [] [] x.value.data.toList]).length ≤ _
   split <;> simp
 · show (textF (if x.value.toList.isEmpty then ([] : List Tr) else [.mk [] [] [] x.value.data.toList])).length ≤ _
   split
   · simp [textF]
   · show (x.value.data.toList ++ []).length ≤ _
     rw [List.append_nil, size_data]; omega
 · have hk : k ∈ (if x.value.toList.isEmpty then ([] : List Tr) else [.mk [] [] [] x.value.data.toList]) := hk
   split at hk
   · cases hk
   · obtain rfl := List.mem_singleton.1 hk; exact mild_text _
theorem mildL_deps {ds : List Dep} (h : ∀ d ∈ ds, DepLt d) (hl : ds.length ≤ 2000) : MildL (depsT ds) :=
 mildL_branch _ _ (by decide) (by decide) (mildL_map _ _ fun d hd => ⟨by show bDependency ≠ []; decide, mild_dep (h d hd)⟩) (by rw [List.length_map]; exact hl)
theorem mildL_par {p : Pom} (h : PomLt p) : MildL (parentL p.hasParent p.parent) := by
 unfold parentL
 split
 · refine MildL.nil.app (mildL_branch _ _ (by decide) (by decide) (((MildL.nil.app (mildL_leaf _ _ (by decide) (by decide) (h.own _ (by simp)))).app (mildL_leaf _ _ (by decide) (by decide) (h.own _ (by simp)))).app (mildL_leaf _ _ (by decide) (by decide) (h.own _ (by simp)))) ?_)
   exact Nat.le_trans (leaf_len (leaf_len (leaf_len (m := 0) (by simp) _ _) _ _) _ _) (by decide)
 · exact .nil
theorem mildL_write {p : Pom} (h : PomLt p) : MildL (writeT p).kids :=
 (((((((mildL_par h).app (mildL_leaf _ _ (by decide) (by decide) (h.own _ (by simp)))).app (mildL_leaf _ _ (by decide) (by decide) (h.own _ (by simp)))).app (mildL_leaf _ _ (by decide) (by decide) (h.own _ (by simp)))).app (mildL_leaf _ _ (by decide) (by decide) (h.own _ (by simp)))).app (mildL_branch _ _ (by decide) (by decide) (mildL_map _ _ fun y hy => ⟨by show y.name.data.toList ≠ []; exact (h.prp y hy).2.2, mild_prop (h.prp y hy)⟩) (by rw [List.length_map]; exact h.n1))).app
  (mildL_branch _ _ (by decide) (by decide) (MildL.nil.app (mildL_deps h.man h.n2)) (by rw [List.nil_append]; exact Nat.le_trans (branchT_len _ _) (by decide)))).app (mildL_deps h.dep h.n3)
theorem write_len (p : Pom) : (writeT p).kids.length ≤ 8 := by
 show (parentL p.hasParent p.parent ++ leafT bGroup p.group ++ leafT bArtifact p.artifact ++ leafT bVersion p.version ++ leafT bPackaging p.packaging ++ branchT bProperties (p.props.map propT) ++ branchT bManagement ([] ++ depsT p.managed) ++ depsT p.deps).length ≤ 8
 exact br_len (br_len (br_len (leaf_len (leaf_len (leaf_len (leaf_len (parentL_len _ _) _ _) _ _) _ _) _ _) _ _) _ _) _ _
theorem LightD.lt {d : Dep} (h : LightD d) : DepLt d := ⟨fun s hs => Nat.le_trans (h.own s hs) (by decide), fun y hy => ⟨Nat.le_trans (h.ex y hy).1 (by decide), Nat.le_trans (h.ex y hy).2 (by decide)⟩, Nat.le_trans h.excl (by decide)⟩
theorem LightP.lt {p : Pom} (h : LightP p) (hm : propsGo p.props [] = true) : PomLt p :=
 ⟨fun s hs => Nat.le_trans (h.own s hs) (by decide), fun y hy => ⟨Nat.le_trans (h.prp y hy).1 (by decide), Nat.le_trans (h.prp y hy).2 (by decide), fun e => by have := (props_ok hm y hy).1; rw [e] at this; revert this; decide⟩, fun d hd => (h.managedL d hd).lt, fun d hd => (h.depsL d hd).lt, Nat.le_trans h.props (by decide), Nat.le_trans h.managed (by decide), Nat.le_trans h.deps (by decide)⟩

end Go.Proofs.YtbbbfjcikhpmbaaGreat

/- The walk of the law PomBack; the conditions stand in the theorem. -/
namespace Go.Proofs.YtbbbfjcikhpmbaaGreat
open Go Go.RowKit

/-- A reading without error, each cell told. -/
def ReadG (p : Pom) (w : World) (e : Ending) (w' : World) : Prop := ∃ (a1 : Option Addr) (c1 : Nat) (a2 : Option Addr) (c2 : Nat) (a3 : Option Addr) (c3 : Nat),
 e = .returned (.tuple #[.agg #[.bool p.hasParent, .string p.parent.group, .string p.parent.artifact, .string p.parent.version, .string p.group, .string p.artifact, .string p.version, .string p.packaging, .slice a1 p.props.length c1, .slice a2 p.managed.length c2, .slice a3 p.deps.length c3], .int .i64 0, .string ⟨#[]⟩]) ∧ PomOwn w.heap.size w' p (.slice a1 p.props.length c1) (.slice a2 p.managed.length c2) (.slice a3 p.deps.length c3) ∧ Below w.heap.size w w'
theorem ReadOut.good {t : Tr} {p : Pom} {w w' : World} {e : Ending} (h : ReadOut t w e w') (hV : readV t = p) (hE : readE t = none) : ReadG p w e w' := by
 obtain ⟨pv, mv, dv, rfl, ho⟩ := h.2.2 hE
 subst hV
 obtain ⟨a1, c1, rfl⟩ := ho.props.shape
 obtain ⟨L2, h2⟩ := ho.managed
 obtain ⟨a2, c2, hm⟩ := h2.row.shape
 have e2 : L2.length = (readV t).managed.length := by have := congrArg List.length h2.are; simpa using this
 rw [e2] at hm
 subst hm
 obtain ⟨L3, h3⟩ := ho.deps
 obtain ⟨a3, c3, hd⟩ := h3.row.shape
 have e3 : L3.length = (readV t).deps.length := by have := congrArg List.length h3.are; simpa using this
 rw [e3] at hd
 subst hd
 exact ⟨a1, c1, a2, c2, a3, c3, rfl, ho, h.1⟩
theorem may_props {p : Pom} (h : mayP p = true) : propsGo p.props [] = true := by
 unfold mayP at h
 simp only [Bool.and_eq_true, decide_eq_true_eq] at h
 exact h.2.2.2.1

end Go.Proofs.YtbbbfjcikhpmbaaGreat

/- What is read of a tree that may be is a project that may be: plain laws; no program in sight. -/

namespace Go.Proofs.YtbbbfjcikhpmbaaGreat
open Go Go.RowKit

/-! Light trees are mild and fine; what may be is not too great; errors are two numbers. -/
theorem textF_len {n : Nat} : ∀ {l : List Tr}, (∀ t ∈ l, t.text.length ≤ n) → (textF l).length ≤ l.length * n
 | [], _ => by simp [textF]
 | t :: l, h => by
  rw [textF, List.length_append, List.length_cons, Nat.add_mul, Nat.one_mul]
  have h1 := textF_len (fun u hu => h u (List.mem_cons_of_mem _ hu))
  have h2 := h t (by simp)
  split
  · omega
  · simp only [List.length_nil]; omega
theorem LightT.mild {t : Tr} (h : LightT t) : Mild t := by
 induction h with
 | mk hn hx hal ha hkl hk ih =>
  refine .of (Nat.le_trans hkl (by decide)) ?_ (Nat.le_trans hn (by decide)) ih
  rename_i n ats ks x
  show (textF ks).length ≤ _
  have h1 := textF_len (l := ks) (n := 1000) (fun t ht => (hk t ht).text)
  have h2 := Nat.mul_le_mul_right 1000 hkl
  omega

end Go.Proofs.YtbbbfjcikhpmbaaGreat

/- A written project with its fields in the turned order, and other elements, blanks and attributes beside them: plain laws; no program in sight. -/

namespace Go.Proofs.YtbbbfjcikhpmbaaGreat
open Go Go.RowKit

def blankT (x : Bs) : Tr := .mk [] [] [] x
def besideK (G : Tr → Tr) (x : Tr) (l : List Tr) : List Tr := (l.reverse.flatMap fun k => [blankT [32, 10], G k]) ++ [blankT [9], x]
def withinK (G : Tr → Tr) (x : Tr) (l : List Tr) : List Tr := (l.flatMap fun k => [G k, blankT [32]]) ++ [x]
/-- An element with its kids in the turned order and something more; an element with its kids and something more. -/
def besideT (G : Tr → Tr) (x t : Tr) : Tr := .mk t.name [([120], [121])] (besideK G x t.kids) []
def withinT (G : Tr → Tr) (x t : Tr) : Tr := .mk t.name [] (withinK G x t.kids) []
def GW (x k : Tr) : Tr := if k.name = bDependency then besideT id x k else k
def W1 (x k : Tr) : Tr := withinT (GW x) x k
def GM (x k : Tr) : Tr := if k.name = bDependencies then W1 x k else k
def W2 (x k : Tr) : Tr := withinT (GM x) x k
def GP (x k : Tr) : Tr := if k.name = bDependencies then W1 x k else if k.name = bManagement then W2 x k else k
def PB (x t : Tr) : Tr := besideT (GP x) x t
/-- The names that the fields have. -/
def knownB : List Bs := [bParent, bGroup, bArtifact, bVersion, bPackaging, bProperties, bManagement, bDependencies, bDependency, bType, bClassifier, bScope, bOptional, bExclusions, bExclusion]
theorem isKid_name {m : Bs} {a b : Tr} (h : a.name = b.name) : isKid m a = isKid m b := by unfold isKid; rw [h]
theorem isKid_blank (m b : Bs) : isKid m (blankT b) = false := rfl
theorem isKid_alien {m : Bs} {x : Tr} (hm : m ≠ []) (hx : x.name ≠ m) : isKid m x = false := by
 unfold isKid
 cases m with
 | nil => exact absurd rfl hm
 | cons _ _ => simp [hx]
theorem kids_flat1 (m b : Bs) (G : Tr → Tr) : ∀ l : List Tr, (∀ k ∈ l, (G k).name = k.name) → kidsF m (l.flatMap fun k => [blankT b, G k]) = (kidsF m l).map G
 | [], _ => rfl
 | k :: l, h => by
  rw [List.flatMap_cons, kidsF_app, kids_flat1 m b G l (fun u hu => h u (List.mem_cons_of_mem _ hu))]
  unfold kidsF
  rw [List.filter_cons, List.filter_cons, List.filter_cons, isKid_blank, isKid_name (h k (by simp))]
  cases isKid m k <;> rfl
theorem kids_flat2 (m b : Bs) (G : Tr → Tr) : ∀ l : List Tr, (∀ k ∈ l, (G k).name = k.name) → kidsF m (l.flatMap fun k => [G k, blankT b]) = (kidsF m l).map G
 | [], _ => rfl
 | k :: l, h => by
  rw [List.flatMap_cons, kidsF_app, kids_flat2 m b G l (fun u hu => h u (List.mem_cons_of_mem _ hu))]
  unfold kidsF
  rw [List.filter_cons, List.filter_cons, List.filter_cons, isKid_blank, isKid_name (h k (by simp))]
  cases isKid m k <;> rfl
theorem beside_kids {m : Bs} {G : Tr → Tr} {x t : Tr} (hG : ∀ k ∈ t.kids, (G k).name = k.name) (hm : m ≠ []) (hx : x.name ≠ m) (h1 : (kidsF m t.kids).length ≤ 1) : kidsF m (besideT G x t).kids = (kidsF m t.kids).map G := by
 show kidsF m (besideK G x t.kids) = _
 unfold besideK
 rw [kidsF_app, kids_flat1 m _ G _ (fun k hk => hG k (List.mem_reverse.1 hk))]
 have e1 : kidsF m [blankT [9], x] = [] := by
  unfold kidsF
  rw [List.filter_cons, List.filter_cons, isKid_blank, isKid_alien hm hx]
  rfl
 have e2 : kidsF m t.kids.reverse = kidsF m t.kids := by
  show List.filter _ _ = _
  rw [List.filter_reverse]
  show (kidsF m t.kids).reverse = _
  match h : kidsF m t.kids with
  | [] => rfl
  | [_] => rfl
  | _ :: _ :: _ => rw [h] at h1; simp at h1
 rw [e1, e2, List.append_nil]
theorem within_kids {m : Bs} {G : Tr → Tr} {x t : Tr} (hG : ∀ k ∈ t.kids, (G k).name = k.name) (hm : m ≠ []) (hx : x.name ≠ m) : kidsF m (withinT G x t).kids = (kidsF m t.kids).map G := by
 show kidsF m (withinK G x t.kids) = _
 unfold withinK
 rw [kidsF_app, kids_flat2 m _ G _ hG]
 have e1 : kidsF m [x] = [] := by
  unfold kidsF
  rw [List.filter_cons, isKid_alien hm hx]
  rfl
 rw [e1, List.append_nil]
theorem name_of_kidsF {m : Bs} {l : List Tr} (hm : m ≠ []) {k : Tr} (h : k ∈ kidsF m l) : k.name = m := by
 have h1 := (List.mem_filter.1 h).2
 unfold isKid at h1
 simp only [Bool.and_eq_true, Bool.or_eq_true, decide_eq_true_eq] at h1
 rcases h1.2 with h2 | h2
 · simp at h2; exact absurd h2 hm
 · exact h2
theorem map_same {G : Tr → Tr} {l : List Tr} (h : ∀ k ∈ l, G k = k) : l.map G = l := by
 conv => rhs; rw [← List.map_id l]
 exact List.map_congr_left h
theorem gw_name (x k : Tr) : (GW x k).name = k.name := by unfold GW; split <;> rfl
theorem gm_name (x k : Tr) : (GM x k).name = k.name := by unfold GM; split <;> rfl
theorem gp_name (x k : Tr) : (GP x k).name = k.name := by unfold GP; split; rfl; split <;> rfl
/-- A dependency, turned. -/
theorem dep_beside {d : Dep} {x t : Tr} (h : DepIs d t) (hx : ∀ m ∈ knownB, x.name ≠ m) : DepIs d (besideT id x t) := by
 have e : ∀ m, m ∈ knownB → m ≠ [] → (kidsF m t.kids).length ≤ 1 → kidsF m (besideT id x t).kids = kidsF m t.kids := fun m hk hm h1 => by
  rw [beside_kids (G := id) (fun _ _ => rfl) hm (hx m hk) h1, List.map_id]
 exact ⟨by rw [e bGroup (by decide) (by decide) (by rw [h.g]; exact leafT_len _ _)]; exact h.g, by rw [e bArtifact (by decide) (by decide) (by rw [h.a]; exact leafT_len _ _)]; exact h.a, by rw [e bVersion (by decide) (by decide) (by rw [h.v]; exact leafT_len _ _)]; exact h.v,
  by rw [e bType (by decide) (by decide) (by rw [h.ty]; exact leafT_len _ _)]; exact h.ty, by rw [e bClassifier (by decide) (by decide) (by rw [h.c]; exact leafT_len _ _)]; exact h.c, by rw [e bScope (by decide) (by decide) (by rw [h.s]; exact leafT_len _ _)]; exact h.s,
  by rw [e bOptional (by decide) (by decide) (by rw [h.o]; exact optT_len _)]; exact h.o, by rw [e bExclusions (by decide) (by decide) (by rw [h.x]; exact branchT_len _ _)]; exact h.x⟩
/-- Dependencies, turned, where their element's kid goes by W1. -/
theorem deps_turned {ds : List Dep} {x t u : Tr} (h : DepsIs ds t) (hx : ∀ m ∈ knownB, x.name ≠ m) (hk : kidsF bDependencies u.kids = (kidsF bDependencies t.kids).map (W1 x)) : DepsIs ds u := by
 rcases h with ⟨h1, rfl⟩ | ⟨f, L, h1, rfl, h2, h3⟩
 · exact .inl ⟨by rw [hk, h1]; rfl, rfl⟩
 · refine .inr ⟨W1 x f, L.map fun y => (y.1, GW x y.2), by rw [hk, h1]; rfl, by rw [List.map_map]; rfl, ?_, fun y hy => ?_⟩
   · unfold W1
     rw [within_kids (fun k _ => gw_name x k) (by decide) (hx _ (by decide)), h2, List.map_map, List.map_map]
     rfl
   · obtain ⟨z, hz, rfl⟩ := List.mem_map.1 hy
     have hn : z.2.name = bDependency := name_of_kidsF (l := f.kids) (by decide) (by rw [h2]; exact List.mem_map.2 ⟨z, hz, rfl⟩)
     show DepIs z.1 (GW x z.2)
     unfold GW
     rw [if_pos hn]
     exact dep_beside (h3 z hz) hx
theorem gp_same {x k : Tr} {m : Bs} (h : k.name = m) (h1 : m ≠ bDependencies) (h2 : m ≠ bManagement) : GP x k = k := by unfold GP; rw [if_neg (by rw [h]; exact h1), if_neg (by rw [h]; exact h2)]
/-- A project, turned. -/
theorem pom_beside {p : Pom} {x t : Tr} (h : PomIs p t) (hx : ∀ m ∈ knownB, x.name ≠ m) : PomIs p (PB x t) := by
 have e : ∀ m, m ∈ knownB → m ≠ [] → (kidsF m t.kids).length ≤ 1 → kidsF m (PB x t).kids = (kidsF m t.kids).map (GP x) := fun m hk hm h1 => beside_kids (fun k _ => gp_name x k) hm (hx m hk) h1
 have e2 : ∀ m, m ∈ knownB → m ≠ [] → m ≠ bDependencies → m ≠ bManagement → (kidsF m t.kids).length ≤ 1 → kidsF m (PB x t).kids = kidsF m t.kids := fun m hk hm h1 h2 hl => by
  rw [e m hk hm hl]
  exact map_same fun k hk => gp_same (name_of_kidsF hm hk) h1 h2
 have hd1 : (kidsF bDependencies t.kids).length ≤ 1 := by
  rcases h.deps with ⟨h1, -⟩ | ⟨f, L, h1, -⟩ <;> rw [h1] <;> simp
 have hm1 : (kidsF bManagement t.kids).length ≤ 1 := by
  rcases h.man with ⟨h1, -⟩ | ⟨f, h1, -⟩ <;> rw [h1] <;> simp
 refine ⟨h.name, ?_, ?_, ?_, ?_, ?_, ?_, ?_, ?_⟩
 · rw [e2 bParent (by decide) (by decide) (by decide) (by decide) (by rw [h.par]; exact parentL_len _ _)]; exact h.par
 · rw [e2 bGroup (by decide) (by decide) (by decide) (by decide) (by rw [h.g]; exact leafT_len _ _)]; exact h.g
 · rw [e2 bArtifact (by decide) (by decide) (by decide) (by decide) (by rw [h.a]; exact leafT_len _ _)]; exact h.a
 · rw [e2 bVersion (by decide) (by decide) (by decide) (by decide) (by rw [h.v]; exact leafT_len _ _)]; exact h.v
 · rw [e2 bPackaging (by decide) (by decide) (by decide) (by decide) (by rw [h.k]; exact leafT_len _ _)]; exact h.k
 · rw [e2 bProperties (by decide) (by decide) (by decide) (by decide) (by rw [h.props]; exact branchT_len _ _)]; exact h.props
 · rcases h.man with ⟨h1, h2⟩ | ⟨f, h1, h2⟩
   · exact .inl ⟨by rw [e bManagement (by decide) (by decide) hm1, h1]; rfl, h2⟩
   · have hn : f.name = bManagement := name_of_kidsF (l := t.kids) (by decide) (by rw [h1]; simp)
     refine .inr ⟨W2 x f, ?_, ?_⟩
     · rw [e bManagement (by decide) (by decide) hm1, h1]
       show [GP x f] = _
       unfold GP
       rw [if_neg (by rw [hn]; decide), if_pos hn]
     · refine deps_turned h2 hx ?_
       unfold W2
       rw [within_kids (fun k _ => gm_name x k) (by decide) (hx _ (by decide))]
       refine List.map_congr_left fun k hk => ?_
       unfold GM
       rw [if_pos (name_of_kidsF (by decide) hk)]
 · refine deps_turned h.deps hx ?_
   rw [e bDependencies (by decide) (by decide) hd1]
   refine List.map_congr_left fun k hk => ?_
   unfold GP
   rw [if_pos (name_of_kidsF (by decide) hk)]
theorem beside_read {p : Pom} {x : Tr} (h : mayP p = true) (hx : ∀ m ∈ knownB, x.name ≠ m) : readV (PB x (writeT p)) = p ∧ readE (PB x (writeT p)) = none := pom_read (pom_beside (write_is p) hx) h
theorem textF_app : ∀ a b : List Tr, textF (a ++ b) = textF a ++ textF b
 | [], _ => rfl
 | t :: a, b => by rw [List.cons_append, textF, textF, textF_app a b, List.append_assoc]
theorem textF_skip {t : Tr} {l : List Tr} (h : t.name ≠ []) : textF (t :: l) = textF l := by
 rw [textF, show t.name.isEmpty = false from by simpa using h]
 rfl
theorem textF_blank (b : Bs) (l : List Tr) : textF (blankT b :: l) = b ++ textF l := rfl
theorem textF_flat {G : Tr → Tr} {b : Bs} : ∀ {l : List Tr}, (∀ k ∈ l, (G k).name ≠ []) → (textF (l.flatMap fun k => [blankT b, G k])).length = l.length * b.length ∧ (textF (l.flatMap fun k => [G k, blankT b])).length = l.length * b.length
 | [], _ => by simp [textF]
 | k :: l, h => by
  have ih := textF_flat (G := G) (b := b) (l := l) (fun u hu => h u (List.mem_cons_of_mem _ hu))
  have hk := h k (by simp)
  rw [List.flatMap_cons, List.flatMap_cons, textF_app, textF_app, List.length_append, List.length_append, ih.1, ih.2, List.length_cons, Nat.add_mul, textF_blank, textF_skip hk, textF_skip hk, textF_blank]
  constructor <;> simp [textF] <;> omega
theorem mild_blank (b : Bs) : MildW (blankT b) := .of (by simp [blankT, Tr.kids]) (by show (textF []).length ≤ _; simp [textF]) (fun _ k hk => by cases hk) (fun k hk => by cases hk)
theorem mild_beside {G : Tr → Tr} {x t : Tr} (ht : t.name ≠ bProperties) (hl : t.kids.length ≤ 40000) (hG : ∀ k ∈ t.kids, (G k).name ≠ [] ∧ MildW (G k)) (hx : x.name ≠ [] ∧ MildW x) : MildW (besideT G x t) := by
 refine .of ?_ ?_ (fun e => absurd e ht) (fun k hk => ?_)
 · show (besideK G x t.kids).length ≤ _
   unfold besideK
   rw [List.length_append, List.length_flatMap]
   simp only [List.length_cons, List.length_nil, List.map_const', List.sum_replicate_nat, List.length_reverse]
   omega
 · show (textF (besideK G x t.kids)).length ≤ _
   unfold besideK
   rw [textF_app, List.length_append, (textF_flat (fun k hk => (hG k (List.mem_reverse.1 hk)).1)).1, List.length_reverse]
   rw [textF_blank, textF_skip hx.1]
   simp [textF]
   omega
 · have hk : k ∈ besideK G x t.kids := hk
   unfold besideK at hk
   rcases List.mem_append.1 hk with hk | hk
   · obtain ⟨u, hu, hk⟩ := List.mem_flatMap.1 hk
     rcases List.mem_cons.1 hk with rfl | hk
     · exact mild_blank _
     · rw [List.mem_singleton.1 hk]; exact (hG u (List.mem_reverse.1 hu)).2
   · rcases List.mem_cons.1 hk with rfl | hk
     · exact mild_blank _
     · rw [List.mem_singleton.1 hk]; exact hx.2
theorem mild_within {G : Tr → Tr} {x t : Tr} (ht : t.name ≠ bProperties) (hl : t.kids.length ≤ 40000) (hG : ∀ k ∈ t.kids, (G k).name ≠ [] ∧ MildW (G k)) (hx : x.name ≠ [] ∧ MildW x) : MildW (withinT G x t) := by
 refine .of ?_ ?_ (fun e => absurd e ht) (fun k hk => ?_)
 · show (withinK G x t.kids).length ≤ _
   unfold withinK
   rw [List.length_append, List.length_flatMap]
   simp only [List.length_cons, List.length_nil, List.map_const', List.sum_replicate_nat]
   omega
 · show (textF (withinK G x t.kids)).length ≤ _
   unfold withinK
   rw [textF_app, List.length_append, (textF_flat (fun k hk => (hG k hk).1)).2]
   rw [textF_skip hx.1]
   simp [textF]
   omega
 · have hk : k ∈ withinK G x t.kids := hk
   unfold withinK at hk
   rcases List.mem_append.1 hk with hk | hk
   · obtain ⟨u, hu, hk⟩ := List.mem_flatMap.1 hk
     rcases List.mem_cons.1 hk with rfl | hk
     · exact (hG u hu).2
     · rw [List.mem_singleton.1 hk]; exact mild_blank _
   · rw [List.mem_singleton.1 hk]; exact hx.2
theorem mildN_dep {d : Dep} (h : DepLt d) : ∀ k ∈ (depT d).kids, k.name ≠ [] ∧ MildW k := by
 have hs : (bs (wordB d.scope) : S).size ≤ 1000000 := by rw [bs_size]; have := wordB_len d.scope; omega
 have hL : MildL (depT d).kids := ((((((((MildL.nil.app (mildL_leaf _ _ (by decide) (by decide) (h.own _ (by simp)))).app (mildL_leaf _ _ (by decide) (by decide) (h.own _ (by simp)))).app (mildL_leaf _ _ (by decide) (by decide) (h.own _ (by simp)))).app (mildL_leaf _ _ (by decide) (by decide) (h.own _ (by simp)))).app (mildL_leaf _ _ (by decide) (by decide) (h.own _ (by simp)))).app (mildL_leaf _ _ (by decide) (by decide) hs)).app (mildL_opt _)).app (mildL_branch _ _ (by decide) (by decide) (mildL_map _ _ fun y hy => ⟨by show bExclusion ≠ []; decide, mild_ex (h.ex y hy)⟩) (by rw [List.length_map]; exact h.excl)))
 exact fun k hk => ⟨(hL k hk).1, (hL k hk).2.weak⟩
theorem dep_len (d : Dep) : (depT d).kids.length ≤ 8 := by
 refine Nat.le_trans (br_len (m := 7) ?_ _ _) (by decide)
 rw [List.length_append]
 have := optT_len d.opt
 have h6 : ((((((([] : List Tr) ++ leafT bGroup d.group) ++ leafT bArtifact d.artifact) ++ leafT bVersion d.version) ++ leafT bType d.type) ++ leafT bClassifier d.classifier) ++ leafT bScope (bs (wordB d.scope))).length ≤ 6 := leaf_len (leaf_len (leaf_len (leaf_len (leaf_len (leaf_len (m := 0) (by simp) _ _) _ _) _ _) _ _) _ _) _ _
 omega
theorem mild_w1 {ds : List Dep} {x : Tr} (h : ∀ d ∈ ds, DepLt d) (hl : ds.length ≤ 2000) (hx : x.name ≠ [] ∧ MildW x) : MildW (W1 x (.mk bDependencies [] (ds.map depT) [])) := by
 refine mild_within (by show bDependencies ≠ bProperties; decide) (by show (ds.map depT).length ≤ _; rw [List.length_map]; omega) (fun k hk => ?_) hx
 obtain ⟨d, hd, rfl⟩ := List.mem_map.1 hk
 rw [gw_name]
 refine ⟨by show bDependency ≠ []; decide, ?_⟩
 unfold GW
 rw [if_pos (show (depT d).name = bDependency from rfl)]
 exact mild_beside (by show bDependency ≠ bProperties; decide) (Nat.le_trans (dep_len d) (by decide)) (mildN_dep (h d hd)) hx
theorem deps_one {ds : List Dep} {k : Tr} (h : k ∈ depsT ds) : k = .mk bDependencies [] (ds.map depT) [] := by
 unfold depsT branchT at h
 split at h
 · cases h
 · rename_i e
   rw [List.mem_singleton.1 h, e]
theorem mild_pb {p : Pom} {x : Tr} (h : PomLt p) (hx : x.name ≠ [] ∧ MildW x) : MildW (PB x (writeT p)) := by
 refine mild_beside (by show bProject ≠ bProperties; decide) (Nat.le_trans (write_len p) (by decide)) (fun k hk => ?_) hx
 rw [gp_name]
 have hk1 := mildL_write h k hk
 refine ⟨hk1.1, ?_⟩
 unfold GP
 split
 · rename_i hn
   have hm : k ∈ kidsF bDependencies (writeT p).kids := List.mem_filter.2 ⟨hk, by unfold isKid; rw [hn]; decide⟩
   rw [show kidsF bDependencies (writeT p).kids = depsT p.deps from by rw [write_kids p _ (by decide)]; simp [show bParent ≠ bDependencies by decide, show bGroup ≠ bDependencies by decide, show bArtifact ≠ bDependencies by decide, show bVersion ≠ bDependencies by decide, show bPackaging ≠ bDependencies by decide, show bProperties ≠ bDependencies by decide, show bManagement ≠ bDependencies by decide]] at hm
   rw [deps_one hm]
   exact mild_w1 h.dep h.n3 hx
 · split
   · rename_i hn
     have hm : k ∈ kidsF bManagement (writeT p).kids := List.mem_filter.2 ⟨hk, by unfold isKid; rw [hn]; decide⟩
     rw [show kidsF bManagement (writeT p).kids = branchT bManagement (depsT p.managed) from by rw [write_kids p _ (by decide)]; simp [show bParent ≠ bManagement by decide, show bGroup ≠ bManagement by decide, show bArtifact ≠ bManagement by decide, show bVersion ≠ bManagement by decide, show bPackaging ≠ bManagement by decide, show bProperties ≠ bManagement by decide, show bDependencies ≠ bManagement by decide]] at hm
     have hk2 : k = .mk bManagement [] (depsT p.managed) [] := by
      unfold branchT at hm
      split at hm
      · cases hm
      · rename_i e
        rw [List.mem_singleton.1 hm, e]
     rw [hk2]
     refine mild_within (by show bManagement ≠ bProperties; decide) (Nat.le_trans (branchT_len _ _) (by decide)) (fun u hu => ?_) hx
     have hu2 := deps_one hu
     rw [gm_name, hu2]
     refine ⟨by show bDependencies ≠ []; decide, ?_⟩
     unfold GM
     rw [if_pos (show (Tr.mk bDependencies [] (List.map depT p.managed) []).name = bDependencies from rfl)]
     exact mild_w1 h.man h.n2 hx
   · exact hk1.2.weak

end Go.Proofs.YtbbbfjcikhpmbaaGreat

/- The document's leaf, branch and all: rows of nodes; the conditions stand in the theorems. -/

namespace Go.Proofs.YtbbbfjcikhpmbaaGreat
open Go Go.RowKit

theorem tr_one' {X : Nat → Prop} {y : TrV} {w : World} (h : NodeX X w y.1 y.2.1 y.2.2) : ∀ u ∈ trC y, u.oneCell' = true := by
 obtain ⟨⟨n, a, k, x⟩, v, u⟩ := y
 obtain ⟨q1, q2, q3, q4, f1, f2, -, -⟩ := h.shape
 have e1 : v = .slice q1 a.length q2 := f1
 have e2 : u = .slice q3 k.length q4 := f2
 clear f1 f2
 subst e1 e2
 exact fun u hu => tr_one _ _ _ _ _ _ _ _ _ _ u hu

end Go.Proofs.YtbbbfjcikhpmbaaGreat

/- The document's reader of projects: its state, fail, Kids, one; the conditions stand in the theorems. -/

namespace Go.Proofs.YtbbbfjcikhpmbaaGreat
open Go Go.RowKit

theorem gr_below {B R : Nat} {w w' : World} (h : w.grownBy w' (some R)) (hB : B ≤ R) (hw : B ≤ w.heap.size) : Below B w w' :=
 ⟨h.os, h.tape, h.output, h.size, fun k hk => h.block k (by omega) (fun e => by cases e; omega)⟩
theorem NodeX.gr {X : Nat → Prop} {w w' : World} {t : Tr} {av kv : Value} {R : Nat} (h : NodeX X w t av kv) (hg : w.grownBy w' (some R)) (hX : X R) : NodeX X w' t av kv := h.keep (KeptX.grown hg (fun g e => by cases e; exact hX)) (fun _ _ h => h)
theorem Box.gr {w w' : World} {b R : Nat} {cs : List Value} (h : Box w b cs) (hg : w.grownBy w' (some R)) (hne : b ≠ R) : Box w' b cs := h.grown hg (by simpa using hne)

end Go.Proofs.YtbbbfjcikhpmbaaGreat
