/- How great the tree of a written project is: plain laws on trees; no program in sight. -/
import Derived.Test.YtbbbfjcikhpmbaaGreatJC22
import Derived.Test.YtbbbfjcikhpmbaaGreatJC19
import Derived.Test.YtbbbfjcikhpmbaaGreatJC13
import Derived.Test.YtbbbfjcikhpmbaaGreatJC11
import Derived.Test.YtbbbfjcikhpmbaaGreatJC08
import Derived.Test.YtbbbfjcikhpmbaaGreatJC20
import Derived.Deep.CutBlock
import Derived.Test.YtbbbfjcikhpmbaaGreatJC14
import Derived.BigRegion

namespace Go.Proofs.YtbbbfjcikhpmbaaGreat
open Go Go.RowKit

/-! A written project is mild. -/
def MildL (l : List Tr) : Prop := ∀ t ∈ l, t.name ≠ [] ∧ Mild t
theorem MildL.nil : MildL [] := fun _ h => by cases h
theorem MildL.app {a b : List Tr} (h : MildL a) (g : MildL b) : MildL (a ++ b) := fun t ht => (List.mem_append.1 ht).elim (h t) (g t)
theorem textF_named : ∀ {l : List Tr}, (∀ t ∈ l, t.name ≠ []) → textF l = []
 | [], _ => rfl
 | t :: l, h => by
  have h1 := h t (by simp)
  rw [textF, textF_named (fun u hu => h u (by simp [hu]))]
  cases hn : t.name with
  | nil => exact absurd hn h1
  | cons _ _ => rfl
theorem MildL.up {l : List Tr} (h : MildL l) (n : Bs) (hn : n.length ≤ 1000000000) (hl : l.length ≤ 100000) : Mild (.mk n [] l []) :=
 .of hl (by show (textF l).length ≤ _; rw [textF_named (fun t ht => (h t ht).1)]; simp) hn (fun k hk => (h k hk).2)
theorem mild_text (x : Bs) : Mild (.mk [] [] [] x) := .of (by simp [Tr.kids]) (by show (textF []).length ≤ _; simp [textF]) (by simp [Tr.name]) (fun k hk => by cases hk)
theorem mildL_leaf (n : Bs) (s : S) (h0 : n ≠ []) (h1 : n.length ≤ 100) (h2 : s.size ≤ 1000000) : MildL (leafT n s) := by
 unfold leafT
 split
 · exact .nil
 · intro t ht
   obtain rfl := List.mem_singleton.1 ht
   refine ⟨h0, .of (by simp [Tr.kids]) ?_ (by show n.length ≤ _; omega) (fun k hk => ?_)⟩
   · show (s.data.toList ++ []).length ≤ _
     rw [List.append_nil, size_data]; omega
   · obtain rfl := List.mem_singleton.1 hk
     exact mild_text _
theorem mildL_branch (n : Bs) (l : List Tr) (h0 : n ≠ []) (h1 : n.length ≤ 100) (h : MildL l) (hl : l.length ≤ 2000) : MildL (branchT n l) := by
 unfold branchT
 split
 · exact .nil
 · intro t ht
   obtain rfl := List.mem_singleton.1 ht
   exact ⟨h0, h.up n (by omega) (by omega)⟩
theorem mildL_map {α : Type} (f : α → Tr) (l : List α) (h : ∀ x ∈ l, (f x).name ≠ [] ∧ Mild (f x)) : MildL (l.map f) := fun t ht => by
 obtain ⟨x, hx, rfl⟩ := List.mem_map.1 ht
 exact h x hx
/-- A dependency whose texts and lists are not too long. -/
structure DepLt (d : Dep) : Prop where
 own : ∀ s ∈ [d.group, d.artifact, d.version, d.type, d.classifier], s.size ≤ 1000000
 ex : ∀ y ∈ d.excl, y.group.size ≤ 1000000 ∧ y.artifact.size ≤ 1000000
 excl : d.excl.length ≤ 2000
theorem wordB_len (n : Int) : (wordB n).length ≤ 100 := by
 unfold wordB
 repeat' split
 all_goals simp
theorem mild_ex {y : Id} (h : y.group.size ≤ 1000000 ∧ y.artifact.size ≤ 1000000) : Mild (exT y) :=
 ((mildL_leaf bGroup y.group (by decide) (by decide) h.1).app (mildL_leaf bArtifact y.artifact (by decide) (by decide) h.2)).up _ (by decide) (by rw [List.length_append]; have := leafT_len bGroup y.group; have := leafT_len bArtifact y.artifact; omega)
theorem mildL_opt (n : Int) : MildL (optT n) := by
 unfold optT
 split
 · exact mildL_leaf _ _ (by decide) (by decide) (by decide)
 · split
   · exact mildL_leaf _ _ (by decide) (by decide) (by decide)
   · exact .nil
theorem mild_dep {d : Dep} (h : DepLt d) : Mild (depT d) := by
 have hs : (bs (wordB d.scope) : S).size ≤ 1000000 := by rw [bs_size]; have := wordB_len d.scope; omega
 refine MildL.up ((((((((MildL.nil.app (mildL_leaf _ _ (by decide) (by decide) (h.own _ (by simp)))).app (mildL_leaf _ _ (by decide) (by decide) (h.own _ (by simp)))).app (mildL_leaf _ _ (by decide) (by decide) (h.own _ (by simp)))).app (mildL_leaf _ _ (by decide) (by decide) (h.own _ (by simp)))).app (mildL_leaf _ _ (by decide) (by decide) (h.own _ (by simp)))).app (mildL_leaf _ _ (by decide) (by decide) hs)).app (mildL_opt _)).app (mildL_branch _ _ (by decide) (by decide) (mildL_map _ _ fun y hy => ⟨by show bExclusion ≠ []; decide, mild_ex (h.ex y hy)⟩) (by rw [List.length_map]; exact h.excl))) _ (by decide) ?_
 refine Nat.le_trans (br_len (m := 7) ?_ _ _) (by decide)
 rw [List.length_append]
 have := optT_len d.opt
 have h6 : ((((((([] : List Tr) ++ leafT bGroup d.group) ++ leafT bArtifact d.artifact) ++ leafT bVersion d.version) ++ leafT bType d.type) ++ leafT bClassifier d.classifier) ++ leafT bScope (bs (wordB d.scope))).length ≤ 6 := leaf_len (leaf_len (leaf_len (leaf_len (leaf_len (leaf_len (m := 0) (by simp) _ _) _ _) _ _) _ _) _ _) _ _
 omega
/-- A project whose texts and lists are not too long. -/
structure PomLt (p : Pom) : Prop where
 own : ∀ s ∈ [p.group, p.artifact, p.version, p.packaging, p.parent.group, p.parent.artifact, p.parent.version], s.size ≤ 1000000
 prp : ∀ y ∈ p.props, y.name.size ≤ 1000000 ∧ y.value.size ≤ 1000000 ∧ y.name.data.toList ≠ []
 man : ∀ d ∈ p.managed, DepLt d
 dep : ∀ d ∈ p.deps, DepLt d
 n1 : p.props.length ≤ 2000
 n2 : p.managed.length ≤ 2000
 n3 : p.deps.length ≤ 2000
theorem mild_prop {x : Prp} (h : x.name.size ≤ 1000000 ∧ x.value.size ≤ 1000000 ∧ x.name.data.toList ≠ []) : Mild (propT x) := by
 unfold propT
 refine .of ?_ ?_ (by show x.name.data.toList.length ≤ _; rw [size_data]; omega) (fun k hk => ?_)
 · show (if x.value.toList.isEmpty then ([] : List Tr) else [.mk [] [] [] x.value.data.toList]).length ≤ _
   split <;> simp
 · show (textF (if x.value.toList.isEmpty then ([] : List Tr) else [.mk [] [] [] x.value.data.toList])).length ≤ _
   split
   · simp [textF]
   · show (x.value.data.toList ++ []).length ≤ _
     rw [List.append_nil, size_data]; omega
 · have hk : k ∈ (if x.value.toList.isEmpty then ([] : List Tr) else [.mk [] [] [] x.value.data.toList]) := hk
   split at hk
   · cases hk
   · obtain rfl := List.mem_singleton.1 hk; exact mild_text _
theorem mildL_deps {ds : List Dep} (h : ∀ d ∈ ds, DepLt d) (hl : ds.length ≤ 2000) : MildL (depsT ds) :=
 mildL_branch _ _ (by decide) (by decide) (mildL_map _ _ fun d hd => ⟨by show bDependency ≠ []; decide, mild_dep (h d hd)⟩) (by rw [List.length_map]; exact hl)
theorem mildL_par {p : Pom} (h : PomLt p) : MildL (parentL p.hasParent p.parent) := by
 unfold parentL
 split
 · refine MildL.nil.app (mildL_branch _ _ (by decide) (by decide) (((MildL.nil.app (mildL_leaf _ _ (by decide) (by decide) (h.own _ (by simp)))).app (mildL_leaf _ _ (by decide) (by decide) (h.own _ (by simp)))).app (mildL_leaf _ _ (by decide) (by decide) (h.own _ (by simp)))) ?_)
   exact Nat.le_trans (leaf_len (leaf_len (leaf_len (m := 0) (by simp) _ _) _ _) _ _) (by decide)
 · exact .nil
theorem mildL_write {p : Pom} (h : PomLt p) : MildL (writeT p).kids :=
 (((((((mildL_par h).app (mildL_leaf _ _ (by decide) (by decide) (h.own _ (by simp)))).app (mildL_leaf _ _ (by decide) (by decide) (h.own _ (by simp)))).app (mildL_leaf _ _ (by decide) (by decide) (h.own _ (by simp)))).app (mildL_leaf _ _ (by decide) (by decide) (h.own _ (by simp)))).app (mildL_branch _ _ (by decide) (by decide) (mildL_map _ _ fun y hy => ⟨by show y.name.data.toList ≠ []; exact (h.prp y hy).2.2, mild_prop (h.prp y hy)⟩) (by rw [List.length_map]; exact h.n1))).app
  (mildL_branch _ _ (by decide) (by decide) (MildL.nil.app (mildL_deps h.man h.n2)) (by rw [List.nil_append]; exact Nat.le_trans (branchT_len _ _) (by decide)))).app (mildL_deps h.dep h.n3)
theorem write_len (p : Pom) : (writeT p).kids.length ≤ 8 := by
 show (parentL p.hasParent p.parent ++ leafT bGroup p.group ++ leafT bArtifact p.artifact ++ leafT bVersion p.version ++ leafT bPackaging p.packaging ++ branchT bProperties (p.props.map propT) ++ branchT bManagement ([] ++ depsT p.managed) ++ depsT p.deps).length ≤ 8
 exact br_len (br_len (br_len (leaf_len (leaf_len (leaf_len (leaf_len (parentL_len _ _) _ _) _ _) _ _) _ _) _ _) _ _) _ _
theorem LightD.lt {d : Dep} (h : LightD d) : DepLt d := ⟨fun s hs => Nat.le_trans (h.own s hs) (by decide), fun y hy => ⟨Nat.le_trans (h.ex y hy).1 (by decide), Nat.le_trans (h.ex y hy).2 (by decide)⟩, Nat.le_trans h.excl (by decide)⟩
theorem LightP.lt {p : Pom} (h : LightP p) (hm : propsGo p.props [] = true) : PomLt p :=
 ⟨fun s hs => Nat.le_trans (h.own s hs) (by decide), fun y hy => ⟨Nat.le_trans (h.prp y hy).1 (by decide), Nat.le_trans (h.prp y hy).2 (by decide), fun e => by have := (props_ok hm y hy).1; rw [e] at this; revert this; decide⟩, fun d hd => (h.managedL d hd).lt, fun d hd => (h.depsL d hd).lt, Nat.le_trans h.props (by decide), Nat.le_trans h.managed (by decide), Nat.le_trans h.deps (by decide)⟩

end Go.Proofs.YtbbbfjcikhpmbaaGreat

/- The walk of the law PomBack; the conditions stand in the theorem. -/
namespace Go.Proofs.YtbbbfjcikhpmbaaGreat
open Go Go.RowKit

/-- A written node, each cell told. -/
def WriteG (N X : S) (t : Tr) (w : World) (e : Ending) (w' : World) : Prop := ∃ (ko : Option Addr) (kc : Nat), e = .returned (.agg #[.string N, .slice none 0 0, .slice ko t.kids.length kc, .string X]) ∧ NodeOf w' t (.slice none 0 0) (.slice ko t.kids.length kc) ∧ Below w.heap.size w w'
theorem WriteP.good {t : Tr} {w w' : World} {e : Ending} (h : WriteP t w e w') : WriteG (bs t.name) (bs t.text) t w e w' := by
 obtain ⟨kv, rfl, hn, hb⟩ := h
 obtain ⟨-, -, ko, kc, -, rfl, -, -⟩ := hn.shape
 exact ⟨ko, kc, rfl, hn, hb⟩
theorem may_props {p : Pom} (h : mayP p = true) : propsGo p.props [] = true := by
 unfold mayP at h
 simp only [Bool.and_eq_true, decide_eq_true_eq] at h
 exact h.2.2.2.1

end Go.Proofs.YtbbbfjcikhpmbaaGreat

/- The walk of the law PomStays; the conditions stand in the theorem. -/

namespace Go.Proofs.YtbbbfjcikhpmbaaGreat
open Go Go.RowKit

def pom0 : Pom := ⟨false, ⟨⟨#[]⟩, ⟨#[]⟩, ⟨#[]⟩⟩, ⟨#[]⟩, ⟨#[]⟩, ⟨#[]⟩, ⟨#[]⟩, [], [], []⟩
theorem pom0_of (w : World) : PomOf w (.agg (pomC pom0 (.slice none 0 0) (.slice none 0 0) (.slice none 0 0)).toArray) pom0 (.slice none 0 0) (.slice none 0 0) (.slice none 0 0) :=
 ⟨rfl, (Owns.nil (base := 0) (E := 0)).slice prpC_len2, ⟨[], rfl, (Owns.nil (base := 0) (E := 0)).slice depC_len8, fun _ h => by cases h⟩, ⟨[], rfl, (Owns.nil (base := 0) (E := 0)).slice depC_len8, fun _ h => by cases h⟩⟩

end Go.Proofs.YtbbbfjcikhpmbaaGreat

/- What is read where a written project's field is there twice: plain laws; no program in sight. -/

namespace Go.Proofs.YtbbbfjcikhpmbaaGreat
open Go Go.RowKit

/-- A written project with a field once more. -/
def twiceT (p : Pom) (k : Tr) : Tr := .mk bProject [] ((writeT p).kids ++ [k]) []
theorem twice_kids (p : Pom) (k : Tr) (m : Bs) (hm : m ≠ []) : kidsF m (twiceT p k).kids = kidsF m (writeT p).kids ++ (if k.name = m then [k] else []) := by
 show kidsF m ((writeT p).kids ++ [k]) = _
 rw [kidsF_app]
 congr 1
 have h : Named k.name [k] := fun t ht => by rw [List.mem_singleton.1 ht]
 exact kids_one h hm
theorem many_two {t : Tr} {m : Bs} {l : List Tr} {k : Tr} (h : kidsF m t.kids = l ++ [k]) (hl : l ≠ []) (w : Bs) : manyE t w m = some (20, two (sl w m)) := by
 unfold manyE
 rw [h, if_pos (by rw [List.length_append, List.length_singleton]; have := List.length_pos_iff.2 hl; omega)]
theorem kid_of (p : Pom) {k : Tr} (hk : k ∈ (writeT p).kids) : k.name = bParent ∨ k.name = bGroup ∨ k.name = bArtifact ∨ k.name = bVersion ∨ k.name = bPackaging ∨ k.name = bProperties ∨ k.name = bManagement ∨ k.name = bDependencies := by
 have h : k ∈ parentL p.hasParent p.parent ++ leafT bGroup p.group ++ leafT bArtifact p.artifact ++ leafT bVersion p.version ++ leafT bPackaging p.packaging ++ branchT bProperties (p.props.map propT) ++ branchT bManagement ([] ++ depsT p.managed) ++ depsT p.deps := hk
 simp only [List.mem_append] at h
 rcases h with ((((((h | h) | h) | h) | h) | h) | h) | h
 · exact .inl (par_named _ _ k h)
 · exact .inr (.inl (leafT_name h))
 · exact .inr (.inr (.inl (leafT_name h)))
 · exact .inr (.inr (.inr (.inl (leafT_name h))))
 · exact .inr (.inr (.inr (.inr (.inl (leafT_name h)))))
 · exact .inr (.inr (.inr (.inr (.inr (.inl (branchT_name h))))))
 · exact .inr (.inr (.inr (.inr (.inr (.inr (.inl (branchT_name h)))))))
 · exact .inr (.inr (.inr (.inr (.inr (.inr (.inr (branchT_name h)))))))
/-- The error is at the second one. -/
theorem twice_read {p : Pom} {k : Tr} (h : mayP p = true) (hk : k ∈ (writeT p).kids) : readE (twiceT p k) = some (20, two (sl bProject k.name)) := by
 have hn : k.name ≠ [] := by rcases kid_of p hk with e | e | e | e | e | e | e | e <;> rw [e] <;> decide
 have hi := write_is p
 have hmem : k ∈ kidsF k.name (writeT p).kids := by
  refine List.mem_filter.2 ⟨hk, ?_⟩
  unfold isKid
  simp [hn]
 have hy : ∀ w, manyE (twiceT p k) w k.name = some (20, two (sl w k.name)) := fun w => by
  have h1 := twice_kids p k k.name hn
  rw [if_pos rfl] at h1
  exact many_two h1 (List.ne_nil_of_mem hmem) w
 have hno : ∀ m, m ≠ [] → k.name ≠ m → kidsF m (twiceT p k).kids = kidsF m (writeT p).kids := fun m hm hne => by
  rw [twice_kids p k m hm, if_neg hne, List.append_nil]
 unfold mayP at h
 simp only [Bool.and_eq_true, decide_eq_true_eq] at h
 obtain ⟨hp, ⟨hg, ha, hv, hkk⟩, hpl, hps, ⟨hm, hml⟩, hd, hdl⟩ := h
 have e1 : k.name ≠ bParent → parentE (twiceT p k) bProject = none := fun e => (parent_read (by rw [hno _ (by decide) e]; exact hi.par) hp).2 _
 have e2 : k.name ≠ bGroup → wordE (twiceT p k) bProject bGroup false freeB = none := fun e => (word_leaf (by rw [hno _ (by decide) e]; exact hi.g) hg).2 _ false freeB (by simp) (fun _ => rfl)
 have e3 : k.name ≠ bArtifact → wordE (twiceT p k) bProject bArtifact true freeB = none := fun e => (word_leaf (by rw [hno _ (by decide) e]; exact hi.a) (okW_of ha)).2 _ true freeB (fun _ => okW_ne ha) (fun _ => rfl)
 have e4 : k.name ≠ bVersion → wordE (twiceT p k) bProject bVersion false freeB = none := fun e => (word_leaf (by rw [hno _ (by decide) e]; exact hi.v) hv).2 _ false freeB (by simp) (fun _ => rfl)
 have e5 : k.name ≠ bPackaging → wordE (twiceT p k) bProject bPackaging false freeB = none := fun e => (word_leaf (by rw [hno _ (by decide) e]; exact hi.k) hkk).2 _ false freeB (by simp) (fun _ => rfl)
 have e6 : k.name ≠ bProperties → propsE (twiceT p k) bProject = none := fun e => (props_read (by rw [hno _ (by decide) e]; exact hi.props) hps hpl).2 _
 have e7 : k.name ≠ bManagement → managedE (twiceT p k) bProject = none := fun e => (managed_read (t := twiceT p k) (ds := p.managed) (by rw [hno _ (by decide) e]; exact hi.man) hm hml).2 _
 unfold readE
 rw [if_pos (show (twiceT p k).name = bProject from rfl)]
 rcases kid_of p hk with e | e | e | e | e | e | e | e <;> rw [e] at hy e1 e2 e3 e4 e5 e6 e7 ⊢
 · rw [show parentE (twiceT p k) bProject = some (20, two (sl bProject bParent)) from by unfold parentE; rw [hy]; rfl]; rfl
 · rw [e1 (by decide), show wordE (twiceT p k) bProject bGroup false freeB = some (20, two (sl bProject bGroup)) from by unfold wordE; rw [hy]; rfl]; rfl
 · rw [e1 (by decide), e2 (by decide), show wordE (twiceT p k) bProject bArtifact true freeB = some (20, two (sl bProject bArtifact)) from by unfold wordE; rw [hy]; rfl]; rfl
 · rw [e1 (by decide), e2 (by decide), e3 (by decide), show wordE (twiceT p k) bProject bVersion false freeB = some (20, two (sl bProject bVersion)) from by unfold wordE; rw [hy]; rfl]; rfl
 · rw [e1 (by decide), e2 (by decide), e3 (by decide), e4 (by decide), show wordE (twiceT p k) bProject bPackaging false freeB = some (20, two (sl bProject bPackaging)) from by unfold wordE; rw [hy]; rfl]; rfl
 · rw [e1 (by decide), e2 (by decide), e3 (by decide), e4 (by decide), e5 (by decide), show propsE (twiceT p k) bProject = some (20, two (sl bProject bProperties)) from by unfold propsE; rw [hy]; rfl]; rfl
 · rw [e1 (by decide), e2 (by decide), e3 (by decide), e4 (by decide), e5 (by decide), e6 (by decide), show managedE (twiceT p k) bProject = some (20, two (sl bProject bManagement)) from by unfold managedE; rw [hy]; rfl]; rfl
 · rw [e1 (by decide), e2 (by decide), e3 (by decide), e4 (by decide), e5 (by decide), e6 (by decide), e7 (by decide), show depsE false (twiceT p k) bProject = some (20, two (sl bProject bDependencies)) from by unfold depsE; rw [hy]; rfl]; rfl
theorem write_some {p : Pom} (h : mayP p = true) : (writeT p).kids ≠ [] := fun e => by
 have h1 := (write_is p).a
 rw [e] at h1
 unfold mayP at h
 simp only [Bool.and_eq_true, decide_eq_true_eq] at h
 have h2 := okW_ne h.2.1.2.1
 unfold leafT at h1
 rw [h2] at h1
 cases h1
theorem mild_twice {p : Pom} {k : Tr} (h : PomLt p) (hk : k ∈ (writeT p).kids) : Mild (twiceT p k) :=
 ((mildL_write h).app (fun t ht => by rw [List.mem_singleton.1 ht]; exact mildL_write h k hk)).up bProject (by decide) (by rw [List.length_append, List.length_singleton]; have := write_len p; omega)

end Go.Proofs.YtbbbfjcikhpmbaaGreat

/- The walk of the law PomTwice; the conditions stand in the theorem. -/
namespace Go.Proofs.YtbbbfjcikhpmbaaGreat
open Go Go.RowKit

def t8Upd (B5 B7 : Nat) (sv e0 e1 e2 e3 : Value) (KL : List TrV) (x0 x1 x2 x3 x4 x5 x6 x7 x8 x9 x10 x11 x12 x13 x14 x15 x16 x17 x18 x19 x20 x21 x22 x23 x24 x25 x26 x27 x28 x29 x30 x31 x32 x33 x34 x35 x36 x37 x38 x39 x49 x50 x51 x52 x53 x54 x55 x56 x57 x58 x59 x60 x61 x62 x63 x64 x65 x66 x67 x68 x69 x70 x71 x72 : Value) (f0 f1 f2 f3 f4 f5 f6 f7 f8 _f9 : Bool) (o1 : Option Addr) (n1 : Nat) (c1 : Nat) (H : Nat) (g7 : Nat) (c7 : Nat) : Act :=
 ⟨#[x0, x1, x2, x3, x4, x5, x6, x7, x8, x9, x10, x11, x12, x13, x14, x15, x16, x17, x18, x19, x20, x21, x22, x23, x24, x25, x26, x27, x28, x29, x30, x31, x32, x33, x34, x35, x36, x37, x38, x39, cond f0 (.pointer (some ⟨B7, 2, none⟩)) undef, cond f1 (.slice none 0 0) undef, cond f2 (.pointer (some ⟨B5, 2, none⟩)) undef, cond f3 (sv) undef, cond f4 (.slice o1 n1 c1) undef, cond f5 (.agg #[e0, e1, e2, e3]) undef, cond f6 (.slice (some ⟨H, 0, none⟩) 1 1) undef, cond f7 (.slice (some ⟨g7, 0, none⟩) (KL.length + 1) c7) undef, cond f8 (.pointer (some ⟨B7, 2, none⟩)) undef, x49, x50, x51, x52, x53, x54, x55, x56, x57, x58, x59, x60, x61, x62, x63, x64, x65, x66, x67, x68, x69, x70, x71, x72], []⟩
def t8J (B5 B7 : Nat) (sv e0 e1 e2 e3 : Value) (KL : List TrV) (N : S) (y : TrV) (V w3 : World) (x0 x1 x2 x3 x4 x5 x6 x7 x8 x9 x10 x11 x12 x13 x14 x15 x16 x17 x18 x19 x20 x21 x22 x23 x24 x25 x26 x27 x28 x29 x30 x31 x32 x33 x34 x35 x36 x37 x38 x39 x49 x50 x51 x52 x53 x54 x55 x56 x57 x58 x59 x60 x61 x62 x63 x64 x65 x66 x67 x68 x69 x70 x71 x72 : Value) (listed : Array Bool) (atx : Act) (w' : World) : Prop :=
 ∃ (f0 f1 f2 f3 f4 f5 f6 f7 f8 f9 : Bool) (o1 : Option Addr) (n1 : Nat) (c1 : Nat) (H : Nat) (g7 : Nat) (c7 : Nat), listed = #[f0, f1, f2, f3, f4, f5, f6, f7, f8, f9] ∧ atx = t8Upd B5 B7 sv e0 e1 e2 e3 KL x0 x1 x2 x3 x4 x5 x6 x7 x8 x9 x10 x11 x12 x13 x14 x15 x16 x17 x18 x19 x20 x21 x22 x23 x24 x25 x26 x27 x28 x29 x30 x31 x32 x33 x34 x35 x36 x37 x38 x39 x49 x50 x51 x52 x53 x54 x55 x56 x57 x58 x59 x60 x61 x62 x63 x64 x65 x66 x67 x68 x69 x70 x71 x72 f0 f1 f2 f3 f4 f5 f6 f7 f8 f9 o1 n1 c1 H g7 c7 ∧ Hid (f1 = true → f0 = true) ∧ Hid (f3 = true → f2 = true) ∧ Hid (f4 = true → f1 = true ∧ f3 = true) ∧ Hid (f6 = true → f5 = true) ∧ Hid (f7 = true → f4 = true ∧ f6 = true) ∧ Hid (f8 = true → f0 = true ∧ f1 = true ∧ f2 = true ∧ f3 = true ∧ f4 = true ∧ f5 = true ∧ f6 = true ∧ f7 = true) ∧ Hid (f9 = true → f0 = true ∧ f1 = true ∧ f2 = true ∧ f3 = true ∧ f4 = true ∧ f5 = true ∧ f6 = true ∧ f7 = true ∧ f8 = true) ∧ (f9 = false → Below V.heap.size V w') ∧ (f4 = true → f7 = false → Owns V.heap.size 25 4 trC w' (.slice o1 n1 c1) KL) ∧ (f6 = true → f7 = false → H < w'.heap.size ∧ ∀ j u, (trC y)[j]? = some u → w'.cell? ⟨H, j, none⟩ = some u) ∧ (f7 = true → f9 = false → Owns V.heap.size 25 4 trC w' (.slice (some ⟨g7, 0, none⟩) (KL.length + 1) c7) (KL ++ [y])) ∧ (f9 = true → (Owns V.heap.size 25 4 trC w' (.slice (some ⟨g7, 0, none⟩) (KL.length + 1) c7) (KL ++ [y]) ∧ Box w' B7 [.string N, .slice none 0 0, .slice (some ⟨g7, 0, none⟩) (KL.length + 1) c7, .string ⟨#[]⟩] ∧ Box w' w3.heap.size (trC y) ∧ Below w3.heap.size w3 w'))
theorem lit_keep {w w' : World} {H : Nat} {cs : List Value} (h : H < w.heap.size ∧ ∀ j u, cs[j]? = some u → w.cell? ⟨H, j, none⟩ = some u) (hb : Below w.heap.size w w') : H < w'.heap.size ∧ ∀ j u, cs[j]? = some u → w'.cell? ⟨H, j, none⟩ = some u :=
 ⟨Nat.lt_of_lt_of_le h.1 hb.size, fun j u hu => (hb.cell (by exact h.1)).trans (h.2 j u hu)⟩
theorem kid_short (T : Tr) (k : Tr) (h : ∃ p, T = writeT p) (hk : k ∈ T.kids) : k.name.length ≤ 100 := by
 obtain ⟨p, rfl⟩ := h
 rcases kid_of p hk with e | e | e | e | e | e | e | e <;> rw [e] <;> decide
theorem trv_shape {X : Nat → Prop} {w : World} {y : TrV} (h : NodeX X w y.1 y.2.1 y.2.2) : ∃ t xo xc yo yc, y = (t, .slice xo t.attrs.length xc, .slice yo t.kids.length yc) := by
 obtain ⟨t, v, u⟩ := y
 obtain ⟨q1, q2, q3, q4, f1, f2, -, -⟩ := h.shape
 exact ⟨t, q1, q2, q3, q4, by rw [show v = _ from f1, show u = _ from f2]⟩
theorem below_none {w w' : World} (h : w.grownBy w' (Value.slice none 0 0).ownBlock) : Below w.heap.size w w' := below_own h (fun g e => by cases e) (Nat.le_refl _)
theorem lit_cells (w : World) (cs : List Value) (T : TypeId) : ∀ j u, cs[j]? = some u → (w.alloc (.cells cs.toArray T)).cell? ⟨w.heap.size, j, none⟩ = some u := fun j u h => by
 rw [cell_of_row _ w.heap.size j _ T (0, 0) (heap_alloc_new w _)]; simpa using h
set_option maxRecDepth 100000 in
set_option maxHeartbeats 16000000 in
theorem pomTwiceLaw_any (p : Pom) (pv mv dv : Value) (n : Int) (mx : Int) (w : World) (hn0 : 0 ≤ n) (hp : PomOf w (.agg (pomC p pv mv dv).toArray) p pv mv dv) (hm : w.cell? ⟨0, 0, none⟩ = some (.int .i64 mx)) :
    Calls Tryz.prog 6 #[.agg (pomC p pv mv dv).toArray, .int .u64 n] w fun e w' => e = .returned (.bool true) ∧ Below w.heap.size w w' := by
 have hw0 : 0 < w.heap.size := World.block_lt_of_cell? w _ hm
 obtain ⟨T, hT⟩ : ∃ T, T = writeT p := ⟨_, rfl⟩
 obtain ⟨N, hN⟩ : ∃ N, N = bs T.name := ⟨_, rfl⟩
 obtain ⟨X, hX⟩ : ∃ X, X = bs T.text := ⟨_, rfl⟩
 have HLV : Hid (∀ W, Below w.heap.size w W → Calls Tryz.prog 12 #[] W fun e w' => e = .returned (.bool true) ∧ Below W.heap.size W w') := fun W h => pomLives_any mx W ((h.cell (by exact hw0)).trans hm)
 have HL1 : Hid (∀ W, Below w.heap.size w W → Calls Tryz.prog 16 #[.agg (pomC p pv mv dv).toArray] W (RetB (LightP p) W)) := fun W h => lightP_any p pv mv dv W (hp.below h)
 have HM2 : Hid (LightP p → ∀ W, Below w.heap.size w W → Calls Tryz.prog 20 #[.agg (pomC p pv mv dv).toArray] W fun e w' => e = .returned (.bool (mayP p)) ∧ Below W.heap.size W w') := fun hL W h => mayPD_any p pv mv dv W (hp.below h) hL.small
 have HWR : Hid (LightP p → ∀ W, Below w.heap.size w W → Calls Tryz.prog 18 #[.agg (pomC p pv mv dv).toArray] W (WriteG N X T W)) := fun hL W h => by
  rw [hN, hX, hT]
  exact (writeQ_any p pv mv dv W (hp.below h) (Nat.le_trans hL.props (by decide)) (Nat.le_trans hL.managed (by decide)) (Nat.le_trans hL.deps (by decide)) (fun d hd => Nat.le_trans (hL.managedL d hd).excl (by decide)) (fun d hd => Nat.le_trans (hL.depsL d hd).excl (by decide))).mono fun e w' hO => hO.good
 have HSZ : Hid (∀ W, Calls Tryz.prog 15 #[.agg #[.bool false, .string ⟨#[]⟩, .string ⟨#[]⟩, .string ⟨#[]⟩, .string ⟨#[]⟩, .string ⟨#[]⟩, .string ⟨#[]⟩, .string ⟨#[]⟩, .slice none 0 0, .slice none 0 0, .slice none 0 0], .agg #[.bool false, .string ⟨#[]⟩, .string ⟨#[]⟩, .string ⟨#[]⟩, .string ⟨#[]⟩, .string ⟨#[]⟩, .string ⟨#[]⟩, .string ⟨#[]⟩, .slice none 0 0, .slice none 0 0, .slice none 0 0]] W fun e w' => e = .returned (.bool true) ∧ Below W.heap.size W w') := fun W => by
  have h1 := sameX_any pom0 pom0 _ _ _ _ _ _ W (pom0_of W) (pom0_of W) (fun _ h => by cases h) (fun _ h => by cases h) (fun _ h => by cases h) (fun _ h => by cases h)
  rwa [decide_eq_true rfl] at h1
 have HTW : Hid (LightP p → mayP p = true → T.kids.length ≤ 8 ∧ 0 < T.kids.length) := fun hL hM => by
  rw [hT]
  exact ⟨write_len p, List.length_pos_iff.2 (write_some hM)⟩
 have HRD : Hid (LightP p → mayP p = true → ∀ k ∈ T.kids, ∀ W kv, NodeOf W (.mk bProject [] (T.kids ++ [k]) []) (.slice none 0 0) kv → Calls Tryz.prog 13 #[.agg #[.string N, .slice none 0 0, kv, .string ⟨#[]⟩]] W fun e w' => e = .returned (.tuple #[.agg #[.bool false, .string ⟨#[]⟩, .string ⟨#[]⟩, .string ⟨#[]⟩, .string ⟨#[]⟩, .string ⟨#[]⟩, .string ⟨#[]⟩, .string ⟨#[]⟩, .slice none 0 0, .slice none 0 0, .slice none 0 0], .int .i64 20, .string (bs (two (sl bProject k.name)))]) ∧ Below W.heap.size W w') := fun hL hM k hk W kv h => by
  rw [hT] at hk h
  have h1 := readQ_any (twiceT p k) W (.slice none 0 0) kv h (mild_twice (hL.lt (may_props hM)) hk)
  rw [hN, hT]
  exact h1.mono fun e w' hO => ⟨hO.2.1 _ (twice_read hM hk), hO.1⟩
 obtain ⟨-, p1, p2, p3⟩ := hp
 obtain ⟨s1, s4, rfl⟩ := p1.shape
 obtain ⟨s2, s5, rfl⟩ := p2.shape
 obtain ⟨s3, s6, rfl⟩ := p3.shape
 have HTN2 : Hid (∃ p, T = writeT p) := Lib.hid ⟨p, hT⟩
 generalize hmay : mayP p = may at *
 clear hm hw0 p1 p2 p3 hmay hT hN hX
 obtain ⟨LP, hLP⟩ : ∃ Y : Prop, Y = LightP p := ⟨_, rfl⟩
 rw [← hLP] at HL1 HM2 HWR HRD HTW
 clear hLP
 unfold WriteG at HWR
 obtain ⟨dh, ⟨dx, dy, dz⟩, dg, da, dv, dk, dp, dm, dd⟩ := p
 simp only [pomC] at HL1 HM2 HWR ⊢
 generalize dp.length = lp at *
 generalize dm.length = lm at *
 generalize dd.length = ld at *
 go_enter Tryz.func6, Tryz.ntmps6
 go_upto_region 1 with fail
 refine wp_world ?_
 intro W hW
 have x1 : Box W w.heap.size [.bool dh, .string dx, .string dy, .string dz, .string dg, .string da, .string dv, .string dk, .slice s1 lp s4, .slice s2 lm s5, .slice s3 ld s6] := by rw [hW]; exact Box.new w [.bool dh, .string dx, .string dy, .string dz, .string dg, .string da, .string dv, .string dk, .slice s1 lp s4, .slice s2 lm s5, .slice s3 ld s6] _ _ rfl
 have hb : Below w.heap.size w W := by rw [hW]; exact (Below.refl _ w).alloc (Nat.le_refl _) _
 clear hW
 have HA := Lib.hid x1
 have HB := Lib.hid hb
 clear x1 hb
 obtain ⟨c0, c1, c2, c3, c4, c5, c6, c7, c8, c9, c10⟩ := bxc11 HA.out
 have cl := HA.out.lt
 go_wp2_with fail
 refine (HL1.out _ HB.out).mono ?_
 intro e w7 hO
 obtain ⟨b, rfl, hbt, hb7⟩ := hO
 have HBT := Lib.hid hbt
 have HA1 := Lib.hid (HA.out.below hb7 HA.out.lt)
 have HB1 := Lib.hid (HB.out.trans (hb7.mono HB.out.size))
 clear hbt hb7 HA HB HL1 c0 c1 c2 c3 c4 c5 c6 c7 c8 c9 c10 cl
 cases b with
 | false =>
  go_wp2_with fail
  refine (HLV.out _ HB1.out).mono ?_
  rintro e w8 ⟨rfl, hb8⟩
  have HB8 := Lib.hid (HB1.out.trans (hb8.mono HB1.out.size))
  clear hb8 HLV
  go_wp2
  go_ret
  exact ⟨rfl, HB8.out⟩
 | true =>
  have HLP := Lib.hid (HBT.out rfl)
  clear HBT
  obtain ⟨c0, c1, c2, c3, c4, c5, c6, c7, c8, c9, c10⟩ := bxc11 HA1.out
  have cl := HA1.out.lt
  go_wp2_with fail
  refine (HM2.out HLP.out _ HB1.out).mono ?_
  rintro e w2 ⟨rfl, hb2⟩
  have HA2 := Lib.hid (HA1.out.below hb2 HA1.out.lt)
  have HB2 := Lib.hid (HB1.out.trans (hb2.mono HB1.out.size))
  clear hb2 HA1 HB1 HM2 c0 c1 c2 c3 c4 c5 c6 c7 c8 c9 c10 cl
  cases may with
  | false =>
   go_wp2_with fail
   refine (HLV.out _ HB2.out).mono ?_
   rintro e w8 ⟨rfl, hb8⟩
   have HB8 := Lib.hid (HB2.out.trans (hb8.mono HB2.out.size))
   clear hb8 HLV
   go_wp2
   go_ret
   exact ⟨rfl, HB8.out⟩
  | true =>
   obtain ⟨c0, c1, c2, c3, c4, c5, c6, c7, c8, c9, c10⟩ := bxc11 HA2.out
   have cl := HA2.out.lt
   have htw := HTW.out HLP.out (by trivial)
   obtain ⟨TN, hTN⟩ : ∃ n, n = T.kids.length := ⟨_, rfl⟩
   rw [← hTN] at htw
   go_wp2_with fail
   refine (HWR.out HLP.out _ HB2.out).mono ?_
   rintro e w3 ⟨ko, kc, rfl, hn3, hb3⟩
   have HB3 := Lib.hid (HB2.out.trans (hb3.mono HB2.out.size))
   have HN3 := Lib.hid hn3
   clear hn3 hb3 HA2 HB2 HWR c0 c1 c2 c3 c4 c5 c6 c7 c8 c9 c10 cl
   rw [← hTN] at HN3 ⊢
   have HTN := Lib.hid hTN
   clear hTN
   go_upto_region 4 with fail
   refine wp_world ?_
   intro W4 hW4
   have x4 : Box W4 w3.heap.size [.string N, .slice none 0 0, .slice ko TN kc, .string X] := by rw [hW4]; exact Box.new w3 [.string N, .slice none 0 0, .slice ko TN kc, .string X] _ _ rfl
   have hb4 : Below w3.heap.size w3 W4 := by rw [hW4]; exact (Below.refl _ w3).alloc (Nat.le_refl _) _
   clear hW4
   have HE4 := Lib.hid x4
   have HB4 := Lib.hid (HB3.out.trans (hb4.mono HB3.out.size))
   have HN4 := Lib.hid (HN3.out.later hb4)
   clear x4 hb4 HB3 HN3
   obtain ⟨n0, n1, n2, n3⟩ := bxc4 HE4.out
   have nl := HE4.out.lt
   have htn0 : (((TN : Nat) : Int) == 0) = false := by simp; omega
   go_upto_region 6 with fail
   obtain ⟨j, hj, hnj⟩ : ∃ j : Nat, j < TN ∧ n.tmod (TN : Int) = j := ⟨(n.tmod (TN : Int)).toNat, by have := Int.tmod_lt_of_pos n (show (0 : Int) < TN by omega); have := Int.tmod_nonneg (TN : Int) hn0; omega, by have := Int.tmod_nonneg (TN : Int) hn0; omega⟩
   obtain ⟨KL, hKL, -, hslX, hnodes⟩ := HN4.out.parts
   have hsl := hslX.slice
   have hlen : KL.length = TN := by rw [HTN.out, ← hKL, List.length_map]
   obtain ⟨y, hyj⟩ : ∃ y, KL[j]? = some y := ⟨KL[j]'(by omega), List.getElem?_eq_getElem _⟩
   have hym : y ∈ KL := List.mem_of_getElem? hyj
   obtain ⟨ks, xo, xc, yo, yc, rfl⟩ := trv_shape (hnodes _ hym)
   obtain ⟨ko', kc', e5, -, -, -, h4⟩ := hsl
   have e4 : Value.slice ko TN kc = .slice ko' KL.length kc' := e5
   clear e5
   simp only [Value.slice.injEq] at e4
   obtain ⟨rfl, -, rfl⟩ := e4
   obtain ⟨g, o, rfl, hg, hcell⟩ := h4 j _ hyj
   have k0 : W4.cell? ⟨g, o + j * 4, none⟩ = some (.string (bs ks.name)) := hcell 0 _ rfl
   have k1 : W4.cell? ⟨g, o + j * 4 + 1, none⟩ = some (.slice xo ks.attrs.length xc) := hcell 1 _ rfl
   have k2 : W4.cell? ⟨g, o + j * 4 + 2, none⟩ = some (.slice yo ks.kids.length yc) := hcell 2 _ rfl
   have k3 : W4.cell? ⟨g, o + j * 4 + 3, none⟩ = some (.string (bs ks.text)) := hcell 3 _ rfl
   generalize hal : ks.attrs.length = al at *
   generalize hkl : ks.kids.length = kl at *
   clear hal hkl
   have HKM := Lib.hid (show ks ∈ T.kids from by rw [← hKL]; exact List.mem_map.2 ⟨_, hym, rfl⟩)
   have HKL := Lib.hid hKL
   have HND := Lib.hid hnodes
   have HSX := Lib.hid hslX
   have HLN := Lib.hid hlen
   have HYJ := Lib.hid hym
   have HONE : Hid (∀ y ∈ KL, ∀ u ∈ trC y, u.oneCell' = true) := Lib.hid fun y hy => by
    obtain ⟨⟨n9, a9, k9, x9⟩, q1, q2, q3, q4, rfl⟩ := trv_shape (HND.out _ hy)
    exact fun u hu => tr_one _ _ _ _ _ _ _ _ _ _ u hu
   have HBY0 : Hid ((([] : List TrV).length + KL.length) * 80 ≤ 140737488355328) := Lib.hid (by rw [hlen]; simp; omega)
   have HBY1 : Hid ((KL.length + 1) * 80 ≤ 140737488355328) := Lib.hid (by rw [hlen]; omega)
   clear hKL hslX hnodes hlen hyj hym h4 hcell
   have hjI : (j : Int) < (TN : Int) := by omega
   have hwr : IntKind.u64.wrap (TN : Int) = (TN : Int) := IntWalk.u64_in _ (by omega)
   have hwj : IntKind.i64.wrap (j : Int) = (j : Int) := IntWalk.i64_in _ (by omega)
   have hwu : IntKind.u64.wrap (j : Int) = (j : Int) := IntWalk.u64_in _ (by omega)
   have htz : ¬ ((TN : Int) = 0) := by omega
   go_big_region
   go_upto_region 8 with fail
   refine wp_world ?_
   intro V8 hV8
   have hb48 : Below W4.heap.size W4 V8 := by rw [hV8]; exact (belowN ((Below.refl _ W4).alloc (Nat.le_refl _) _) 1).alloc (by simp) _
   have HK8 : Hid (Box V8 W4.heap.size [.string (bs ks.name), .slice xo al xc, .slice yo kl yc, .string (bs ks.text)]) := by show Box _ _ _; rw [hV8]; exact ((Box.new W4 [.string (bs ks.name), .slice xo al xc, .slice yo kl yc, .string (bs ks.text)] _ _ rfl).drewN 1).alloc _
   have HT8 : Hid (Box V8 (W4.heap.size + 1) [.string N, .slice none 0 0, .slice none 0 0, .string ⟨#[]⟩]) := by show Box _ _ _; rw [hV8]; exact (Box.new (W4.alloc _) [.string N, .slice none 0 0, .slice none 0 0, .string ⟨#[]⟩] _ _ (by simp)).drewN 1
   have HE8 := Lib.hid (HE4.out.below hb48 HE4.out.lt)
   have HSL := Lib.hid (HSX.out.slice.below hb48)
   have HB84 := Lib.hid hb48
   clear hV8 hb48 HE4 HSX k0 k1 k2 k3 n0 n1 n2 n3 nl htz hwu hwj hwr hjI htn0
   refine wp_region_flags0 (t8J w3.heap.size (W4.heap.size + 1) (.slice (some ⟨g, o, none⟩) TN kc) (.string (bs ks.name)) (.slice xo al xc) (.slice yo kl yc) (.string (bs ks.text)) KL N (ks, .slice xo al xc, .slice yo kl yc) V8 W4 _ _ _ _ _ _ _ _ _ _ _ _ _ _ _ _ _ _ _ _ _ _ _ _ _ _ _ _ _ _ _ _ _ _ _ _ _ _ _ _ _ _ _ _ _ _ _ _ _ _ _ _ _ _ _ _ _ _ _ _ _ _ _ _) (by kernel_rfl) 10 rfl (by kernel_rfl) ⟨false, false, false, false, false, false, false, false, false, false, none, 0, 0, 0, 0, 0, rfl, rfl, Lib.hid (by simp), Lib.hid (by simp), Lib.hid (by simp), Lib.hid (by simp), Lib.hid (by simp), Lib.hid (by simp), Lib.hid (by simp), fun h0 => belowN (Below.refl _ _) 1, by simp, by simp, by simp, by simp⟩ ?fin ?step
   case fin =>
    rintro a' w' ⟨f0, f1, f2, f3, f4, f5, f6, f7, f8, f9, o1, n1, c1, H, g7, c7, hl, rfl, ch1, ch3, ch4, ch6, ch7, ch8, ch9, hB, r4, r6, r7, r9⟩
    have hl' : [true, true, true, true, true, true, true, true, true, true] = [f0, f1, f2, f3, f4, f5, f6, f7, f8, f9] := congrArg Array.toList hl
    simp only [List.cons.injEq, and_true] at hl'
    obtain ⟨rfl, rfl, rfl, rfl, rfl, rfl, rfl, rfl, rfl, rfl⟩ := hl'
    unfold t8Upd
    simp only [cond_true]
    have hh9 := r9 rfl
    have HN9 := Lib.hid (NodeX.mk (X := fun _ => False) (n := bProject) (ats := []) (ks := T.kids ++ [ks]) (x := []) (KL ++ [(ks, .slice xo al xc, .slice yo kl yc)]) SliceX.nil (by rw [List.map_append, HKL.out]; rfl) (hh9.1.slice trC_len).toX (fun z hz => (HND.out z ((List.mem_append.1 hz).elim id (fun h => by rw [List.mem_singleton.1 h]; exact HYJ.out))).later hh9.2.2.2))
    have HT9 := Lib.hid hh9.2.1
    have HB9 := Lib.hid (HB4.out.trans (hh9.2.2.2.mono HB4.out.size))
    have HK9 : Hid (Box w' W4.heap.size [.string (bs ks.name), .slice xo al xc, .slice yo kl yc, .string (bs ks.text)]) := hh9.2.2.1
    clear hh9 ch1 ch3 ch4 ch6 ch7 ch8 ch9 hB r4 r6 r7 r9
    have HNM := Lib.hid (kid_short T ks HTN2.out HKM.out)
    obtain ⟨nm, hnm⟩ : ∃ m, m = bs ks.name := ⟨_, rfl⟩
    obtain ⟨Z, hZ⟩ : ∃ Z, Z = bs (two (sl bProject ks.name)) := ⟨_, rfl⟩
    have hx : (((⟨#[112, 114, 111, 106, 101, 99, 116, 47]⟩ : S) ++ nm) ++ ⟨#[91, 50, 93]⟩ : S) = Z := by
     rw [hnm, hZ]
     show ((bs [112, 114, 111, 106, 101, 99, 116, 47] ++ bs ks.name) ++ bs [91, 50, 93] : S) = _
     rw [bs_append, bs_append]
     rfl
    have hs1 : ¬ 9223372036854775807 < 8 + nm.size := by rw [hnm, bs_size]; have := HNM.out; omega
    have hs2 : ¬ 9223372036854775807 < 8 + nm.size + 3 := by rw [hnm, bs_size]; have := HNM.out; omega
    have HXE := Lib.hid hx
    have HS1 := Lib.hid hs1
    have HS2 := Lib.hid hs2
    have HRD9 := Lib.hid (HRD.out HLP.out (by trivial) ks HKM.out _ _ HN9.out)
    rw [← hZ] at HRD9
    rw [← hnm] at HK9 ⊢
    clear hx hs1 hs2 hZ HRD hnm
    obtain ⟨m0, m1, m2, m3⟩ := bxc4 HT9.out
    have ml := HT9.out.lt
    go_wp2_with fail
    refine HRD9.out.mono ?_
    rintro e w10 ⟨rfl, hb10⟩
    have HK10 := Lib.hid (HK9.out.below hb10 HK9.out.lt)
    have HB10 := Lib.hid (HB9.out.trans (hb10.mono HB9.out.size))
    clear hb10 HT9 HK9 HB9 HRD9 HN9 m0 m1 m2 m3 ml
    go_upto_region 10 with fail
    refine wp_world ?_
    intro W11 hW11
    have x11 : Box W11 w10.heap.size [.bool false, .string ⟨#[]⟩, .string ⟨#[]⟩, .string ⟨#[]⟩, .string ⟨#[]⟩, .string ⟨#[]⟩, .string ⟨#[]⟩, .string ⟨#[]⟩, .slice none 0 0, .slice none 0 0, .slice none 0 0] := by rw [hW11]; exact Box.new w10 [.bool false, .string ⟨#[]⟩, .string ⟨#[]⟩, .string ⟨#[]⟩, .string ⟨#[]⟩, .string ⟨#[]⟩, .string ⟨#[]⟩, .string ⟨#[]⟩, .slice none 0 0, .slice none 0 0, .slice none 0 0] _ _ rfl
    have hb11 : Below w10.heap.size w10 W11 := by rw [hW11]; exact (Below.refl _ w10).alloc (Nat.le_refl _) _
    clear hW11
    have HZ11 := Lib.hid x11
    have HK11 := Lib.hid (HK10.out.below hb11 HK10.out.lt)
    have HB11 := Lib.hid (HB10.out.trans (hb11.mono HB10.out.size))
    clear x11 hb11 HK10 HB10
    have hx := HXE.out
    have hs1 := HS1.out
    have hs2 := HS2.out
    obtain ⟨z0, z1, z2, z3, z4, z5, z6, z7, z8, z9, z10⟩ := bxc11 HZ11.out
    have zl := HZ11.out.lt
    obtain ⟨k0, k1, k2, k3⟩ := bxc4 HK11.out
    have kl := HK11.out.lt
    go_wp2_with fail
    refine (HSZ.out _).mono ?_
    rintro e w12 ⟨rfl, hb12⟩
    have HB12 := Lib.hid (HB11.out.trans (hb12.mono HB11.out.size))
    clear hb12 HZ11 HK11 HB11 hx hs1 hs2 z0 z1 z2 z3 z4 z5 z6 z7 z8 z9 z10 zl k0 k1 k2 k3 kl
    go_wp2_with fail
    refine (HLV.out _ HB12.out).mono ?_
    rintro e w8 ⟨rfl, hb8⟩
    have HB8 := Lib.hid (HB12.out.trans (hb8.mono HB12.out.size))
    clear hb8 HLV
    go_wp2
    go_ret
    exact ⟨rfl, HB8.out⟩
   case step =>
    rintro listed a' w' ⟨f0, f1, f2, f3, f4, f5, f6, f7, f8, f9, o1, n1, c1, H, g7, c7, rfl, rfl, ch1, ch3, ch4, ch6, ch7, ch8, ch9, hB, r4, r6, r7, r9⟩ i hi
    rw [mem_ready] at hi
    obtain ⟨hu, o, ho, ha⟩ := hi
    have hi8 : i < 10 := (Array.getElem?_eq_some_iff.1 ho).1
    rcases (by omega : i = 0 ∨ i = 1 ∨ i = 2 ∨ i = 3 ∨ i = 4 ∨ i = 5 ∨ i = 6 ∨ i = 7 ∨ i = 8 ∨ i = 9) with rfl | rfl | rfl | rfl | rfl | rfl | rfl | rfl | rfl | rfl
    · have ho' := ho
      simp at hu ho
      subst hu ho
      clear ha
      have e1 : f1 = false := Bool.eq_false_iff.2 fun h => Bool.false_ne_true ((ch1.out h))
      have e4 : f4 = false := Bool.eq_false_iff.2 fun h => Bool.false_ne_true ((ch1.out (ch4.out h).1))
      have e7 : f7 = false := Bool.eq_false_iff.2 fun h => Bool.false_ne_true ((ch1.out (ch4.out (ch7.out h).1).1))
      have e8 : f8 = false := Bool.eq_false_iff.2 fun h => Bool.false_ne_true ((ch8.out h).1)
      have e9 : f9 = false := Bool.eq_false_iff.2 fun h => Bool.false_ne_true ((ch9.out h).1)
      subst e1 e4 e7 e8 e9
      refine .inl ?_
      unfold t8Upd Oper.wp
      go_simp
      exact ⟨true, false, f2, f3, false, f5, f6, false, false, false, o1, n1, c1, H, g7, c7, rfl, rfl, Lib.hid (by simp), ch3, Lib.hid (by simp), ch6, Lib.hid (by simp), Lib.hid (by simp), Lib.hid (by simp), hB, by simp, r6, by simp, by simp⟩
    · have ho' := ho
      simp at hu ho
      subst hu ho
      simp [Region.binds] at ha
      obtain rfl : f0 = true := by simp only [ha]
      clear ha
      have e4 : f4 = false := Bool.eq_false_iff.2 fun h => Bool.false_ne_true ((ch4.out h).1)
      have e7 : f7 = false := Bool.eq_false_iff.2 fun h => Bool.false_ne_true ((ch4.out (ch7.out h).1).1)
      have e8 : f8 = false := Bool.eq_false_iff.2 fun h => Bool.false_ne_true ((ch8.out h).2.1)
      have e9 : f9 = false := Bool.eq_false_iff.2 fun h => Bool.false_ne_true ((ch9.out h).2.1)
      subst e4 e7 e8 e9
      have hB1 := hB rfl
      have hS1 := hB1.size
      have k7 := (hB1.cell (p := ⟨W4.heap.size + 1, 2, none⟩) (by exact HT8.out.lt)).trans (HT8.out.cell 2 _ rfl)
      have kl7 := Nat.lt_of_lt_of_le HT8.out.lt hS1
      refine .inl ?_
      unfold t8Upd Oper.wp
      go_simp
      exact ⟨true, true, f2, f3, false, f5, f6, false, false, false, o1, n1, c1, H, g7, c7, rfl, rfl, Lib.hid (by simp), ch3, Lib.hid (by simp), ch6, Lib.hid (by simp), Lib.hid (by simp), Lib.hid (by simp), hB, by simp, r6, by simp, by simp⟩
    · have ho' := ho
      simp at hu ho
      subst hu ho
      clear ha
      have e3 : f3 = false := Bool.eq_false_iff.2 fun h => Bool.false_ne_true ((ch3.out h))
      have e4 : f4 = false := Bool.eq_false_iff.2 fun h => Bool.false_ne_true ((ch3.out (ch4.out h).2))
      have e7 : f7 = false := Bool.eq_false_iff.2 fun h => Bool.false_ne_true ((ch3.out (ch4.out (ch7.out h).1).2))
      have e8 : f8 = false := Bool.eq_false_iff.2 fun h => Bool.false_ne_true ((ch8.out h).2.2.1)
      have e9 : f9 = false := Bool.eq_false_iff.2 fun h => Bool.false_ne_true ((ch9.out h).2.2.1)
      subst e3 e4 e7 e8 e9
      refine .inl ?_
      unfold t8Upd Oper.wp
      go_simp
      exact ⟨f0, f1, true, false, false, f5, f6, false, false, false, o1, n1, c1, H, g7, c7, rfl, rfl, ch1, Lib.hid (by simp), Lib.hid (by simp), ch6, Lib.hid (by simp), Lib.hid (by simp), Lib.hid (by simp), hB, by simp, r6, by simp, by simp⟩
    · have ho' := ho
      simp at hu ho
      subst hu ho
      simp [Region.binds] at ha
      obtain rfl : f2 = true := by simp only [ha]
      clear ha
      have e4 : f4 = false := Bool.eq_false_iff.2 fun h => Bool.false_ne_true ((ch4.out h).2)
      have e7 : f7 = false := Bool.eq_false_iff.2 fun h => Bool.false_ne_true ((ch4.out (ch7.out h).1).2)
      have e8 : f8 = false := Bool.eq_false_iff.2 fun h => Bool.false_ne_true ((ch8.out h).2.2.2.1)
      have e9 : f9 = false := Bool.eq_false_iff.2 fun h => Bool.false_ne_true ((ch9.out h).2.2.2.1)
      subst e4 e7 e8 e9
      have hB1 := hB rfl
      have hS1 := hB1.size
      have k7 := (hB1.cell (p := ⟨w3.heap.size, 2, none⟩) (by exact HE8.out.lt)).trans (HE8.out.cell 2 _ rfl)
      have kl7 := Nat.lt_of_lt_of_le HE8.out.lt hS1
      refine .inl ?_
      unfold t8Upd Oper.wp
      go_simp
      exact ⟨f0, f1, true, true, false, f5, f6, false, false, false, o1, n1, c1, H, g7, c7, rfl, rfl, ch1, Lib.hid (by simp), Lib.hid (by simp), ch6, Lib.hid (by simp), Lib.hid (by simp), Lib.hid (by simp), hB, by simp, r6, by simp, by simp⟩
    · have ho' := ho
      simp at hu ho
      subst hu ho
      simp [Region.binds] at ha
      obtain rfl : f1 = true := by simp only [ha]
      obtain rfl : f3 = true := by simp only [ha]
      clear ha
      obtain rfl : f2 = true := (ch3.out rfl)
      obtain rfl : f0 = true := (ch1.out rfl)
      have e7 : f7 = false := Bool.eq_false_iff.2 fun h => Bool.false_ne_true ((ch7.out h).1)
      have e8 : f8 = false := Bool.eq_false_iff.2 fun h => Bool.false_ne_true ((ch8.out h).2.2.2.2.1)
      have e9 : f9 = false := Bool.eq_false_iff.2 fun h => Bool.false_ne_true ((ch9.out h).2.2.2.2.1)
      subst e7 e8 e9
      have hB1 := hB rfl
      have hS1 := hB1.size
      refine .inl ?_
      unfold t8Upd
      refine wp_append_slice w' (.tmp 41) (.tmp 43) 23 rfl V8.heap.size 25 Tryz.underlying23 info_node rfl (by decide) trC_len (.slice none 0 0) [] (by simp [Act.eval]) Owns.nil (.slice (some ⟨g, o, none⟩) TN kc) KL (by simp [Act.eval]) (HSL.out.below hB1) (fun y hy => HONE.out y hy) HBY0.out (by decide) hS1 ?_
      intro v1 w1 hown hgr _
      obtain ⟨ao4, ac4, rfl⟩ := hown.shape
      have hbn := below_none hgr
      exact ⟨true, true, true, true, true, f5, f6, false, false, false, ao4, KL.length, ac4, H, g7, c7, rfl, rfl, Lib.hid (by simp), Lib.hid (by simp), Lib.hid (by simp), ch6, Lib.hid (by simp), Lib.hid (by simp), Lib.hid (by simp), fun _ => hB1.trans (hbn.mono hS1), fun h0 h1 => hown, fun h h9 => lit_keep (r6 h h9) hbn, by simp, by simp⟩
    · have ho' := ho
      simp at hu ho
      subst hu ho
      clear ha
      have e6 : f6 = false := Bool.eq_false_iff.2 fun h => Bool.false_ne_true ((ch6.out h))
      have e7 : f7 = false := Bool.eq_false_iff.2 fun h => Bool.false_ne_true ((ch6.out (ch7.out h).2))
      have e8 : f8 = false := Bool.eq_false_iff.2 fun h => Bool.false_ne_true ((ch8.out h).2.2.2.2.2.1)
      have e9 : f9 = false := Bool.eq_false_iff.2 fun h => Bool.false_ne_true ((ch9.out h).2.2.2.2.2.1)
      subst e6 e7 e8 e9
      have hB1 := hB rfl
      have hS1 := hB1.size
      have k0 := (hB1.cell (p := ⟨W4.heap.size, 0, none⟩) (by exact HK8.out.lt)).trans (HK8.out.cell 0 _ rfl)
      have k1 := (hB1.cell (p := ⟨W4.heap.size, 1, none⟩) (by exact HK8.out.lt)).trans (HK8.out.cell 1 _ rfl)
      have k2 := (hB1.cell (p := ⟨W4.heap.size, 2, none⟩) (by exact HK8.out.lt)).trans (HK8.out.cell 2 _ rfl)
      have k3 := (hB1.cell (p := ⟨W4.heap.size, 3, none⟩) (by exact HK8.out.lt)).trans (HK8.out.cell 3 _ rfl)
      have kl7 := Nat.lt_of_lt_of_le HK8.out.lt hS1
      refine .inl ?_
      unfold t8Upd Oper.wp
      go_simp
      exact ⟨f0, f1, f2, f3, f4, true, false, false, false, false, o1, n1, c1, H, g7, c7, rfl, rfl, ch1, ch3, ch4, Lib.hid (by simp), Lib.hid (by simp), Lib.hid (by simp), Lib.hid (by simp), hB, r4, by simp, by simp, by simp⟩
    · have ho' := ho
      simp at hu ho
      subst hu ho
      simp [Region.binds] at ha
      obtain rfl : f5 = true := by simp only [ha]
      clear ha
      have e7 : f7 = false := Bool.eq_false_iff.2 fun h => Bool.false_ne_true ((ch7.out h).2)
      have e8 : f8 = false := Bool.eq_false_iff.2 fun h => Bool.false_ne_true ((ch8.out h).2.2.2.2.2.2.1)
      have e9 : f9 = false := Bool.eq_false_iff.2 fun h => Bool.false_ne_true ((ch9.out h).2.2.2.2.2.2.1)
      subst e7 e8 e9
      have hS := (hB rfl).size
      have hal := fun o => (Below.refl w'.heap.size w').alloc (Nat.le_refl w'.heap.size) o
      refine .inl ?_
      unfold t8Upd Oper.wp
      go_simp
      exact ⟨f0, f1, f2, f3, f4, true, true, false, false, false, o1, n1, c1, w'.heap.size, g7, c7, rfl, rfl, ch1, ch3, ch4, Lib.hid (by simp), Lib.hid (by simp), Lib.hid (by simp), Lib.hid (by simp), fun h0 => (hB h0).trans ((hal _).mono hS), fun h0 h1 => (r4 h0 h1).below (hal _), fun h0 h1 => ⟨by simp, lit_cells w' [.string (bs ks.name), .slice xo al xc, .slice yo kl yc, .string (bs ks.text)] _⟩, by simp, by simp⟩
    · have ho' := ho
      simp at hu ho
      subst hu ho
      simp [Region.binds] at ha
      obtain rfl : f4 = true := by simp only [ha]
      obtain rfl : f6 = true := by simp only [ha]
      clear ha
      obtain rfl : f5 = true := (ch6.out rfl)
      obtain rfl : f3 = true := (ch4.out rfl).2
      obtain rfl : f2 = true := (ch3.out (ch4.out rfl).2)
      obtain rfl : f1 = true := (ch4.out rfl).1
      obtain rfl : f0 = true := (ch1.out (ch4.out rfl).1)
      have e8 : f8 = false := Bool.eq_false_iff.2 fun h => Bool.false_ne_true ((ch8.out h).2.2.2.2.2.2.2)
      have e9 : f9 = false := Bool.eq_false_iff.2 fun h => Bool.false_ne_true ((ch9.out h).2.2.2.2.2.2.2.1)
      subst e8 e9
      have hB1 := hB rfl
      have hS1 := hB1.size
      have ho4 := r4 rfl rfl
      have hh6 := r6 rfl rfl
      refine .inl ?_
      unfold t8Upd
      refine wp_append_one rfl (.tmp 44) (.tmp 46) 23 rfl V8.heap.size 25 Tryz.underlying23 info_node rfl (by decide) trC_len (.slice o1 n1 c1) KL (by simp [Act.eval]) ho4 H (ks, .slice xo al xc, .slice yo kl yc) (by simp [Act.eval]) hh6.2 (HONE.out _ HYJ.out) HBY1.out (by decide) hS1 w'.heap.size rfl ?_
      intro g1 cap1 w1 hown hgr hloc hlt1
      exact ⟨true, true, true, true, true, true, true, true, false, false, o1, n1, c1, H, g1, cap1, rfl, rfl, Lib.hid (by simp), Lib.hid (by simp), Lib.hid (by simp), Lib.hid (by simp), Lib.hid (by simp), Lib.hid (by simp), Lib.hid (by simp), fun _ => hB1.trans (below_own hgr (fun g e => (ho4.lt g e).1) hS1), by simp, by simp, fun h0 h1 => hown, by simp⟩
    · have ho' := ho
      simp at hu ho
      subst hu ho
      simp [Region.binds] at ha
      obtain rfl : f0 = true := by simp only [ha]
      obtain rfl : f1 = true := by simp only [ha]
      obtain rfl : f2 = true := by simp only [ha]
      obtain rfl : f3 = true := by simp only [ha]
      obtain rfl : f4 = true := by simp only [ha]
      obtain rfl : f5 = true := by simp only [ha]
      obtain rfl : f6 = true := by simp only [ha]
      obtain rfl : f7 = true := by simp only [ha]
      clear ha
      have e9 : f9 = false := Bool.eq_false_iff.2 fun h => Bool.false_ne_true ((ch9.out h).2.2.2.2.2.2.2.2)
      subst e9
      refine .inl ?_
      unfold t8Upd Oper.wp
      go_simp
      exact ⟨true, true, true, true, true, true, true, true, true, false, o1, n1, c1, H, g7, c7, rfl, rfl, Lib.hid (by simp), Lib.hid (by simp), Lib.hid (by simp), Lib.hid (by simp), Lib.hid (by simp), Lib.hid (by simp), Lib.hid (by simp), hB, by simp, by simp, r7, by simp⟩
    · have ho' := ho
      simp at hu ho
      subst hu ho
      simp [Region.binds] at ha
      obtain rfl : f0 = true := by simp only [ha]
      obtain rfl : f1 = true := by simp only [ha]
      obtain rfl : f2 = true := by simp only [ha]
      obtain rfl : f3 = true := by simp only [ha]
      obtain rfl : f4 = true := by simp only [ha]
      obtain rfl : f5 = true := by simp only [ha]
      obtain rfl : f6 = true := by simp only [ha]
      obtain rfl : f7 = true := by simp only [ha]
      obtain rfl : f8 = true := by simp only [ha]
      clear ha
      have hB1 := hB rfl
      have hS1 := hB1.size
      have ho7 := r7 rfl rfl
      have hT9 := HT8.out.below hB1 HT8.out.lt
      have hK9 := HK8.out.below hB1 HK8.out.lt
      have z2 := hT9.cell 2 _ rfl
      have u2 := hT9.free 2
      have pl := hT9.lt
      refine .inl ?_
      unfold t8Upd Oper.wp
      go_simp
      exact ⟨true, true, true, true, true, true, true, true, true, true, o1, n1, c1, H, g7, c7, rfl, rfl, Lib.hid (by simp), Lib.hid (by simp), Lib.hid (by simp), Lib.hid (by simp), Lib.hid (by simp), Lib.hid (by simp), Lib.hid (by simp), by simp, by simp, by simp, by simp, fun h0 => ⟨ho7.keptR (setCell_grown _ _ _ _) HT8.out.lt, hT9.set 2 _, hK9.grown (setCell_grown _ _ _ _) (by simp), (HB84.out.trans (hB1.mono HB84.out.size)).setCell (by simp) _⟩⟩

end Go.Proofs.YtbbbfjcikhpmbaaGreat
