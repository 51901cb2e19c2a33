/- What a written project's tree says: plain laws on trees; no program in sight. -/
import Derived.Test.YtbbbfjcikhpmbaaGreatJF21
import Derived.Test.YtbbbfjcikhpmbaaGreatJF22
import Derived.Test.YtbbbfjcikhpmbaaGreatJF19
import Derived.Laws.EntriesVeiled
import Derived.WalkSpells
import Derived.Test.YtbbbfjcikhpmbaaGreatJF11
import Derived.Test.YtbbbfjcikhpmbaaGreatProg
import Derived.Test.YtbbbfjcikhpmbaaGreatJF18
import Derived.Test.YtbbbfjcikhpmbaaGreatJF13
import Derived.Test.YtbbbfjcikhpmbaaGreatJF08

namespace Go.Proofs.YtbbbfjcikhpmbaaGreat
open Go Go.RowKit

theorem kidsF_app (m : Bs) (a b : List Tr) : kidsF m (a ++ b) = kidsF m a ++ kidsF m b := List.filter_append ..
theorem leafT_name {n : Bs} {s : S} {t : Tr} (h : t ∈ leafT n s) : t.name = n := by
 unfold leafT at h
 split at h
 · cases h
 · obtain rfl := List.mem_singleton.1 h; rfl
theorem branchT_name {n : Bs} {l : List Tr} {t : Tr} (h : t ∈ branchT n l) : t.name = n := by
 unfold branchT at h
 split at h
 · cases h
 · obtain rfl := List.mem_singleton.1 h; rfl
/-- All of a list have one name. -/
def Named (n : Bs) (l : List Tr) : Prop := ∀ t ∈ l, t.name = n
theorem named_leaf (n : Bs) (s : S) : Named n (leafT n s) := fun _ h => leafT_name h
theorem named_branch (n : Bs) (l : List Tr) : Named n (branchT n l) := fun _ h => branchT_name h
theorem Named.same {n : Bs} {l : List Tr} (h : Named n l) (hn : n ≠ []) : kidsF n l = l := by
 unfold kidsF
 rw [List.filter_eq_self]
 intro t ht
 have := h t ht
 unfold isKid
 rw [this]
 simp [hn]
theorem Named.other {n m : Bs} {l : List Tr} (h : Named n l) (hm : m ≠ []) (hnm : n ≠ m) : kidsF m l = [] := by
 unfold kidsF
 rw [List.filter_eq_nil_iff]
 intro t ht
 have := h t ht
 unfold isKid
 rw [this]
 simp [hm, hnm]
theorem bs_empty (s : S) : s.toList.isEmpty = s.data.toList.isEmpty := by
 have h := empty_data s
 rw [h, ← size_data]
 cases s.data.toList <;> simp
/-- What a text element says. -/
theorem leaf_text (n : Bs) (x : Bs) : textV (.mk n [] [.mk [] [] [] x] []) = trimB x ∧ kidsF [] [(.mk [] [] [] x : Tr)] = [] := by
 refine ⟨?_, rfl⟩
 unfold textV
 show trimB (x ++ []) = _
 rw [List.append_nil]
theorem word_leaf {t : Tr} {m : Bs} {s : S} (hk : kidsF m t.kids = leafT m s) (hs : okW s true = true) : wordV t m = s.data.toList ∧ ∀ wh must r, (must = true → s.toList.isEmpty = false) → (s.toList.isEmpty = false → r s.data.toList = true) → wordE t wh m must r = none := by
 unfold okW at hs
 simp only [Bool.and_eq_true, decide_eq_true_eq] at hs
 obtain ⟨-, h2, h3, -⟩ := hs
 have hone : oneV t m = (leafT m s).head? := by unfold oneV; rw [hk]
 have hmany : ∀ wh, manyE t wh m = none := fun wh => by
  unfold manyE
  rw [hk]
  have := leafT_len m s
  rw [if_neg (by omega)]
 cases he : s.toList.isEmpty with
 | true =>
  have ho : oneV t m = none := by rw [hone]; unfold leafT; rw [he]; rfl
  have hd : s.data.toList = [] := by
   rw [bs_empty] at he
   simpa using he
  refine ⟨by unfold wordV; rw [ho, hd], fun wh must r h _ => ?_⟩
  unfold wordE
  rw [hmany, ho]
  cases must with
  | true => cases h rfl
  | false => rfl
 | false =>
  have ho : oneV t m = some (.mk m [] [.mk [] [] [] s.data.toList] []) := by rw [hone]; unfold leafT; rw [he]; rfl
  obtain ⟨ht, hk0⟩ := leaf_text m s.data.toList
  refine ⟨by unfold wordV; rw [ho]; simp only [ht, h3], fun wh must r _ hr => ?_⟩
  unfold wordE
  rw [hmany, ho]
  simp only [ht, h3, hr rfl, Option.none_or, if_true]
  have hb : textBad (.mk m [] [.mk [] [] [] s.data.toList] []) false = false := by
   unfold textBad
   have h1 : trimB (textF [(.mk [] [] [] s.data.toList : Tr)]) = s.data.toList := by
    show trimB (s.data.toList ++ []) = _
    rw [List.append_nil, h3]
   show (!(kidsF [] [(.mk [] [] [] s.data.toList : Tr)]).isEmpty || decide (1024 < (trimB (textF [(.mk [] [] [] s.data.toList : Tr)])).length) || ((trimB (textF [(.mk [] [] [] s.data.toList : Tr)])).isEmpty && !false)) = false
   rw [h1, hk0]
   rw [bs_empty] at he
   rw [decide_eq_false (by rw [size_data]; omega)]
   simp [he]
  unfold textE
  rw [hb]
  rfl
theorem okW_of {s : S} {b : Bool} (h : okW s b = true) : okW s true = true := by
 unfold okW at h ⊢
 simp only [Bool.and_eq_true, decide_eq_true_eq, Bool.true_or, and_true] at h ⊢
 exact ⟨h.1, h.2.1, h.2.2.1⟩
theorem okW_ne {s : S} (h : okW s false = true) : s.toList.isEmpty = false := by
 unfold okW at h
 simp only [Bool.and_eq_true, Bool.false_or, Bool.not_eq_true'] at h
 exact h.2.2.2
theorem eachE_none {f : Tr → Bs → Option Er} : ∀ {l : List Tr} {w : Bs} {i : Nat}, (∀ t ∈ l, ∀ w, f t w = none) → eachE f w l i = none
 | [], _, _, _ => rfl
 | t :: l, w, i, h => by
  rw [eachE, h t (by simp), eachE_none (fun u hu => h u (by simp [hu]))]
  rfl
/-- Texts of one kind of bytes, of which none is blank, are as they were read. -/
theorem trim_id {p : UInt8 → Bool} (hp : ∀ c, p c = true → cBlank c = false) {l : Bs} (h : l.all p = true) : trimB l = l := by
 have h1 : ∀ (l : Bs), (∀ c ∈ l, cBlank c = false) → l.dropWhile cBlank = l := fun l hl => by
  cases l with
  | nil => rfl
  | cons c l => rw [List.dropWhile_cons, hl c (by simp)]; rfl
 rw [List.all_eq_true] at h
 unfold trimB
 rw [h1 l (fun c hc => hp c (h c hc)), h1 l.reverse (fun c hc => hp c (h c (by simpa using hc))), List.reverse_reverse]
theorem byte_ok {c : UInt8} (h : verByte c = true) : cText c = true ∧ cBlank c = false := by
 rw [verByte_iff] at h
 unfold cText cBlank
 refine ⟨?_, ?_⟩
 · simp; omega
 · simp; omega
theorem id_ver {c : UInt8} (h : idByte c = true) : verByte c = true := by unfold verByte; rw [h]; rfl
theorem okW_ver {s : S} (h : s.data.toList.all verByte = true) (h2 : s.size ≤ 64) : okW s true = true := by
 unfold okW
 rw [trim_id (fun c hc => (byte_ok hc).2) h]
 have h3 : okText s.data.toList = true := by
  unfold okText
  rw [List.all_eq_true] at h ⊢
  exact fun c hc => (byte_ok (h c hc)).1
 rw [h3, decide_eq_true (show s.size ≤ 1024 by omega)]
 simp
theorem isId_okW {s : S} (h : isIdB s = true) : okW s true = true ∧ s.toList.isEmpty = false := by
 unfold isIdB at h
 simp only [Bool.and_eq_true, decide_eq_true_eq] at h
 refine ⟨okW_ver ?_ h.2, ?_⟩
 · rw [List.all_eq_true]
   exact fun c hc => id_ver (List.all_eq_true.1 h.1.1 c hc)
 · rw [empty_data]; exact decide_eq_false (by omega)
theorem ver_okW {s : S} (h : verMay s = true) : okW s true = true ∧ s.toList.isEmpty = false := by
 unfold verMay at h
 simp only [Bool.and_eq_true, decide_eq_true_eq] at h
 exact ⟨okW_ver h.1.1 h.2, by rw [empty_data]; exact decide_eq_false (by omega)⟩
theorem part_okW {s : S} (h : isPartS s = true) : okW s true = true ∧ s.toList.isEmpty = false ∧ isPartQ s.data.toList = true := by
 have h3 : isPartQ s.data.toList = true := by rw [← isPart_bs, data_bs]; exact h
 unfold isPartS at h
 rw [Bool.or_eq_true] at h
 rcases h with h | h
 · have h4 := str_beq s ⟨#[42]⟩
   rw [show (⟨#[42]⟩ : S).toList = [42] from by decide +kernel, h] at h4
   have h5 : s = ⟨#[42]⟩ := of_decide_eq_true h4.symm
   subst h5
   exact ⟨by kernel_rfl, by decide +kernel, h3⟩
 · exact ⟨(isId_okW h).1, (isId_okW h).2, h3⟩
/-! The parts of a dependency. -/
theorem kids2 {n1 n2 m : Bs} {a b : List Tr} (h1 : Named n1 a) (h2 : Named n2 b) (hm : m ≠ []) : kidsF m (a ++ b) = (if n1 = m then a else []) ++ (if n2 = m then b else []) := by
 rw [kidsF_app]
 congr 1
 · by_cases h : n1 = m
   · subst h; rw [h1.same hm, if_pos rfl]
   · rw [h1.other hm h, if_neg h]
 · by_cases h : n2 = m
   · subst h; rw [h2.same hm, if_pos rfl]
   · rw [h2.other hm h, if_neg h]
theorem kids_one {n m : Bs} {a : List Tr} (h1 : Named n a) (hm : m ≠ []) : kidsF m a = if n = m then a else [] := by
 by_cases h : n = m
 · subst h; rw [h1.same hm, if_pos rfl]
 · rw [h1.other hm h, if_neg h]
theorem ex_read {x : Id} (h : patB x = true) : exclV (exT x) = x ∧ ∀ w, exclE (exT x) w = none := by
 obtain ⟨g, a⟩ := x
 unfold patB at h
 simp only [Bool.and_eq_true] at h
 obtain ⟨g1, g2, g3⟩ := part_okW h.1
 obtain ⟨a1, a2, a3⟩ := part_okW h.2
 have hg := word_leaf (t := exT ⟨g, a⟩) (m := bGroup) (s := g) (by show kidsF bGroup (leafT bGroup g ++ leafT bArtifact a) = _; rw [kids2 (named_leaf _ _) (named_leaf _ _) (by decide)]; simp [show bArtifact ≠ bGroup by decide]) g1
 have ha := word_leaf (t := exT ⟨g, a⟩) (m := bArtifact) (s := a) (by show kidsF bArtifact (leafT bGroup g ++ leafT bArtifact a) = _; rw [kids2 (named_leaf _ _) (named_leaf _ _) (by decide)]; simp [show bGroup ≠ bArtifact by decide]) a1
 refine ⟨?_, fun w => ?_⟩
 · unfold exclV
   rw [hg.1, ha.1, data_bs, data_bs]
 · unfold exclE
   rw [hg.2 w true isPartQ (fun _ => g2) (fun _ => g3), ha.2 w true isPartQ (fun _ => a2) (fun _ => a3)]
   rfl
/-- A branch, read. -/
theorem one_branch {t : Tr} {m : Bs} {l : List Tr} (hk : kidsF m t.kids = branchT m l) : (∀ w, manyE t w m = none) ∧ (l = [] → oneV t m = none) ∧ (l ≠ [] → oneV t m = some (.mk m [] l [])) := by
 refine ⟨fun w => ?_, fun h => ?_, fun h => ?_⟩
 · unfold manyE
   rw [hk, if_neg (by have := branchT_len m l; omega)]
 · unfold oneV; rw [hk, h]; rfl
 · unfold oneV; rw [hk]
   cases l with
   | nil => exact absurd rfl h
   | cons k r => rfl
theorem scope_text (n : Int) : okW (bs (wordB n)) true = true := by
 unfold wordB
 repeat' split
 all_goals kernel_rfl
theorem scope_back {n : Int} (h0 : 0 ≤ n) (h6 : n ≤ 6) : scopeW (wordB n) = n := by
 rcases (by omega : n = 0 ∨ n = 1 ∨ n = 2 ∨ n = 3 ∨ n = 4 ∨ n = 5 ∨ n = 6) with rfl | rfl | rfl | rfl | rfl | rfl | rfl <;> kernel_rfl
theorem opt_text (n : Int) : Named bOptional (optT n) := by
 unfold optT
 split
 · exact named_leaf _ _
 · split
   · exact named_leaf _ _
   · intro t h; cases h
/-- The kids of a dependency. -/
theorem dep_kids (d : Dep) (m : Bs) (hm : m ≠ []) : kidsF m (depT d).kids = (if bGroup = m then leafT bGroup d.group else []) ++ (if bArtifact = m then leafT bArtifact d.artifact else []) ++ (if bVersion = m then leafT bVersion d.version else []) ++ (if bType = m then leafT bType d.type else []) ++ (if bClassifier = m then leafT bClassifier d.classifier else []) ++
    (if bScope = m then leafT bScope (bs (wordB d.scope)) else []) ++ (if bOptional = m then optT d.opt else []) ++ (if bExclusions = m then branchT bExclusions (d.excl.map exT) else []) := by
 show kidsF m (_ ++ _ ++ _ ++ _ ++ _ ++ _ ++ _ ++ _ ++ _) = _
 simp only [kidsF_app, kids_one (named_leaf _ _) hm, kids_one (named_branch _ _) hm, kids_one (opt_text _) hm]
 rfl
/-- This tree has the fields of that dependency, whatever else it holds. -/
structure DepIs (d : Dep) (t : Tr) : Prop where
 g : kidsF bGroup t.kids = leafT bGroup d.group
 a : kidsF bArtifact t.kids = leafT bArtifact d.artifact
 v : kidsF bVersion t.kids = leafT bVersion d.version
 ty : kidsF bType t.kids = leafT bType d.type
 c : kidsF bClassifier t.kids = leafT bClassifier d.classifier
 s : kidsF bScope t.kids = leafT bScope (bs (wordB d.scope))
 o : kidsF bOptional t.kids = optT d.opt
 x : kidsF bExclusions t.kids = branchT bExclusions (d.excl.map exT)
theorem dep_is (d : Dep) : DepIs d (depT d) where
 g := by rw [dep_kids d _ (by decide)]; simp [show bArtifact ≠ bGroup by decide, show bVersion ≠ bGroup by decide, show bType ≠ bGroup by decide, show bClassifier ≠ bGroup by decide, show bScope ≠ bGroup by decide, show bOptional ≠ bGroup by decide, show bExclusions ≠ bGroup by decide]
 a := by rw [dep_kids d _ (by decide)]; simp [show bGroup ≠ bArtifact by decide, show bVersion ≠ bArtifact by decide, show bType ≠ bArtifact by decide, show bClassifier ≠ bArtifact by decide, show bScope ≠ bArtifact by decide, show bOptional ≠ bArtifact by decide, show bExclusions ≠ bArtifact by decide]
 v := by rw [dep_kids d _ (by decide)]; simp [show bGroup ≠ bVersion by decide, show bArtifact ≠ bVersion by decide, show bType ≠ bVersion by decide, show bClassifier ≠ bVersion by decide, show bScope ≠ bVersion by decide, show bOptional ≠ bVersion by decide, show bExclusions ≠ bVersion by decide]
 ty := by rw [dep_kids d _ (by decide)]; simp [show bGroup ≠ bType by decide, show bArtifact ≠ bType by decide, show bVersion ≠ bType by decide, show bClassifier ≠ bType by decide, show bScope ≠ bType by decide, show bOptional ≠ bType by decide, show bExclusions ≠ bType by decide]
 c := by rw [dep_kids d _ (by decide)]; simp [show bGroup ≠ bClassifier by decide, show bArtifact ≠ bClassifier by decide, show bVersion ≠ bClassifier by decide, show bType ≠ bClassifier by decide, show bScope ≠ bClassifier by decide, show bOptional ≠ bClassifier by decide, show bExclusions ≠ bClassifier by decide]
 s := by rw [dep_kids d _ (by decide)]; simp [show bGroup ≠ bScope by decide, show bArtifact ≠ bScope by decide, show bVersion ≠ bScope by decide, show bType ≠ bScope by decide, show bClassifier ≠ bScope by decide, show bOptional ≠ bScope by decide, show bExclusions ≠ bScope by decide]
 o := by rw [dep_kids d _ (by decide)]; simp [show bGroup ≠ bOptional by decide, show bArtifact ≠ bOptional by decide, show bVersion ≠ bOptional by decide, show bType ≠ bOptional by decide, show bClassifier ≠ bOptional by decide, show bScope ≠ bOptional by decide, show bExclusions ≠ bOptional by decide]
 x := by rw [dep_kids d _ (by decide)]; simp [show bGroup ≠ bExclusions by decide, show bArtifact ≠ bExclusions by decide, show bVersion ≠ bExclusions by decide, show bType ≠ bExclusions by decide, show bClassifier ≠ bExclusions by decide, show bScope ≠ bExclusions by decide, show bOptional ≠ bExclusions by decide]
theorem dep_read {m : Bool} {d : Dep} {t : Tr} (hi : DepIs d t) (h : mayD (if m then 6 else 5) d = true) : depV t = d ∧ ∀ w, depE m t w = none := by
 unfold mayD at h
 simp only [Bool.and_eq_true, decide_eq_true_eq] at h
 obtain ⟨hv, ht, hc, hx, hg, ha, hs0, hs1, ho0, ho1, hxl⟩ := h
 have hs6 : d.scope ≤ 6 := by cases m <;> simp at hs1 <;> omega
 have wg := word_leaf (t := t) (m := bGroup) (s := d.group) hi.g (okW_of hg)
 have wa := word_leaf (t := t) (m := bArtifact) (s := d.artifact) hi.a (okW_of ha)
 have wv := word_leaf (t := t) (m := bVersion) (s := d.version) hi.v hv
 have wt := word_leaf (t := t) (m := bType) (s := d.type) hi.ty ht
 have wc := word_leaf (t := t) (m := bClassifier) (s := d.classifier) hi.c hc
 have ws := word_leaf (t := t) (m := bScope) (s := bs (wordB d.scope)) hi.s (scope_text _)
 have ko : kidsF bOptional t.kids = optT d.opt := hi.o
 have kx : kidsF bExclusions t.kids = branchT bExclusions (d.excl.map exT) := hi.x
 have wo : optQ (wordV t bOptional) = d.opt ∧ ∀ w, wordE t w bOptional false isTruthB = none := by
  rcases (by omega : d.opt = 0 ∨ d.opt = 1 ∨ d.opt = 2) with e | e | e
  · rw [e] at ko
    have hn : kidsF bOptional t.kids = [] := ko
    have h1 : oneV t bOptional = none := by unfold oneV; rw [hn]; rfl
    refine ⟨by unfold wordV; rw [h1, e]; kernel_rfl, fun w => ?_⟩
    unfold wordE manyE
    rw [hn, h1]
    rfl
  · rw [e] at ko
    have hn : kidsF bOptional t.kids = leafT bOptional (bs bTrue) := ko
    have h1 := word_leaf hn (by kernel_rfl)
    exact ⟨by rw [h1.1, e]; kernel_rfl, fun w => h1.2 w false isTruthB (by simp) (fun _ => by kernel_rfl)⟩
  · rw [e] at ko
    have hn : kidsF bOptional t.kids = leafT bOptional (bs bFalse) := ko
    have h1 := word_leaf hn (by kernel_rfl)
    exact ⟨by rw [h1.1, e]; kernel_rfl, fun w => h1.2 w false isTruthB (by simp) (fun _ => by kernel_rfl)⟩
 obtain ⟨bx1, bx2, bx3⟩ := one_branch kx
 rw [List.all_eq_true] at hx
 have hnm : Named bExclusion (d.excl.map exT) := fun t h => by obtain ⟨y, -, rfl⟩ := List.mem_map.1 h; rfl
 have wx : exclsV t = d.excl ∧ ∀ w, exclsE t w = none := by
  by_cases he : d.excl = []
  · have h1 := bx2 (by rw [he]; rfl)
    exact ⟨by unfold exclsV; rw [h1, he], fun w => by unfold exclsE; rw [bx1, h1]; rfl⟩
  · have h1 := bx3 (by simpa using he)
    have h2 : kidsF bExclusion (d.excl.map exT) = d.excl.map exT := hnm.same (by decide)
    refine ⟨?_, fun w => ?_⟩
    · unfold exclsV
      rw [h1]
      show (kidsF bExclusion (d.excl.map exT)).map exclV = _
      rw [h2, List.map_map]
      conv => rhs; rw [← List.map_id d.excl]
      exact List.map_congr_left fun y hy => (ex_read (hx y hy)).1
    · unfold exclsE
      rw [bx1, h1]
      show Option.or none (listE exclE (.mk bExclusions [] (d.excl.map exT) []) (sl w bExclusions) bExclusion) = none
      unfold listE
      show Option.or none ((if 1024 < (kidsF bExclusion (d.excl.map exT)).length then some (2, sl w bExclusions) else none).or (eachE exclE (sl (sl w bExclusions) bExclusion) (kidsF bExclusion (d.excl.map exT)) 0)) = none
      rw [h2, if_neg (by rw [List.length_map]; omega), eachE_none (fun t ht w => by obtain ⟨y, hy, rfl⟩ := List.mem_map.1 ht; exact (ex_read (hx y hy)).2 w)]
      rfl
 refine ⟨?_, fun w => ?_⟩
 · unfold depV
   rw [wg.1, wa.1, wv.1, wt.1, wc.1, ws.1, wo.1, wx.1]
   simp only [data_bs, bs_data]
   rw [scope_back hs0 hs6]
 · unfold depE
   rw [wg.2 w true freeB (fun _ => okW_ne hg) (fun _ => rfl), wa.2 w true freeB (fun _ => okW_ne ha) (fun _ => rfl), wv.2 w false freeB (by simp) (fun _ => rfl), wt.2 w false freeB (by simp) (fun _ => rfl), wc.2 w false freeB (by simp) (fun _ => rfl),
    ws.2 w false (isScopeQ m) (by simp) (fun he => ?_), wo.2 w, wx.2 w]
   · rfl
   · rw [bs_data]
     unfold isScopeQ
     rw [scope_back hs0 hs6]
     have hs2 : d.scope ≠ 0 := fun e => by rw [e] at he; revert he; decide +kernel
     cases m with
     | true => simp [hs2]
     | false =>
      simp only [Bool.false_eq_true, if_false] at hs1
      have : d.scope ≠ 6 := by omega
      simp [hs2, this]

end Go.Proofs.YtbbbfjcikhpmbaaGreat

/- What a written project's tree says, whole, and of a tree like it; no program in sight. -/

namespace Go.Proofs.YtbbbfjcikhpmbaaGreat
open Go Go.RowKit

theorem one_none {t : Tr} {m : Bs} (hk : kidsF m t.kids = []) : (∀ w, manyE t w m = none) ∧ oneV t m = none :=
 ⟨fun w => by unfold manyE; rw [hk]; rfl, by unfold oneV; rw [hk]; rfl⟩
theorem one_some {t f : Tr} {m : Bs} (hk : kidsF m t.kids = [f]) : (∀ w, manyE t w m = none) ∧ oneV t m = some f :=
 ⟨fun w => by unfold manyE; rw [hk]; rfl, by unfold oneV; rw [hk]; rfl⟩
/-- This tree has those dependencies, whatever else it holds. -/
def DepsIs (ds : List Dep) (t : Tr) : Prop := (kidsF bDependencies t.kids = [] ∧ ds = []) ∨ ∃ f, ∃ L : List (Dep × Tr), kidsF bDependencies t.kids = [f] ∧ L.map (·.1) = ds ∧ kidsF bDependency f.kids = L.map (·.2) ∧ ∀ y ∈ L, DepIs y.1 y.2
theorem deps_read {m : Bool} {ds : List Dep} {t : Tr} (hi : DepsIs ds t) (h : ds.all (mayD (if m then 6 else 5)) = true) (hl : ds.length ≤ 1024) : depsV t = ds ∧ ∀ w, depsE m t w = none := by
 rcases hi with ⟨h1, rfl⟩ | ⟨f, L, h1, rfl, h2, h3⟩
 · obtain ⟨a, b⟩ := one_none h1
   exact ⟨by unfold depsV; rw [b], fun w => by unfold depsE; rw [a, b]; rfl⟩
 · obtain ⟨a, b⟩ := one_some h1
   rw [List.all_eq_true] at h
   have hd : ∀ y ∈ L, depV y.2 = y.1 ∧ ∀ w, depE m y.2 w = none := fun y hy => dep_read (h3 y hy) (h y.1 (List.mem_map.2 ⟨y, hy, rfl⟩))
   refine ⟨?_, fun w => ?_⟩
   · unfold depsV
     rw [b]
     show (kidsF bDependency f.kids).map depV = _
     rw [h2, List.map_map]
     exact List.map_congr_left fun y hy => (hd y hy).1
   · unfold depsE
     rw [a, b]
     show Option.or none ((if 1024 < (kidsF bDependency f.kids).length then some (2, sl w bDependencies) else none).or (eachE (depE m) (sl (sl w bDependencies) bDependency) (kidsF bDependency f.kids) 0)) = none
     rw [List.length_map] at hl
     rw [h2, if_neg (by rw [List.length_map]; omega), eachE_none (fun t ht w => by obtain ⟨y, hy, rfl⟩ := List.mem_map.1 ht; exact (hd y hy).2 w)]
     rfl
/-- A parent, read. -/
theorem parent_read {hp : Bool} {g : Gav} {t : Tr} (hk : kidsF bParent t.kids = parentL hp g) (h : parentB hp g = true) : parentV t = (hp, g) ∧ ∀ w, parentE t w = none := by
 cases hp with
 | false =>
  obtain ⟨a, b⟩ := one_none hk
  have hg : g = ⟨⟨#[]⟩, ⟨#[]⟩, ⟨#[]⟩⟩ := of_decide_eq_true h
  exact ⟨by unfold parentV; rw [b, hg], fun w => by unfold parentE; rw [a, b]; rfl⟩
 | true =>
  have h1 : gavMay g = true := h
  unfold gavMay at h1
  simp only [Bool.and_eq_true] at h1
  obtain ⟨⟨hg, ha⟩, hv⟩ := h1
  obtain ⟨g1, g2⟩ := isId_okW hg
  obtain ⟨a1, a2⟩ := isId_okW ha
  obtain ⟨v1, v2⟩ := ver_okW hv
  have hne : ([] ++ leafT bGroup g.group ++ leafT bArtifact g.artifact ++ leafT bVersion g.version) ≠ [] := by
   rw [show leafT bGroup g.group = [.mk bGroup [] [.mk [] [] [] g.group.data.toList] []] from by unfold leafT; rw [g2]; rfl]
   simp
  obtain ⟨a, -, b⟩ := one_branch (t := t) (m := bParent) (l := [] ++ leafT bGroup g.group ++ leafT bArtifact g.artifact ++ leafT bVersion g.version) hk
  have b := b hne
  obtain ⟨f, hf⟩ : ∃ f : Tr, f = .mk bParent [] ([] ++ leafT bGroup g.group ++ leafT bArtifact g.artifact ++ leafT bVersion g.version) [] := ⟨_, rfl⟩
  rw [← hf] at b
  have hfk : ∀ m, m ≠ [] → kidsF m f.kids = (if bGroup = m then leafT bGroup g.group else []) ++ (if bArtifact = m then leafT bArtifact g.artifact else []) ++ (if bVersion = m then leafT bVersion g.version else []) := fun m hm => by
   rw [hf]
   show kidsF m ([] ++ leafT bGroup g.group ++ leafT bArtifact g.artifact ++ leafT bVersion g.version) = _
   rw [List.nil_append]
   simp only [kidsF_app, kids_one (named_leaf _ _) hm]
  have wg := word_leaf (t := f) (m := bGroup) (s := g.group) (by rw [hfk _ (by decide)]; simp [show bArtifact ≠ bGroup by decide, show bVersion ≠ bGroup by decide]) g1
  have wa := word_leaf (t := f) (m := bArtifact) (s := g.artifact) (by rw [hfk _ (by decide)]; simp [show bGroup ≠ bArtifact by decide, show bVersion ≠ bArtifact by decide]) a1
  have wv := word_leaf (t := f) (m := bVersion) (s := g.version) (by rw [hfk _ (by decide)]; simp [show bGroup ≠ bVersion by decide, show bArtifact ≠ bVersion by decide]) v1
  refine ⟨?_, fun w => ?_⟩
  · unfold parentV
    rw [b]
    show (true, (⟨bs (wordV f bGroup), bs (wordV f bArtifact), bs (wordV f bVersion)⟩ : Gav)) = _
    rw [wg.1, wa.1, wv.1]
    simp only [data_bs]
  · unfold parentE
    rw [a, b]
    show Option.or none ((wordE f (sl w bParent) bGroup true isIdQ).or ((wordE f (sl w bParent) bArtifact true isIdQ).or (wordE f (sl w bParent) bVersion true verQ))) = none
    rw [wg.2 _ true isIdQ (fun _ => g2) (fun _ => by unfold isIdQ; rw [data_bs]; exact hg), wa.2 _ true isIdQ (fun _ => a2) (fun _ => by unfold isIdQ; rw [data_bs]; exact ha), wv.2 _ true verQ (fun _ => v2) (fun _ => by unfold verQ; rw [data_bs]; exact hv)]
    rfl
/-- A property, read. -/
theorem prop_text {x : Prp} (h : okW x.value true = true) : textV (propT x) = x.value.data.toList ∧ ∀ w, textE (propT x) w true = none := by
 unfold okW at h
 simp only [Bool.and_eq_true, decide_eq_true_eq] at h
 obtain ⟨-, h2, h3, -⟩ := h
 have h1 : trimB (textF (propT x).kids) = x.value.data.toList ∧ kidsF [] (propT x).kids = [] := by
  show trimB (textF (if x.value.toList.isEmpty then [] else [.mk [] [] [] x.value.data.toList])) = _ ∧ kidsF [] (if x.value.toList.isEmpty then [] else [.mk [] [] [] x.value.data.toList]) = _
  cases he : x.value.toList.isEmpty with
  | true =>
   rw [bs_empty] at he
   have : x.value.data.toList = [] := by simpa using he
   rw [this]; exact ⟨rfl, rfl⟩
  | false =>
   refine ⟨?_, rfl⟩
   show trimB (x.value.data.toList ++ []) = _
   rw [List.append_nil, h3]
 refine ⟨h1.1, fun w => ?_⟩
 have hb : textBad (propT x) true = false := by
  unfold textBad
  rw [h1.1, h1.2, decide_eq_false (by rw [size_data]; omega)]
  simp
 unfold textE
 rw [hb]
 rfl
theorem props_none {w : Bs} : ∀ {r d : List Prp}, propsGo r d = true → propsEgo w (r.map propT) (d.map propT) = none
 | [], _, _ => rfl
 | x :: r, d, h => by
  rw [propsGo] at h
  simp only [Bool.and_eq_true, Bool.not_eq_true'] at h
  obtain ⟨⟨h1, h2, h3⟩, h4⟩ := h
  show (if (d.map propT).any (fun y => decide (y.name = (propT x).name)) then some ((20 : Int), two (sl w (propT x).name)) else none).or ((textE (propT x) (sl w (propT x).name) true).or (propsEgo w (r.map propT) (d.map propT ++ [propT x]))) = none
  have h5 := props_none (w := w) h4
  rw [List.map_append] at h5
  have h6 : (d.map propT).any (fun y => decide (y.name = (propT x).name)) = false := by
   rw [List.any_map]
   unfold hasN at h1
   rw [← h1]
   congr 1
   funext y
   show decide (y.name.data.toList = x.name.data.toList) = (y.name.toList == x.name.toList)
   rw [str_beq]
   exact decide_eq_decide.2 (by rw [data_eq])
  rw [h6, (prop_text h3).2]
  exact h5
theorem props_ok {r : List Prp} : ∀ {d : List Prp}, propsGo r d = true → ∀ x ∈ r, okName x.name.data.toList = true ∧ okW x.value true = true := by
 induction r with
 | nil => intro d _ x hx; cases hx
 | cons y r ih =>
  intro d h x hx
  rw [propsGo] at h
  simp only [Bool.and_eq_true] at h
  rcases List.mem_cons.1 hx with rfl | hx
  · exact h.1.2
  · exact ih h.2 x hx
theorem props_read {ps : List Prp} {t : Tr} (hk : kidsF bProperties t.kids = branchT bProperties (ps.map propT)) (h : propsGo ps [] = true) (hl : ps.length ≤ 1024) : propsV t = ps ∧ ∀ w, propsE t w = none := by
 obtain ⟨a, b0, b⟩ := one_branch hk
 by_cases he : ps = []
 · subst he
   have b1 := b0 rfl
   exact ⟨by unfold propsV; rw [b1], fun w => by unfold propsE; rw [a, b1]; rfl⟩
 · have b1 := b (by simpa using he)
   have hok := props_ok h
   have hf : kidsF [] (ps.map propT) = ps.map propT := by
    unfold kidsF
    rw [List.filter_eq_self]
    intro t ht
    obtain ⟨x, hx, rfl⟩ := List.mem_map.1 ht
    have := (hok x hx).1
    unfold okName at this
    simp only [Bool.and_eq_true] at this
    unfold isKid
    show (!x.name.data.toList.isEmpty && (List.isEmpty ([] : Bs) || _)) = true
    rw [this.1]
    rfl
   refine ⟨?_, fun w => ?_⟩
   · unfold propsV
     rw [b1]
     show (kidsF [] (ps.map propT)).map prpV = _
     rw [hf, List.map_map]
     conv => rhs; rw [← List.map_id ps]
     refine List.map_congr_left fun x hx => ?_
     show (⟨bs x.name.data.toList, bs (textV (propT x))⟩ : Prp) = x
     rw [(prop_text (hok x hx).2).1]
     simp only [data_bs]
   · unfold propsE
     rw [a, b1]
     show Option.or none ((if 1024 < (kidsF [] (ps.map propT)).length then some (2, sl w bProperties) else none).or (propsEgo (sl w bProperties) (kidsF [] (ps.map propT)) [])) = none
     rw [hf, if_neg (by rw [List.length_map]; omega)]
     exact props_none h
/-- This tree has the fields of that project, whatever else it holds. -/
structure PomIs (p : Pom) (t : Tr) : Prop where
 name : t.name = bProject
 par : kidsF bParent t.kids = parentL p.hasParent p.parent
 g : kidsF bGroup t.kids = leafT bGroup p.group
 a : kidsF bArtifact t.kids = leafT bArtifact p.artifact
 v : kidsF bVersion t.kids = leafT bVersion p.version
 k : kidsF bPackaging t.kids = leafT bPackaging p.packaging
 props : kidsF bProperties t.kids = branchT bProperties (p.props.map propT)
 man : (kidsF bManagement t.kids = [] ∧ p.managed = []) ∨ ∃ f, kidsF bManagement t.kids = [f] ∧ DepsIs p.managed f
 deps : DepsIs p.deps t
theorem managed_read {ds : List Dep} {t : Tr} (hi : (kidsF bManagement t.kids = [] ∧ ds = []) ∨ ∃ f, kidsF bManagement t.kids = [f] ∧ DepsIs ds f) (h : ds.all (mayD 6) = true) (hl : ds.length ≤ 1024) : managedV t = ds ∧ ∀ w, managedE t w = none := by
 rcases hi with ⟨h1, rfl⟩ | ⟨f, h1, h2⟩
 · obtain ⟨a, b⟩ := one_none h1
   exact ⟨by unfold managedV; rw [b], fun w => by unfold managedE; rw [a, b]; rfl⟩
 · obtain ⟨a, b⟩ := one_some h1
   obtain ⟨c, d⟩ := deps_read (m := true) h2 h hl
   exact ⟨by unfold managedV; rw [b]; exact c, fun w => by unfold managedE; rw [a, b]; exact d _⟩
/-- What is read of a tree that has the fields of a project that may be. -/
theorem pom_read {p : Pom} {t : Tr} (hi : PomIs p t) (h : mayP p = true) : readV t = p ∧ readE t = none := by
 unfold mayP at h
 simp only [Bool.and_eq_true, decide_eq_true_eq] at h
 obtain ⟨hp, ⟨hg, ha, hv, hk⟩, hpl, hps, ⟨hm, hml⟩, hd, hdl⟩ := h
 have r1 := parent_read hi.par hp
 have r2 := word_leaf hi.g hg
 have r3 := word_leaf hi.a (okW_of ha)
 have r4 := word_leaf hi.v hv
 have r5 := word_leaf hi.k hk
 have r6 := props_read hi.props hps hpl
 have r7 := managed_read hi.man hm hml
 have r8 := deps_read (m := false) hi.deps hd hdl
 refine ⟨?_, ?_⟩
 · unfold readV
   rw [r1.1, r2.1, r3.1, r4.1, r5.1, r6.1, r7.1, r8.1]
   simp only [data_bs]
 · unfold readE
   rw [if_pos hi.name, r1.2, r2.2 _ false freeB (by simp) (fun _ => rfl), r3.2 _ true freeB (fun _ => okW_ne ha) (fun _ => rfl), r4.2 _ false freeB (by simp) (fun _ => rfl), r5.2 _ false freeB (by simp) (fun _ => rfl), r6.2, r7.2, r8.2]
   rfl
theorem deps_is {ds : List Dep} {t : Tr} (hk : kidsF bDependencies t.kids = depsT ds) : DepsIs ds t := by
 by_cases he : ds = []
 · subst he; exact .inl ⟨hk, rfl⟩
 · refine .inr ⟨.mk bDependencies [] (ds.map depT) [], ds.map fun d => (d, depT d), ?_, ?_, ?_, fun y hy => ?_⟩
   · rw [hk]; unfold depsT branchT
     cases ds with
     | nil => exact absurd rfl he
     | cons _ _ => rfl
   · rw [List.map_map]; exact List.map_id _
   · have : Named bDependency (ds.map depT) := fun t h => by obtain ⟨y, -, rfl⟩ := List.mem_map.1 h; rfl
     show kidsF bDependency (ds.map depT) = _
     rw [this.same (by decide), List.map_map]
     rfl
   · obtain ⟨d, -, rfl⟩ := List.mem_map.1 hy
     exact dep_is d
theorem par_named (hp : Bool) (g : Gav) : Named bParent (parentL hp g) := by
 unfold parentL
 split
 · exact named_branch _ _
 · intro t h; cases h
/-- The kids of a written project. -/
theorem write_kids (p : Pom) (m : Bs) (hm : m ≠ []) : kidsF m (writeT p).kids = (if bParent = m then parentL p.hasParent p.parent else []) ++ (if bGroup = m then leafT bGroup p.group else []) ++ (if bArtifact = m then leafT bArtifact p.artifact else []) ++ (if bVersion = m then leafT bVersion p.version else []) ++ (if bPackaging = m then leafT bPackaging p.packaging else []) ++
    (if bProperties = m then branchT bProperties (p.props.map propT) else []) ++ (if bManagement = m then branchT bManagement ([] ++ depsT p.managed) else []) ++ (if bDependencies = m then depsT p.deps else []) := by
 show kidsF m (_ ++ _ ++ _ ++ _ ++ _ ++ _ ++ _ ++ _) = _
 unfold depsT
 simp only [kidsF_app, kids_one (named_leaf _ _) hm, kids_one (named_branch _ _) hm, kids_one (par_named _ _) hm]
theorem write_is (p : Pom) : PomIs p (writeT p) where
 name := rfl
 par := by rw [write_kids p _ (by decide)]; simp [show bGroup ≠ bParent by decide, show bArtifact ≠ bParent by decide, show bVersion ≠ bParent by decide, show bPackaging ≠ bParent by decide, show bProperties ≠ bParent by decide, show bManagement ≠ bParent by decide, show bDependencies ≠ bParent by decide]
 g := by rw [write_kids p _ (by decide)]; simp [show bParent ≠ bGroup by decide, show bArtifact ≠ bGroup by decide, show bVersion ≠ bGroup by decide, show bPackaging ≠ bGroup by decide, show bProperties ≠ bGroup by decide, show bManagement ≠ bGroup by decide, show bDependencies ≠ bGroup by decide]
 a := by rw [write_kids p _ (by decide)]; simp [show bParent ≠ bArtifact by decide, show bGroup ≠ bArtifact by decide, show bVersion ≠ bArtifact by decide, show bPackaging ≠ bArtifact by decide, show bProperties ≠ bArtifact by decide, show bManagement ≠ bArtifact by decide, show bDependencies ≠ bArtifact by decide]
 v := by rw [write_kids p _ (by decide)]; simp [show bParent ≠ bVersion by decide, show bGroup ≠ bVersion by decide, show bArtifact ≠ bVersion by decide, show bPackaging ≠ bVersion by decide, show bProperties ≠ bVersion by decide, show bManagement ≠ bVersion by decide, show bDependencies ≠ bVersion by decide]
 k := by rw [write_kids p _ (by decide)]; simp [show bParent ≠ bPackaging by decide, show bGroup ≠ bPackaging by decide, show bArtifact ≠ bPackaging by decide, show bVersion ≠ bPackaging by decide, show bProperties ≠ bPackaging by decide, show bManagement ≠ bPackaging by decide, show bDependencies ≠ bPackaging by decide]
 props := by rw [write_kids p _ (by decide)]; simp [show bParent ≠ bProperties by decide, show bGroup ≠ bProperties by decide, show bArtifact ≠ bProperties by decide, show bVersion ≠ bProperties by decide, show bPackaging ≠ bProperties by decide, show bManagement ≠ bProperties by decide, show bDependencies ≠ bProperties by decide]
 man := by
  have hk : kidsF bManagement (writeT p).kids = branchT bManagement (depsT p.managed) := by rw [write_kids p _ (by decide)]; simp [show bParent ≠ bManagement by decide, show bGroup ≠ bManagement by decide, show bArtifact ≠ bManagement by decide, show bVersion ≠ bManagement by decide, show bPackaging ≠ bManagement by decide, show bProperties ≠ bManagement by decide, show bDependencies ≠ bManagement by decide]
  by_cases he : p.managed = []
  · exact .inl ⟨by rw [hk, he]; rfl, he⟩
  · refine .inr ⟨.mk bManagement [] (depsT p.managed) [], ?_, deps_is ?_⟩
    · rw [hk]
      unfold depsT branchT
      cases h : p.managed with
      | nil => exact absurd h he
      | cons _ _ => rfl
    · show kidsF bDependencies (depsT p.managed) = _
      exact (named_branch _ _).same (by decide)
 deps := deps_is (by rw [write_kids p _ (by decide)]; simp [show bParent ≠ bDependencies by decide, show bGroup ≠ bDependencies by decide, show bArtifact ≠ bDependencies by decide, show bVersion ≠ bDependencies by decide, show bPackaging ≠ bDependencies by decide, show bProperties ≠ bDependencies by decide, show bManagement ≠ bDependencies by decide])
/-- A project that may be, written, is read as it is. -/
theorem write_read {p : Pom} (h : mayP p = true) : readV (writeT p) = p ∧ readE (writeT p) = none := pom_read (write_is p) h

end Go.Proofs.YtbbbfjcikhpmbaaGreat

/- Walks of isAttrs and of what it calls; their conditions stand in the theorems. -/
namespace Go.Proofs.YtbbbfjcikhpmbaaGreat
open Go Go.RowKit

theorem Says.qb {p : Prop} {q : Bool} (hq : q = true ↔ p) {w : World} {e : Ending} {w' : World} (h : Says p w e w') : e = .returned (.bool q) ∧ Below w.heap.size w w' := by
 obtain ⟨z, rfl, hz, hb⟩ := h
 have : z = q := by
  cases z <;> cases q
  · rfl
  · have := hz.2 (hq.1 rfl); cases this
  · have := hq.2 (hz.1 rfl); cases this
  · rfl
 exact ⟨by rw [this], hb⟩
theorem bool_of (p : Prop) : ∃ q : Bool, q = true ↔ p := by
 by_cases h : p
 · exact ⟨true, fun _ => h, fun _ => rfl⟩
 · exact ⟨false, fun e => absurd e Bool.false_ne_true, fun e => absurd e h⟩
/-- May these be an element's attributes? -/
def GoodAtts (l : List At2) : Prop := (∀ a ∈ l, okName a.1 = true ∧ okText a.2 = true) ∧ (l.map (·.1)).Nodup
def hasAtt (n : Bs) (l : List At2) : Prop := ∃ k, ∃ h : k < l.length, l[k].1 = n
/-- What is asked of one attribute. -/
def OkAt (l : List At2) (k : Nat) (h : k < l.length) : Prop := ¬ hasAtt l[k].1 (l.take k) ∧ okName l[k].1 = true ∧ okText l[k].2 = true
theorem goodAtts_iff (l : List At2) : GoodAtts l ↔ ∀ k (h : k < l.length), OkAt l k h := by
 constructor
 · rintro ⟨h1, h2⟩ k h
   refine ⟨?_, h1 _ (List.getElem_mem h)⟩
   rintro ⟨j, hj, he⟩
   have hjk : j < k := by rw [List.length_take] at hj; omega
   rw [List.getElem_take] at he
   have h3 := (List.pairwise_iff_getElem.1 h2) j k (by simp; omega) (by simpa using h) hjk
   simp only [List.getElem_map] at h3
   exact h3 he
 · intro h
   refine ⟨fun a ha => ?_, ?_⟩
   · obtain ⟨k, hk, rfl⟩ := List.mem_iff_getElem.1 ha
     exact (h k hk).2
   · refine List.pairwise_iff_getElem.2 fun i j hi hj hij => ?_
     have hj' : j < l.length := by simpa using hj
     simp only [List.getElem_map]
     intro e
     exact (h j hj').1 ⟨i, by rw [List.length_take]; omega, by rw [List.getElem_take]; exact e⟩

end Go.Proofs.YtbbbfjcikhpmbaaGreat

/- Walks of isLeaf and of May on trees; their conditions stand in the theorems. -/

namespace Go.Proofs.YtbbbfjcikhpmbaaGreat
open Go Go.RowKit

/-- May this be a text? -/
def LeafOk (t : Tr) : Prop := t.attrs = [] ∧ t.kids = [] ∧ t.text ≠ [] ∧ okText t.text = true
/-- Is an element, and all within it, as it should be, sizes aside? -/
inductive RightT : Tr → Prop where
 | mk {n : Bs} {a : List At2} {ks : List Tr} {x : Bs} (hn : okName n = true) (hx : x = []) (ha : GoodAtts a) (hk : ∀ k ∈ ks, k.name ≠ [] → RightT k) (hl : ∀ k ∈ ks, k.name = [] → LeafOk k) (hs : ∀ (k : Nat) (h : k + 1 < ks.length), (ks[k]'(Nat.lt_of_succ_lt h)).name = [] → (ks[k + 1]'h).name ≠ []) : RightT (.mk n a ks x)
/-- One kid is as it should be. -/
def KidOk (t : Tr) (k : Nat) (h : k < t.kids.length) : Prop := ((t.kids[k]'h).name ≠ [] ∧ RightT (t.kids[k]'h)) ∨ ((t.kids[k]'h).name = [] ∧ LeafOk (t.kids[k]'h) ∧ ∀ j (hj : j + 1 = k), (t.kids[j]'(by omega)).name ≠ [])
theorem right_iff (t : Tr) : RightT t ↔ okName t.name = true ∧ t.text = [] ∧ GoodAtts t.attrs ∧ ∀ k (h : k < t.kids.length), KidOk t k h := by
 constructor
 · intro h
   cases h with
   | mk hn hx ha hk hl hs =>
    refine ⟨hn, hx, ha, fun k h => ?_⟩
    rename_i n a ks x
    show ((ks[k]'h).name ≠ [] ∧ RightT (ks[k]'h)) ∨ ((ks[k]'h).name = [] ∧ LeafOk (ks[k]'h) ∧ ∀ j (hj : j + 1 = k), (ks[j]'(by have : k < ks.length := h; omega)).name ≠ [])
    by_cases hne : (ks[k]'h).name = []
    · refine .inr ⟨hne, hl _ (List.getElem_mem _) hne, fun j hj e => ?_⟩
      subst hj
      exact hs j h e hne
    · exact .inl ⟨hne, hk _ (List.getElem_mem _) hne⟩
 · rintro ⟨hn, hx, ha, h⟩
   obtain ⟨n, a, ks, x⟩ := t
   refine .mk hn hx ha (fun y hy hne => ?_) (fun y hy hne => ?_) (fun k hk hne hne2 => ?_)
   · obtain ⟨k, hk, rfl⟩ := List.mem_iff_getElem.1 hy
     rcases h k hk with ⟨-, h1⟩ | ⟨h1, -⟩
     · exact h1
     · exact absurd h1 hne
   · obtain ⟨k, hk, rfl⟩ := List.mem_iff_getElem.1 hy
     rcases h k hk with ⟨h1, -⟩ | ⟨-, h1, -⟩
     · exact absurd hne h1
     · exact h1
   · rcases h (k + 1) hk with ⟨h1, -⟩ | ⟨-, -, h1⟩
     · exact h1 hne2
     · exact h1 k rfl hne
/-- Texts, names and values that are not too long to be gone through. -/
inductive FineT : Tr → Prop where
 | mk {n : Bs} {a : List At2} {ks : List Tr} {x : Bs} (hn : n.length ≤ 1000000000) (hx : x.length ≤ 1000000000) (ha : ∀ b ∈ a, b.1.length ≤ 1000000000 ∧ b.2.length ≤ 1000000000) (hk : ∀ k ∈ ks, FineT k) : FineT (.mk n a ks x)
theorem FineT.name {t : Tr} (h : FineT t) : t.name.length ≤ 1000000000 := by cases h; assumption
theorem FineT.text {t : Tr} (h : FineT t) : t.text.length ≤ 1000000000 := by cases h; assumption
theorem FineT.attrs {t : Tr} (h : FineT t) : ∀ b ∈ t.attrs, b.1.length ≤ 1000000000 ∧ b.2.length ≤ 1000000000 := by cases h; assumption
theorem FineT.kids {t : Tr} (h : FineT t) : ∀ k ∈ t.kids, FineT k := by cases h; assumption

end Go.Proofs.YtbbbfjcikhpmbaaGreat

/- How great the tree of a written project is: plain laws on trees; no program in sight. -/

namespace Go.Proofs.YtbbbfjcikhpmbaaGreat
open Go Go.RowKit

/-! A written project is mild. -/
def MildL (l : List Tr) : Prop := ∀ t ∈ l, t.name ≠ [] ∧ Mild t
theorem MildL.nil : MildL [] := fun _ h => by cases h
theorem MildL.app {a b : List Tr} (h : MildL a) (g : MildL b) : MildL (a ++ b) := fun t ht => (List.mem_append.1 ht).elim (h t) (g t)
theorem textF_named : ∀ {l : List Tr}, (∀ t ∈ l, t.name ≠ []) → textF l = []
 | [], _ => rfl
 | t :: l, h => by
  have h1 := h t (by simp)
  rw [textF, textF_named (fun u hu => h u (by simp [hu]))]
  cases hn : t.name with
  | nil => exact absurd hn h1
  | cons _ _ => rfl
theorem MildL.up {l : List Tr} (h : MildL l) (n : Bs) (hn : n.length ≤ 1000000000) (hl : l.length ≤ 100000) : Mild (.mk n [] l []) :=
 .of hl (by show (textF l).length ≤ _; rw [textF_named (fun t ht => (h t ht).1)]; simp) hn (fun k hk => (h k hk).2)
theorem mild_text (x : Bs) : Mild (.mk [] [] [] x) := .of (by simp [Tr.kids]) (by show (textF []).length ≤ _; simp [textF]) (by simp [Tr.name]) (fun k hk => by cases hk)
theorem mildL_leaf (n : Bs) (s : S) (h0 : n ≠ []) (h1 : n.length ≤ 100) (h2 : s.size ≤ 1000000) : MildL (leafT n s) := by
 unfold leafT
 split
 · exact .nil
 · intro t ht
   obtain rfl := List.mem_singleton.1 ht
   refine ⟨h0, .of (by simp [Tr.kids]) ?_ (by show n.length ≤ _; omega) (fun k hk => ?_)⟩
   · show (s.data.toList ++ []).length ≤ _
     rw [List.append_nil, size_data]; omega
   · obtain rfl := List.mem_singleton.1 hk
     exact mild_text _
theorem mildL_branch (n : Bs) (l : List Tr) (h0 : n ≠ []) (h1 : n.length ≤ 100) (h : MildL l) (hl : l.length ≤ 2000) : MildL (branchT n l) := by
 unfold branchT
 split
 · exact .nil
 · intro t ht
   obtain rfl := List.mem_singleton.1 ht
   exact ⟨h0, h.up n (by omega) (by omega)⟩
theorem mildL_map {α : Type} (f : α → Tr) (l : List α) (h : ∀ x ∈ l, (f x).name ≠ [] ∧ Mild (f x)) : MildL (l.map f) := fun t ht => by
 obtain ⟨x, hx, rfl⟩ := List.mem_map.1 ht
 exact h x hx
/-- A dependency whose texts and lists are not too long. -/
structure DepLt (d : Dep) : Prop where
 own : ∀ s ∈ [d.group, d.artifact, d.version, d.type, d.classifier], s.size ≤ 1000000
 ex : ∀ y ∈ d.excl, y.group.size ≤ 1000000 ∧ y.artifact.size ≤ 1000000
 excl : d.excl.length ≤ 2000
theorem wordB_len (n : Int) : (wordB n).length ≤ 100 := by
 unfold wordB
 repeat' split
 all_goals simp
theorem mild_ex {y : Id} (h : y.group.size ≤ 1000000 ∧ y.artifact.size ≤ 1000000) : Mild (exT y) :=
 ((mildL_leaf bGroup y.group (by decide) (by decide) h.1).app (mildL_leaf bArtifact y.artifact (by decide) (by decide) h.2)).up _ (by decide) (by rw [List.length_append]; have := leafT_len bGroup y.group; have := leafT_len bArtifact y.artifact; omega)
theorem mildL_opt (n : Int) : MildL (optT n) := by
 unfold optT
 split
 · exact mildL_leaf _ _ (by decide) (by decide) (by decide)
 · split
   · exact mildL_leaf _ _ (by decide) (by decide) (by decide)
   · exact .nil
theorem mild_dep {d : Dep} (h : DepLt d) : Mild (depT d) := by
 have hs : (bs (wordB d.scope) : S).size ≤ 1000000 := by rw [bs_size]; have := wordB_len d.scope; omega
 refine MildL.up ((((((((MildL.nil.app (mildL_leaf _ _ (by decide) (by decide) (h.own _ (by simp)))).app (mildL_leaf _ _ (by decide) (by decide) (h.own _ (by simp)))).app (mildL_leaf _ _ (by decide) (by decide) (h.own _ (by simp)))).app (mildL_leaf _ _ (by decide) (by decide) (h.own _ (by simp)))).app (mildL_leaf _ _ (by decide) (by decide) (h.own _ (by simp)))).app (mildL_leaf _ _ (by decide) (by decide) hs)).app (mildL_opt _)).app (mildL_branch _ _ (by decide) (by decide) (mildL_map _ _ fun y hy => ⟨by show bExclusion ≠ []; decide, mild_ex (h.ex y hy)⟩) (by rw [List.length_map]; exact h.excl))) _ (by decide) ?_
 refine Nat.le_trans (br_len (m := 7) ?_ _ _) (by decide)
 rw [List.length_append]
 have := optT_len d.opt
 have h6 : ((((((([] : List Tr) ++ leafT bGroup d.group) ++ leafT bArtifact d.artifact) ++ leafT bVersion d.version) ++ leafT bType d.type) ++ leafT bClassifier d.classifier) ++ leafT bScope (bs (wordB d.scope))).length ≤ 6 := leaf_len (leaf_len (leaf_len (leaf_len (leaf_len (leaf_len (m := 0) (by simp) _ _) _ _) _ _) _ _) _ _) _ _
 omega
/-- A project whose texts and lists are not too long. -/
structure PomLt (p : Pom) : Prop where
 own : ∀ s ∈ [p.group, p.artifact, p.version, p.packaging, p.parent.group, p.parent.artifact, p.parent.version], s.size ≤ 1000000
 prp : ∀ y ∈ p.props, y.name.size ≤ 1000000 ∧ y.value.size ≤ 1000000 ∧ y.name.data.toList ≠ []
 man : ∀ d ∈ p.managed, DepLt d
 dep : ∀ d ∈ p.deps, DepLt d
 n1 : p.props.length ≤ 2000
 n2 : p.managed.length ≤ 2000
 n3 : p.deps.length ≤ 2000
theorem mild_prop {x : Prp} (h : x.name.size ≤ 1000000 ∧ x.value.size ≤ 1000000 ∧ x.name.data.toList ≠ []) : Mild (propT x) := by
 unfold propT
 refine .of ?_ ?_ (by show x.name.data.toList.length ≤ _; rw [size_data]; omega) (fun k hk => ?_)
 · show (if x.value.toList.isEmpty then ([] : List Tr) else [.mk [] [] [] x.value.data.toList]).length ≤ _
   split <;> simp
 · show (textF (if x.value.toList.isEmpty then ([] : List Tr) else [.mk [] [] [] x.value.data.toList])).length ≤ _
   split
   · simp [textF]
   · show (x.value.data.toList ++ []).length ≤ _
     rw [List.append_nil, size_data]; omega
 · have hk : k ∈ (if x.value.toList.isEmpty then ([] : List Tr) else [.mk [] [] [] x.value.data.toList]) := hk
   split at hk
   · cases hk
   · obtain rfl := List.mem_singleton.1 hk; exact mild_text _
theorem mildL_deps {ds : List Dep} (h : ∀ d ∈ ds, DepLt d) (hl : ds.length ≤ 2000) : MildL (depsT ds) :=
 mildL_branch _ _ (by decide) (by decide) (mildL_map _ _ fun d hd => ⟨by show bDependency ≠ []; decide, mild_dep (h d hd)⟩) (by rw [List.length_map]; exact hl)
theorem mildL_par {p : Pom} (h : PomLt p) : MildL (parentL p.hasParent p.parent) := by
 unfold parentL
 split
 · refine MildL.nil.app (mildL_branch _ _ (by decide) (by decide) (((MildL.nil.app (mildL_leaf _ _ (by decide) (by decide) (h.own _ (by simp)))).app (mildL_leaf _ _ (by decide) (by decide) (h.own _ (by simp)))).app (mildL_leaf _ _ (by decide) (by decide) (h.own _ (by simp)))) ?_)
   exact Nat.le_trans (leaf_len (leaf_len (leaf_len (m := 0) (by simp) _ _) _ _) _ _) (by decide)
 · exact .nil
theorem mildL_write {p : Pom} (h : PomLt p) : MildL (writeT p).kids :=
 (((((((mildL_par h).app (mildL_leaf _ _ (by decide) (by decide) (h.own _ (by simp)))).app (mildL_leaf _ _ (by decide) (by decide) (h.own _ (by simp)))).app (mildL_leaf _ _ (by decide) (by decide) (h.own _ (by simp)))).app (mildL_leaf _ _ (by decide) (by decide) (h.own _ (by simp)))).app (mildL_branch _ _ (by decide) (by decide) (mildL_map _ _ fun y hy => ⟨by show y.name.data.toList ≠ []; exact (h.prp y hy).2.2, mild_prop (h.prp y hy)⟩) (by rw [List.length_map]; exact h.n1))).app
  (mildL_branch _ _ (by decide) (by decide) (MildL.nil.app (mildL_deps h.man h.n2)) (by rw [List.nil_append]; exact Nat.le_trans (branchT_len _ _) (by decide)))).app (mildL_deps h.dep h.n3)
theorem write_len (p : Pom) : (writeT p).kids.length ≤ 8 := by
 show (parentL p.hasParent p.parent ++ leafT bGroup p.group ++ leafT bArtifact p.artifact ++ leafT bVersion p.version ++ leafT bPackaging p.packaging ++ branchT bProperties (p.props.map propT) ++ branchT bManagement ([] ++ depsT p.managed) ++ depsT p.deps).length ≤ 8
 exact br_len (br_len (br_len (leaf_len (leaf_len (leaf_len (leaf_len (parentL_len _ _) _ _) _ _) _ _) _ _) _ _) _ _) _ _
theorem mild_write {p : Pom} (h : PomLt p) : Mild (writeT p) := (mildL_write h).up bProject (by decide) (Nat.le_trans (write_len p) (by decide))

end Go.Proofs.YtbbbfjcikhpmbaaGreat

/- Walks of May, the program's; the conditions stand in the theorems. -/
namespace Go.Proofs.YtbbbfjcikhpmbaaGreat
open Go Go.RowKit

/-- May this be a tree? -/
def MayT (t : Tr) : Prop := RightT t ∧ t.cnt ≤ 4096 ∧ t.dep ≤ 64

end Go.Proofs.YtbbbfjcikhpmbaaGreat
