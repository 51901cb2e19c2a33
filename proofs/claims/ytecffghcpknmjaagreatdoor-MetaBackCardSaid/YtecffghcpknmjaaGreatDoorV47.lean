/- Plain: what a Meta that may be is written as is a tree that may be, and small; no program in sight. -/
import Derived.Test.YtecffghcpknmjaaGreatDoorJK12
import Derived.Test.YtecffghcpknmjaaGreatDoorJK13
namespace Go.Proofs.YtecffghcpknmjaaGreatDoor
open Go Go.RowKit

theorem verByte_text {c : UInt8} (h : verByte c = true) : cText c = true := by
  rw [verByte_iff] at h
  unfold cText
  rw [Bool.or_eq_true, decide_eq_true_iff]
  left
  omega
theorem idByte_text {c : UInt8} (h : idByte c = true) : cText c = true := verByte_text (by unfold verByte; rw [h]; rfl)
/-- What a leaf's text must be. -/
def GoodS (s : S) : Prop := s.data.toList ≠ [] ∧ okText s.data.toList = true ∧ s.size ≤ 64
theorem size_toList (s : S) : s.data.toList.length = s.size := rfl
theorem verMay_good {s : S} (h : verMay s = true) : GoodS s := by
  unfold verMay at h
  simp only [Bool.and_eq_true, List.all_eq_true, decide_eq_true_eq] at h
  refine ⟨fun e => ?_, ?_, h.2⟩
  · have h1 := size_toList s
    rw [e] at h1
    simp at h1
    omega
  · unfold okText
    rw [List.all_eq_true]
    exact fun c hc => verByte_text (h.1.1 c hc)
theorem isIdB_good {s : S} (h : isIdB s = true) : GoodS s := by
  unfold isIdB at h
  simp only [Bool.and_eq_true, List.all_eq_true, decide_eq_true_eq] at h
  refine ⟨fun e => ?_, ?_, h.2⟩
  · have h1 := size_toList s
    rw [e] at h1
    simp at h1
    omega
  · unfold okText
    rw [List.all_eq_true]
    exact fun c hc => idByte_text (h.1.1 c hc)
theorem goodAtts_nil : GoodAtts [] := ⟨fun a h => (by cases h), (by simp)⟩
theorem right_leaf {n : Bs} {s : S} (hn : okName n = true) (hs : GoodS s) : RightT (leafM n s) := by
  refine .mk hn rfl goodAtts_nil (fun k hk hne => ?_) (fun k hk he => ?_) (fun k h he => ?_)
  · obtain rfl := List.mem_singleton.1 hk
    exact absurd rfl hne
  · obtain rfl := List.mem_singleton.1 hk
    exact ⟨rfl, rfl, hs.1, hs.2.1⟩
  · simp at h
theorem right_branch {n : Bs} {ks : List Tr} (hn : okName n = true) (hk : ∀ k ∈ ks, k.name ≠ [] ∧ RightT k) : RightT (.mk n [] ks []) :=
  .mk hn rfl goodAtts_nil (fun k h _ => (hk k h).2) (fun k h he => absurd he (hk k h).1) (fun _ _ he => absurd he (hk _ (List.getElem_mem _)).1)
/-- What the texts of a Meta are. -/
structure GoodM (m : MetaD) : Prop where
  g : GoodS m.id.group
  a : GoodS m.id.artifact
  l : GoodS m.latest
  r : m.rel = ⟨#[]⟩ ∨ GoodS m.rel
  v : ∀ s ∈ m.vers, GoodS s
theorem good_may {m : MetaD} (h : mayM m = true) : GoodM m := by
  have h0 := h
  obtain ⟨h1, h2, hn, hl, hr, he, he2⟩ := mayM_iff.1 h0
  refine ⟨isIdB_good h1, isIdB_good h2, verMay_good (latest_may h), ?_, fun s hs => verMay_good (hr.may s hs)⟩
  rcases relV_mem m.vers with e | e
  · exact .inl (he2.trans e)
  · exact .inr (verMay_good (by rw [he2]; exact hr.may _ e))
theorem relM_right {s : S} (h : s = ⟨#[]⟩ ∨ GoodS s) : ∀ k ∈ relM s, k.name ≠ [] ∧ RightT k := fun k hk => by
  unfold relM at hk
  split at hk
  · cases hk
  · rename_i hne
    obtain rfl := List.mem_singleton.1 hk
    exact ⟨List.cons_ne_nil _ _, right_leaf (by decide) (h.resolve_left hne)⟩
theorem right_write {m : MetaD} (h : GoodM m) : RightT (writeM m) := by
  refine right_branch (by decide) fun k hk => ?_
  simp only [List.mem_cons, List.not_mem_nil, or_false] at hk
  rcases hk with rfl | rfl | rfl
  · exact ⟨List.cons_ne_nil _ _, right_leaf (by decide) h.g⟩
  · exact ⟨List.cons_ne_nil _ _, right_leaf (by decide) h.a⟩
  · refine ⟨List.cons_ne_nil _ _, right_branch (by decide) fun k hk => ?_⟩
    rcases List.mem_append.1 hk with hk | hk
    · rcases List.mem_cons.1 hk with rfl | hk
      · exact ⟨List.cons_ne_nil _ _, right_leaf (by decide) h.l⟩
      · exact relM_right h.r k hk
    · obtain rfl := List.mem_singleton.1 hk
      refine ⟨List.cons_ne_nil _ _, right_branch (by decide) fun k hk => ?_⟩
      obtain ⟨s, hs, rfl⟩ := List.mem_map.1 hk
      exact ⟨List.cons_ne_nil _ _, right_leaf (by decide) (h.v s hs)⟩
theorem wt_leaf (n : Bs) (s : S) : (leafM n s).wt = 2 * n.length + s.size + 60 := by
  have h1 := size_toList s
  have e : attsW ([] : List At2) = 0 := rfl
  simp only [leafM, Tr.wt, Tr.wtL, e, h1, List.length_nil]
  omega
theorem wtL_vers : ∀ (l : List S), (∀ s ∈ l, GoodS s) → Tr.wtL (l.map (leafM nmVer)) ≤ 138 * l.length
  | [], _ => by rw [List.map_nil, Tr.wtL]; omega
  | s :: l, h => by
    have h1 := wtL_vers l fun x hx => h x (by simp [hx])
    have h2 := (h s (by simp)).2.2
    have h7 : nmVer.length = 7 := rfl
    rw [List.map_cons, Tr.wtL, wt_leaf, h7, List.length_cons]
    omega
theorem wtL_rel {s : S} (h : s = ⟨#[]⟩ ∨ GoodS s) : Tr.wtL (relM s) ≤ 138 := by
  unfold relM
  split
  · rw [Tr.wtL]; omega
  · rename_i hne
    have h2 := (h.resolve_left hne).2.2
    have h7 : nmR.length = 7 := rfl
    rw [Tr.wtL, Tr.wtL, wt_leaf, h7]
    omega
theorem wtL_app : ∀ (a b : List Tr), Tr.wtL (a ++ b) = Tr.wtL a + Tr.wtL b
  | [], b => by rw [List.nil_append, Tr.wtL]; omega
  | t :: a, b => by rw [List.cons_append, Tr.wtL, Tr.wtL, wtL_app a b]; omega
theorem wt_write {m : MetaD} (h : GoodM m) (hl : m.vers.length ≤ 40) : (writeM m).wt ≤ 6500 := by
  have h1 := wtL_vers m.vers h.v
  have h2 := wtL_rel h.r
  have h3 := h.g.2.2
  have h4 := h.a.2.2
  have h5 := h.l.2.2
  have e : attsW ([] : List At2) = 0 := rfl
  have n1 : nmMeta.length = 8 := rfl
  have n2 : nmG.length = 7 := rfl
  have n3 : nmA.length = 10 := rfl
  have n4 : nmV.length = 10 := rfl
  have n5 : nmL.length = 6 := rfl
  have n6 : nmVs.length = 8 := rfl
  unfold writeM innerM versM'
  simp only [Tr.wt, Tr.wtL, List.cons_append, wtL_app, wt_leaf, e, n1, n2, n3, n4, n5, n6, List.length_nil]
  omega
theorem depL_vers : ∀ (l : List S), Tr.depL (l.map (leafM nmVer)) ≤ 1
  | [] => by decide
  | s :: l => by
    have h := depL_vers l
    rw [List.map_cons, show leafM nmVer s :: l.map (leafM nmVer) = [leafM nmVer s] ++ l.map (leafM nmVer) from rfl, depL_append]
    have h2 : Tr.depL [leafM nmVer s] = 1 := by simp [Tr.depL, Tr.dep, leafM, Tr.name]
    omega
theorem dep_write (m : MetaD) : (writeM m).dep ≤ 64 := by
  have h := depL_vers m.vers
  have hr : Tr.depL (relM m.rel) ≤ 1 := by
    unfold relM
    split
    · decide
    · simp [Tr.depL, Tr.dep, leafM, Tr.name]
  have hv : (versM' m.vers).dep ≤ 2 := by rw [Tr.dep_eq]; show Tr.depL (m.vers.map _) + 1 ≤ 2; omega
  have hi : (innerM m).dep ≤ 4 := by
    rw [Tr.dep_eq]
    show Tr.depL (leafM nmL m.latest :: relM m.rel ++ [versM' m.vers]) + 1 ≤ 4
    rw [depL_append, show leafM nmL m.latest :: relM m.rel = [leafM nmL m.latest] ++ relM m.rel from rfl, depL_append]
    have h2 : Tr.depL [leafM nmL m.latest] = 1 := by simp [Tr.depL, Tr.dep, leafM, Tr.name]
    have h3 : Tr.depL [versM' m.vers] ≤ 2 := by
      have : Tr.depL [versM' m.vers] = max (if (versM' m.vers).name = [] then 0 else (versM' m.vers).dep) 0 := by simp [Tr.depL]
      rw [this]
      split <;> omega
    omega
  rw [Tr.dep_eq]
  show Tr.depL ([leafM nmG m.id.group] ++ ([leafM nmA m.id.artifact] ++ [innerM m])) + 1 ≤ 64
  rw [depL_append, depL_append]
  have h2 : Tr.depL [leafM nmG m.id.group] = 1 := by simp [Tr.depL, Tr.dep, leafM, Tr.name]
  have h3 : Tr.depL [leafM nmA m.id.artifact] = 1 := by simp [Tr.depL, Tr.dep, leafM, Tr.name]
  have h4 : Tr.depL [innerM m] ≤ 4 := by
    have : Tr.depL [innerM m] = max (if (innerM m).name = [] then 0 else (innerM m).dep) 0 := by simp [Tr.depL]
    rw [this]
    split <;> omega
  omega
theorem may_write {m : MetaD} (h : GoodM m) (hl : m.vers.length ≤ 40) : MayT (writeM m) := by
  have h1 := wt_write h hl
  have h2 := cnt_wt (writeM m)
  exact ⟨right_write h, by omega, dep_write m⟩
theorem light_leaf {n : Bs} {s : S} (hn : n.length ≤ 1000) (hs : GoodS s) : LightT (leafM n s) :=
  .mk hn (by simp) (by simp) (fun a h => by cases h) (by simp) (fun k hk => by
    obtain rfl := List.mem_singleton.1 hk
    have h1 := hs.2.2
    have h2 := size_toList s
    exact .mk (by simp) (by omega) (by simp) (fun a h => by cases h) (by simp) (fun k hk => by cases hk))
theorem light_branch {n : Bs} {ks : List Tr} (hn : n.length ≤ 1000) (hl : ks.length ≤ 300) (hk : ∀ k ∈ ks, LightT k) : LightT (.mk n [] ks []) := .mk hn (by simp) (by simp) (fun a h => by cases h) hl hk
theorem relM_light {s : S} (h : s = ⟨#[]⟩ ∨ GoodS s) : (∀ k ∈ relM s, LightT k) ∧ (relM s).length ≤ 1 := by
  unfold relM
  split
  · exact ⟨fun k hk => (by cases hk), (by simp)⟩
  · rename_i hne
    exact ⟨fun k hk => (by obtain rfl := List.mem_singleton.1 hk; exact light_leaf (by decide) (h.resolve_left hne)), (by simp)⟩
theorem light_write {m : MetaD} (h : GoodM m) (hl : m.vers.length ≤ 40) : LightT (writeM m) := by
  obtain ⟨r1, r2⟩ := relM_light h.r
  refine light_branch (by decide) (by simp) fun k hk => ?_
  simp only [List.mem_cons, List.not_mem_nil, or_false] at hk
  rcases hk with rfl | rfl | rfl
  · exact light_leaf (by decide) h.g
  · exact light_leaf (by decide) h.a
  · refine light_branch (by decide) (by simp; omega) fun k hk => ?_
    rcases List.mem_append.1 hk with hk | hk
    · rcases List.mem_cons.1 hk with rfl | hk
      · exact light_leaf (by decide) h.l
      · exact r1 k hk
    · obtain rfl := List.mem_singleton.1 hk
      refine light_branch (by decide) (by rw [List.length_map]; omega) fun k hk => ?_
      obtain ⟨s, hs, rfl⟩ := List.mem_map.1 hk
      exact light_leaf (by decide) (h.v s hs)

end Go.Proofs.YtecffghcpknmjaaGreatDoor
