/- What is built of a text may be a tree, and is no greater than the text; no program in sight. -/
import Derived.Test.YtpchljiiappmnaaG41
import Derived.Test.YtpchljiiappmnaaG16
import Derived.Test.YtpchljiiappmnaaG40
import Derived.Test.YtpchljiiappmnaaG33
namespace Go.Proofs.Ytpchljiiappmnaa
open Go Go.RowKit

/-- The last of these is a text. -/
def LastT (l : List Tr) : Prop := ∃ ks k, l = ks ++ [k] ∧ k.name = []
theorem lastT_snoc {l : List Tr} {k : Tr} : LastT (l ++ [k]) ↔ k.name = [] := by
  constructor
  · rintro ⟨ks, k', h, hn⟩
    obtain ⟨-, h2⟩ := List.append_inj' h rfl
    cases h2; exact hn
  · exact fun h => ⟨l, k, rfl, h⟩
theorem lastT_cons {k u : Tr} {l : List Tr} : LastT (k :: u :: l) ↔ LastT (u :: l) := by
  constructor
  · rintro ⟨ks, k', h, hn⟩
    cases ks with
    | nil => cases h
    | cons a ks =>
      simp only [List.cons_append, List.cons.injEq] at h
      exact ⟨ks, k', h.2, hn⟩
  · rintro ⟨ks, k', h, hn⟩
    exact ⟨k :: ks, k', by rw [h]; rfl, hn⟩
theorem rightL_snoc : ∀ (l : List Tr) (k : Tr), RightL l → (k.name ≠ [] → RightT k) → (k.name = [] → LeafOk k ∧ ¬ LastT l) → RightL (l ++ [k])
  | [], k, _, h1, h2 => ⟨h1, fun h => ⟨(h2 h).1, fun u r e => by cases e⟩, trivial⟩
  | a :: l, k, h, h1, h2 => by
    obtain ⟨g1, g2, g3⟩ := h
    cases l with
    | nil =>
      refine ⟨g1, fun hn => ⟨(g2 hn).1, fun u r e => ?_⟩, rightL_snoc [] k g3 h1 (fun h => ⟨(h2 h).1, by rintro ⟨ks, k', h', -⟩; cases ks <;> cases h'⟩)⟩
      cases e
      intro hk
      exact (h2 hk).2 ⟨[], a, rfl, hn⟩
    | cons b l =>
      refine ⟨g1, fun hn => ⟨(g2 hn).1, fun u r e => ?_⟩, rightL_snoc (b :: l) k g3 h1 (fun h => ⟨(h2 h).1, fun h' => (h2 h).2 (lastT_cons.2 h')⟩)⟩
      cases e
      exact (g2 hn).2 b l rfl
theorem rightL_init : ∀ (l : List Tr) (k : Tr), RightL (l ++ [k]) → RightL l ∧ (k.name ≠ [] → RightT k) ∧ (k.name = [] → LeafOk k ∧ ¬ LastT l)
  | [], k, h => ⟨trivial, h.1, fun hn => ⟨(h.2.1 hn).1, by rintro ⟨ks, k', h', -⟩; cases ks <;> cases h'⟩⟩
  | a :: l, k, h => by
    obtain ⟨g1, g2, g3⟩ := h
    obtain ⟨i1, i2, i3⟩ := rightL_init l k g3
    refine ⟨⟨g1, fun hn => ⟨(g2 hn).1, fun u r e => ?_⟩, i1⟩, i2, fun hk => ⟨(i3 hk).1, fun h' => ?_⟩⟩
    · subst e
      exact (g2 hn).2 u (r ++ [k]) rfl
    · cases l with
      | nil =>
        obtain ⟨ks, k', h2, hn⟩ := h'
        have : ks = [] ∧ k' = a := by
          cases ks with
          | nil => cases h2; exact ⟨rfl, rfl⟩
          | cons b ks => simp at h2
        obtain ⟨rfl, rfl⟩ := this
        exact (g2 hn).2 k [] rfl hk
      | cons b l => exact (i3 hk).2 (lastT_cons.1 h')
theorem rightL_parts : ∀ (l : List Tr), RightL l → (∀ k ∈ l, k.name ≠ [] → RightT k) ∧ (∀ k ∈ l, k.name = [] → LeafOk k) ∧ (∀ (k : Nat) (h : k + 1 < l.length), (l[k]'(Nat.lt_of_succ_lt h)).name = [] → (l[k + 1]'h).name ≠ [])
  | [], _ => ⟨by simp, by simp, fun k h => by simp at h⟩
  | a :: l, h => by
    obtain ⟨g1, g2, g3⟩ := h
    obtain ⟨i1, i2, i3⟩ := rightL_parts l g3
    refine ⟨fun k hk => ?_, fun k hk => ?_, fun k hk hn => ?_⟩
    · rcases List.mem_cons.1 hk with rfl | hk
      · exact g1
      · exact i1 k hk
    · rcases List.mem_cons.1 hk with rfl | hk
      · exact fun hn => (g2 hn).1
      · exact i2 k hk
    · cases k with
      | zero =>
        cases l with
        | nil => simp at hk
        | cons b l => exact (g2 hn).2 b l rfl
      | succ k => exact i3 k (by simpa using hk) hn

/-- An element that is open, as it should be. -/
structure FrOk (F : Fr) : Prop where
  name : okName F.name = true
  atts : GoodAtts F.attrs
  kids : RightL F.kids
theorem FrOk.right {F : Fr} (h : FrOk F) : RightT F.tree := by
  obtain ⟨h1, h2, h3⟩ := rightL_parts _ h.kids
  exact .mk h.name rfl h.atts h1 h2 h3
theorem FrOk.ne {F : Fr} (h : FrOk F) : F.tree.name ≠ [] := (okName_good h.name).2
def depOk : List Fr → Prop
  | [] => True
  | F :: S => S.length + 1 + Tr.depL F.kids ≤ 64 ∧ depOk S
def cntS : List Fr → Nat
  | [] => 0
  | F :: S => (1 + Tr.cntL F.kids) + cntS S
def prS : List Fr → Nat
  | [] => 0
  | F :: S => ((tagP ⟨1, F.name, F.attrs, []⟩ [62]).length + (Tr.prL F.kids).length) + prS S
def wtS : List Fr → Nat
  | [] => 0
  | F :: S => ((2 * F.name.length + attsW F.attrs + 30) + Tr.wtL F.kids) + wtS S
def prO : Option Tr → Nat
  | none => 0
  | some t => t.pr.length
def wtO : Option Tr → Nat
  | none => 0
  | some t => t.wt
/-- The builder as it should be; p, q: how great the tokens were that it has seen. -/
structure BInv (st : BSt) (p q : Nat) : Prop where
  frames : ∀ F ∈ st.stack, FrOk F
  top : ∀ F S, st.stack = F :: S → (st.text = true ↔ LastT F.kids)
  cnt : st.root = none → st.count = cntS st.stack
  root : ∀ t, st.root = some t → st.stack = [] ∧ RightT t ∧ t.dep ≤ 64 ∧ t.cnt ≤ 4096
  le : st.count ≤ 4096
  dep : depOk st.stack
  pr : prO st.root + prS st.stack ≤ p
  wt : wtO st.root + wtS st.stack ≤ q
theorem BInv.start : BInv st0 0 0 := ⟨by simp [st0], by simp [st0], fun _ => rfl, by simp [st0], by simp [st0], trivial, Nat.le_refl _, Nat.le_refl _⟩
theorem BInv.mono {st : BSt} {p q p' q' : Nat} (h : BInv st p q) (h1 : p ≤ p') (h2 : q ≤ q') : BInv st p' q' := { h with pr := Nat.le_trans h.pr h1, wt := Nat.le_trans h.wt h2 }

theorem depL_snoc (l : List Tr) (k : Tr) : Tr.depL (l ++ [k]) = max (Tr.depL l) (if k.name = [] then 0 else k.dep) := by
  rw [depL_append]; simp [Tr.depL]
theorem cntL_snoc (l : List Tr) (k : Tr) : Tr.cntL (l ++ [k]) = Tr.cntL l + k.cnt := by rw [cntL_append]; simp [Tr.cntL]
theorem prL_snoc (l : List Tr) (k : Tr) : Tr.prL (l ++ [k]) = Tr.prL l ++ k.pr := by rw [prL_append]; simp [Tr.prL]
theorem wtL_append : ∀ (l m : List Tr), Tr.wtL (l ++ m) = Tr.wtL l + Tr.wtL m
  | [], m => by simp [Tr.wtL]
  | t :: l, m => by rw [List.cons_append, Tr.wtL, Tr.wtL, wtL_append l m]; omega
theorem wtL_snoc (l : List Tr) (k : Tr) : Tr.wtL (l ++ [k]) = Tr.wtL l + k.wt := by rw [wtL_append]; simp [Tr.wtL]

/-- An element ends. -/
theorem BInv.close {F : Fr} {S : List Fr} {c : Nat} {tx : Bool} {p q a b : Nat} (h : BInv ⟨F :: S, none, c, tx⟩ p q) (ha : F.tree.pr.length ≤ (tagP ⟨1, F.name, F.attrs, []⟩ [62]).length + (Tr.prL F.kids).length + a) (hb : F.tree.wt ≤ (2 * F.name.length + attsW F.attrs + 30) + Tr.wtL F.kids + b) : BInv (closeB F S none c) (p + a) (q + b) := by
  have hF := h.frames F (List.mem_cons_self ..)
  have hd := h.dep
  have hc : c = (1 + Tr.cntL F.kids) + cntS S := h.cnt rfl
  have hcl := h.le
  have hp := h.pr
  have hq := h.wt
  simp only [prO, wtO, prS, wtS] at hp hq
  have hcn : F.tree.cnt = 1 + Tr.cntL F.kids := by unfold Fr.tree; rw [Tr.cnt]
  have hdn : F.tree.dep = Tr.depL F.kids + 1 := by unfold Fr.tree; rw [Tr.dep]
  cases S with
  | nil =>
    obtain ⟨hd1, -⟩ := hd
    simp only [cntS] at hc
    refine ⟨by simp [closeB], by simp [closeB], fun e => by simp [closeB] at e, fun t e => ?_, hcl, trivial, ?_, ?_⟩
    · simp only [closeB, Option.some.injEq] at e
      subst e
      simp only [List.length_nil] at hd1
      exact ⟨rfl, hF.right, by omega, by simp at hcl; omega⟩
    · simp only [closeB, prO, prS] at hp ⊢; omega
    · simp only [closeB, wtO, wtS] at hq ⊢; omega
  | cons G S =>
    obtain ⟨hd1, hd2, hd3⟩ := hd
    have hG := h.frames G (by simp)
    simp only [cntS] at hc
    refine ⟨fun H hH => ?_, fun H S' e => ?_, fun _ => ?_, fun t e => by simp [closeB] at e, hcl, ?_, ?_, ?_⟩
    · rcases List.mem_cons.1 hH with rfl | hH
      · exact ⟨hG.name, hG.atts, rightL_snoc _ _ hG.kids (fun _ => hF.right) (fun e => absurd e hF.ne)⟩
      · exact h.frames H (by simp [hH])
    · simp only [closeB, List.cons.injEq] at e
      obtain ⟨rfl, rfl⟩ := e
      simp only [closeB, Fr.add]
      rw [lastT_snoc]
      exact ⟨fun e => absurd e Bool.false_ne_true, fun e => absurd e hF.ne⟩
    · simp only [closeB, Fr.add, cntS]
      rw [cntL_snoc, hcn]; omega
    · refine ⟨?_, hd3⟩
      show S.length + 1 + Tr.depL (G.kids ++ [F.tree]) ≤ 64
      rw [depL_snoc, if_neg hF.ne, hdn]
      simp only [List.length_cons] at hd1
      omega
    · simp only [closeB, prO, prS, Fr.add] at hp ⊢
      rw [prL_snoc, List.length_append]; omega
    · simp only [closeB, wtO, wtS, Fr.add] at hq ⊢
      rw [wtL_snoc]; omega

theorem tree_pr (F : Fr) (hF : FrOk F) : F.tree.pr.length ≤ (tagP ⟨1, F.name, F.attrs, []⟩ [62]).length + (Tr.prL F.kids).length + (F.name.length + 3) := by
  have hne : ¬ F.name.isEmpty = true := by simpa using (okName_good hF.name).2
  unfold Fr.tree
  rw [Tr.pr, if_neg hne]
  split
  · unfold tagP; simp only [List.length_cons, List.length_append, List.length_nil]; omega
  · simp only [List.length_append, List.length_cons, List.length_nil]; omega
theorem tree_wt (F : Fr) : F.tree.wt = (2 * F.name.length + attsW F.attrs + 30) + Tr.wtL F.kids := by unfold Fr.tree; rw [Tr.wt]; rfl

theorem esc_app (f : Bool) (a b : Bs) : esc f (a ++ b) = esc f a ++ esc f b := by unfold esc; rw [List.flatMap_append]
theorem addText_snoc' (s : Bs) (ks : List Tr) (x : Bs) : addText s (ks ++ [.mk [] [] [] x]) = ks ++ [.mk [] [] [] (x ++ s)] := addText_snoc s ks [] [] [] x
theorem leaf_shape {k : Tr} (hn : k.name = []) (h : LeafOk k) : ∃ x, k = .mk [] [] [] x ∧ x ≠ [] ∧ okText x = true := by
  obtain ⟨n, a, ks, x⟩ := k
  obtain ⟨h1, h2, h3, h4⟩ := h
  simp only [Tr.name, Tr.attrs, Tr.kids, Tr.text] at hn h1 h2 h3 h4
  subst hn h1 h2
  exact ⟨x, rfl, h3, h4⟩
theorem leaf_ok {x : Bs} (h : x ≠ []) (h2 : okText x = true) : LeafOk (.mk [] [] [] x) := ⟨rfl, rfl, h, h2⟩
theorem leaf_pr (x : Bs) : (Tr.mk [] [] [] x).pr = esc false x := by rw [Tr.pr]; rfl
theorem leaf_wt (x : Bs) : (Tr.mk [] [] [] x).wt = x.length + 30 := by rw [Tr.wt, Tr.wtL]; simp [attsW]
theorem leaf_dep (l : List Tr) (x y : Bs) : Tr.depL (l ++ [.mk [] [] [] x]) = Tr.depL (l ++ [.mk [] [] [] y]) := by rw [depL_snoc, depL_snoc]; rfl

theorem step_inv {st st' : BSt} {t : Tk} {p q : Nat} (h : BInv st p q) (ht : GoodT true t) (hs : stepB st t = .ok st') : BInv st' (p + (tokP t).length) (q + 2 * tkW t) := by
  obtain ⟨stack, root, c, tx⟩ := st
  cases ht with
  | no f s h1 =>
    have : stepB ⟨stack, root, c, tx⟩ ⟨5, [], [], s⟩ = .ok ⟨stack, root, c, tx⟩ := by unfold stepB; rw [if_neg (show ¬ (5 : Int) = 4 by decide), if_neg (show ¬ (5 : Int) = 1 by decide), if_neg (show ¬ (5 : Int) = 2 by decide), if_neg (show ¬ (5 : Int) = 3 by decide)]
    rw [this] at hs
    cases hs
    exact h.mono (by omega) (by omega)
  | he s h1 h2 =>
    have : stepB ⟨stack, root, c, tx⟩ ⟨6, [], [], s⟩ = .ok ⟨stack, root, c, tx⟩ := by unfold stepB; rw [if_neg (show ¬ (6 : Int) = 4 by decide), if_neg (show ¬ (6 : Int) = 1 by decide), if_neg (show ¬ (6 : Int) = 2 by decide), if_neg (show ¬ (6 : Int) = 3 by decide)]
    rw [this] at hs
    cases hs
    exact h.mono (by omega) (by omega)
  | tx f s h1 =>
    have hst : okText s = true := List.all_eq_true.2 h1
    have hkp : (tokP ⟨4, [], [], s⟩).length = (esc false s).length := by rw [tokP_4 rfl]
    have hkw : tkW ⟨4, [], [], s⟩ = s.length + 20 := by unfold tkW; simp [attsW]
    have he : stepB ⟨stack, root, c, tx⟩ ⟨4, [], [], s⟩ = lettersB ⟨stack, root, c, tx⟩ s := by unfold stepB; rw [if_pos rfl]
    rw [he] at hs
    rw [hkp, hkw]
    cases stack with
    | nil =>
      simp only [lettersB] at hs
      split at hs
      · cases hs; exact h.mono (by omega) (by omega)
      · cases hs
    | cons F S =>
      have hrn : root = none := by
        cases root with
        | none => rfl
        | some t => have := (h.root t rfl).1; cases this
      subst hrn
      simp only [lettersB] at hs
      split at hs
      · cases hs; exact h.mono (by omega) (by omega)
      rename_i hse
      have hsn : s ≠ [] := by simpa using hse
      have hF := h.frames F (List.mem_cons_self ..)
      have hd := h.dep
      have hc : c = (1 + Tr.cntL F.kids) + cntS S := h.cnt rfl
      have hp := h.pr
      have hq := h.wt
      simp only [prO, wtO, prS, wtS] at hp hq
      split at hs
      · rename_i htx
        cases hs
        obtain ⟨ks, k, e1, e2⟩ := (h.top F S rfl).1 htx
        have hRL := hF.kids
        rw [e1] at hRL
        obtain ⟨i1, i2, i3⟩ := rightL_init ks k hRL
        obtain ⟨x, rfl, hx1, hx2⟩ := leaf_shape e2 (i3 e2).1
        have hm : F.more s = ⟨F.name, F.attrs, ks ++ [.mk [] [] [] (x ++ s)]⟩ := by unfold Fr.more; rw [e1, addText_snoc']
        have hxs : okText (x ++ s) = true := by unfold okText at *; rw [List.all_append, hx2, hst]; rfl
        have hcn : (Tr.mk [] [] [] (x ++ s)).cnt = (Tr.mk [] [] [] x).cnt := by rw [Tr.cnt, Tr.cnt]
        rw [hm]
        refine ⟨fun H hH => ?_, fun H S' e => ?_, fun _ => ?_, (fun t e => by cases e), h.le, ?_, ?_, ?_⟩
        · rcases List.mem_cons.1 hH with rfl | hH
          · exact ⟨hF.name, hF.atts, rightL_snoc _ _ i1 (fun e => absurd rfl e) (fun _ => ⟨leaf_ok (by simp [hsn]) hxs, (i3 e2).2⟩)⟩
          · exact h.frames H (by simp [hH])
        · simp only [List.cons.injEq] at e
          obtain ⟨rfl, rfl⟩ := e
          exact ⟨fun _ => lastT_snoc.2 rfl, fun _ => rfl⟩
        · show c = (1 + Tr.cntL (ks ++ [.mk [] [] [] (x ++ s)])) + cntS S
          rw [hc, e1, cntL_snoc, cntL_snoc, hcn]
        · refine ⟨?_, hd.2⟩
          have := hd.1
          rw [e1] at this
          show S.length + 1 + Tr.depL (ks ++ [.mk [] [] [] (x ++ s)]) ≤ 64
          rw [leaf_dep ks (x ++ s) x]; exact this
        · rw [e1, prL_snoc, leaf_pr, List.length_append] at hp
          simp only [prO, prS]
          rw [prL_snoc, leaf_pr, esc_app, List.length_append, List.length_append]
          omega
        · rw [e1, wtL_snoc, leaf_wt] at hq
          simp only [wtO, wtS]
          rw [wtL_snoc, leaf_wt, List.length_append]
          omega
      · rename_i htx
        split at hs
        · cases hs
        · rename_i hc2
          cases hs
          have hnl : ¬ LastT F.kids := fun e => htx ((h.top F S rfl).2 e)
          have hcn : (Tr.mk [] [] [] s).cnt = 1 := by rw [Tr.cnt, Tr.cntL]
          refine ⟨fun H hH => ?_, fun H S' e => ?_, fun _ => ?_, (fun t e => by cases e), by show c + 1 ≤ 4096; omega, ?_, ?_, ?_⟩
          · rcases List.mem_cons.1 hH with rfl | hH
            · exact ⟨hF.name, hF.atts, rightL_snoc _ _ hF.kids (fun e => absurd rfl e) (fun _ => ⟨leaf_ok hsn hst, hnl⟩)⟩
            · exact h.frames H (by simp [hH])
          · simp only [List.cons.injEq] at e
            obtain ⟨rfl, rfl⟩ := e
            exact ⟨fun _ => lastT_snoc.2 rfl, fun _ => rfl⟩
          · show c + 1 = (1 + Tr.cntL (F.kids ++ [.mk [] [] [] s])) + cntS S
            rw [cntL_snoc, hcn]; omega
          · refine ⟨?_, hd.2⟩
            show S.length + 1 + Tr.depL (F.kids ++ [.mk [] [] [] s]) ≤ 64
            rw [depL_snoc, if_pos (show (Tr.mk [] [] [] s).name = [] from rfl)]
            have := hd.1
            omega
          · simp only [prO, prS, Fr.add]
            rw [prL_snoc, leaf_pr, List.length_append]
            omega
          · simp only [wtO, wtS, Fr.add]
            rw [wtL_snoc, leaf_wt]
            omega
  | cl f nm h1 h2 =>
    have hkp : (tokP ⟨3, nm, [], []⟩).length = nm.length + 3 := by
      unfold tokP
      rw [if_neg (show ¬ (3 : Int) = 5 by decide), if_neg (show ¬ (3 : Int) = 6 by decide), if_pos rfl]
      simp
    have he : stepB ⟨stack, root, c, tx⟩ ⟨3, nm, [], []⟩ = endB ⟨stack, root, c, tx⟩ ⟨3, nm, [], []⟩ := by unfold stepB; rw [if_neg (show ¬ (3 : Int) = 4 by decide), if_neg (show ¬ (3 : Int) = 1 by decide), if_neg (show ¬ (3 : Int) = 2 by decide), if_pos rfl]
    rw [he] at hs
    cases stack with
    | nil => simp only [endB] at hs; cases hs
    | cons F S =>
      have hrn : root = none := by
        cases root with
        | none => rfl
        | some t => have := (h.root t rfl).1; cases this
      subst hrn
      simp only [endB] at hs
      split at hs
      · rename_i hnm
        cases hs
        have hF := h.frames F (List.mem_cons_self ..)
        have hnl : F.name.length = nm.length := by rw [hnm]
        exact (h.close (a := F.name.length + 3) (b := 0) (tree_pr F hF) (by rw [tree_wt]; omega)).mono (by rw [hkp]; omega) (by omega)
      · cases hs
  | op f k hk nm ats h1 h2 h3 h4 =>
    have hname : okName nm = true := by
      unfold okName
      rw [h1]
      have : nm.isEmpty = false := by simpa using h2
      rw [this]; simp
    have hatt : GoodAtts ats := ⟨fun a ha => by
      have := h3 a ha
      refine ⟨?_, List.all_eq_true.2 this.text⟩
      unfold okName
      rw [this.name]
      have h5 : a.1.isEmpty = false := by simpa using this.ne
      rw [h5]; simp, h4⟩
    have hkw : tkW ⟨k, nm, ats, []⟩ = nm.length + attsW ats + 20 := by unfold tkW; simp
    have hkp : (tagP ⟨1, nm, ats, []⟩ [62]).length + (if k = 2 then 1 else 0) ≤ (tokP ⟨k, nm, ats, []⟩).length := by
      rcases hk with rfl | rfl
      · unfold tokP
        rw [if_neg (show ¬ (1 : Int) = 5 by decide), if_neg (show ¬ (1 : Int) = 6 by decide), if_neg (show ¬ (1 : Int) = 3 by decide), if_pos rfl]
        simp
      · unfold tokP
        rw [if_neg (show ¬ (2 : Int) = 5 by decide), if_neg (show ¬ (2 : Int) = 6 by decide), if_neg (show ¬ (2 : Int) = 3 by decide), if_neg (show ¬ (2 : Int) = 1 by decide), if_pos rfl]
        unfold tagP
        simp
        omega
    have hbeg : ∀ st1, beginB ⟨stack, root, c, tx⟩ ⟨k, nm, ats, []⟩ = .ok st1 → root = none ∧ st1 = ⟨⟨nm, ats, []⟩ :: stack, none, c + 1, false⟩ ∧ BInv ⟨⟨nm, ats, []⟩ :: stack, none, c + 1, false⟩ (p + (tagP ⟨1, nm, ats, []⟩ [62]).length) (q + (2 * nm.length + attsW ats + 30)) := by
      intro st1 hb
      unfold beginB at hb
      split at hb
      · cases hb
      split at hb
      · cases hb
      split at hb
      · cases hb
      rename_i hr hd hc
      have hrn : root = none := by
        cases root with
        | none => rfl
        | some t => simp at hr
      subst hrn
      cases hb
      refine ⟨rfl, rfl, ?_⟩
      have hp := h.pr
      have hq := h.wt
      simp only [prO, wtO] at hp hq
      have hcc := h.cnt rfl
      refine ⟨fun H hH => ?_, fun H S' e => ?_, fun _ => ?_, (fun t e => by cases e), by show c + 1 ≤ 4096; simp at hc; omega, ?_, ?_, ?_⟩
      · rcases List.mem_cons.1 hH with rfl | hH
        · exact ⟨hname, hatt, trivial⟩
        · exact h.frames H hH
      · simp only [List.cons.injEq] at e
        obtain ⟨rfl, rfl⟩ := e
        exact ⟨fun e => absurd e Bool.false_ne_true, fun ⟨ks, k', h', _⟩ => by cases ks <;> cases h'⟩
      · show c + 1 = (1 + Tr.cntL []) + cntS stack
        simp only [Tr.cntL]
        have : c = cntS stack := hcc
        omega
      · refine ⟨?_, h.dep⟩
        show stack.length + 1 + Tr.depL [] ≤ 64
        simp only [Tr.depL]
        simp at hd
        omega
      · simp only [prO, prS, Tr.prL, List.length_nil]; omega
      · simp only [wtO, wtS, Tr.wtL]; omega
    rcases hk with rfl | rfl
    · have he : stepB ⟨stack, root, c, tx⟩ ⟨1, nm, ats, []⟩ = beginB ⟨stack, root, c, tx⟩ ⟨1, nm, ats, []⟩ := by unfold stepB; rw [if_neg (show ¬ (1 : Int) = 4 by decide), if_pos rfl]
      rw [he] at hs
      obtain ⟨-, rfl, hi⟩ := hbeg _ hs
      exact hi.mono (by omega) (by rw [hkw]; omega)
    · have he : stepB ⟨stack, root, c, tx⟩ ⟨2, nm, ats, []⟩ = (beginB ⟨stack, root, c, tx⟩ ⟨2, nm, ats, []⟩).close := by unfold stepB; rw [if_neg (show ¬ (2 : Int) = 4 by decide), if_neg (show ¬ (2 : Int) = 1 by decide), if_pos rfl]
      rw [he] at hs
      cases hb : beginB ⟨stack, root, c, tx⟩ ⟨2, nm, ats, []⟩ with
      | bad x => rw [hb] at hs; cases hs
      | ok st1 =>
        obtain ⟨-, rfl, hi⟩ := hbeg _ hb
        rw [hb] at hs
        simp only [StR.close] at hs
        cases hs
        have hne : ¬ nm.isEmpty = true := by simpa using h2
        refine (hi.close (a := 1) (b := 0) ?_ (by rw [tree_wt]; omega)).mono (by simp only [if_pos] at hkp; omega) (by rw [hkw]; omega)
        unfold Fr.tree
        rw [Tr.pr, if_neg hne, if_pos (show ([] : List Tr).isEmpty = true from rfl)]
        unfold tagP
        simp only [List.length_cons, List.length_append, List.length_nil]; omega

theorem goodL_more {l : List Tk} : ∀ {f : Bool}, GoodL f l → ∀ t ∈ l, GoodT true t := by
  induction l with
  | nil => intro f _ t ht; cases ht
  | cons a l ih =>
    intro f h t ht
    rcases List.mem_cons.1 ht with rfl | ht
    · cases f
      · exact h.1.more
      · exact h.1
    · exact ih h.2 t ht
theorem run_inv : ∀ (acc : List (Tk × Bs)) (st : BSt) (p q : Nat), (∀ x ∈ acc, GoodT true x.1) → BInv st p q → ∀ t r, runB st acc = .ok t r → RightT t ∧ t.cnt ≤ 4096 ∧ t.dep ≤ 64 ∧ t.pr.length ≤ p + (printP (acc.map (·.1))).length ∧ t.wt ≤ q + 2 * tksW (acc.map (·.1))
  | [], st, p, q, _, h, t, r, hr => by
    simp only [runB] at hr
    split at hr
    · cases hr
    · split at hr
      · rename_i t' e
        cases hr
        obtain ⟨h1, h2, h3, h4⟩ := h.root _ e
        have hp := h.pr
        have hq := h.wt
        rw [e, h1] at hp hq
        simp only [prO, wtO, prS, wtS] at hp hq
        exact ⟨h2, h4, h3, by simp [printP]; omega, by simp [tksW]; omega⟩
      · cases hr
  | x :: acc, st, p, q, hg, h, t, r, hr => by
    obtain ⟨tk, pos⟩ := x
    simp only [runB] at hr
    split at hr
    · rename_i st' hs
      have hi := step_inv h (hg _ (List.mem_cons_self ..)) hs
      obtain ⟨h1, h2, h3, h4, h5⟩ := run_inv acc st' _ _ (fun x hx => hg x (List.mem_cons_of_mem _ hx)) hi t r hr
      have h4' : t.pr.length ≤ p + (tokP tk).length + (printP (acc.map (·.1))).length := h4
      have h5' : t.wt ≤ q + 2 * tkW tk + 2 * tksW (acc.map (·.1)) := h5
      refine ⟨h1, h2, h3, ?_, ?_⟩
      · show t.pr.length ≤ p + (tokP tk ++ printP (acc.map (·.1))).length
        rw [List.length_append]; omega
      · have : tksW ((tk :: acc.map (·.1))) = tkW tk + tksW (acc.map (·.1)) := by unfold tksW; simp
        show t.wt ≤ q + 2 * tksW (tk :: acc.map (·.1))
        omega
    · cases hr

/-- The law of TreeStays. -/
theorem tree_stays {T : Bs} {t : Tr} {r : Bs} (h : buildR T = .ok t r) : MayT t ∧ t.pr.length ≤ 6 * T.length ∧ t.wt ≤ 52 * T.length := by
  unfold buildR at h
  cases ha : allR T with
  | bad x y => rw [ha] at h; cases h
  | ok acc y =>
    rw [ha] at h
    obtain ⟨more, e1, hg⟩ := allGo_goodL _ true [] T ha
    rw [List.nil_append] at e1
    subst e1
    have hall : ∀ x ∈ acc, GoodT true x.1 := fun x hx => goodL_more hg x.1 (List.mem_map_of_mem hx)
    obtain ⟨h1, h2, h3, h4, h5⟩ := run_inv acc st0 0 0 hall BInv.start t r h
    obtain ⟨g1, g2⟩ := allR_eat ha
    exact ⟨⟨h1, h2, h3⟩, by omega, by omega⟩

theorem mem_le_sum {α : Type} (f : α → Nat) : ∀ (l : List α) (b : α), b ∈ l → f b ≤ (l.map f).sum
  | [], b, h => by cases h
  | a :: l, b, h => by
    rw [List.map_cons, List.sum_cons]
    rcases List.mem_cons.1 h with rfl | h
    · omega
    · have := mem_le_sum f l b h; omega
mutual
theorem fine_wt : ∀ t : Tr, t.wt ≤ 1000000000 → FineT t
  | .mk n a ks x, h => by
    rw [Tr.wt] at h
    refine .mk (by omega) (by omega) (fun b hb => ?_) (fineL_wt ks (by omega))
    have : b.1.length + 6 * b.2.length + 4 ≤ attsW a := by
      unfold attsW
      exact mem_le_sum (fun c : At2 => c.1.length + 6 * c.2.length + 4) a b hb
    omega
theorem fineL_wt : ∀ l : List Tr, Tr.wtL l ≤ 1000000000 → ∀ k ∈ l, FineT k
  | [], _, k, hk => by cases hk
  | t :: l, h, k, hk => by
    rw [Tr.wtL] at h
    rcases List.mem_cons.1 hk with e | hk
    · rw [e]; exact fine_wt t (by omega)
    · exact fineL_wt l (by omega) k hk
end

end Go.Proofs.Ytpchljiiappmnaa

/- The law TreeStays, walked; the conditions stand in the theorem. -/
namespace Go.Proofs.Ytpchljiiappmnaa
open Go Go.RowKit

set_option maxHeartbeats 1000000 in
theorem cut4_any (s : S) (w : World) : Calls Try.prog 32 #[.string s] w fun e w' => e = .returned (.string (cutS s)) ∧ w = w' := by
  by_cases h : 2000 < s.size
  · have hi : (2000 : Int) < (s.size : Int) := by omega
    have h2 : 2000 ≤ s.size := by omega
    have HE : Hid (cutS s = s.extract 0 2000) := by show _ = _; unfold cutS; rw [if_pos h]
    clear h
    go_enter Try.func32, Try.ntmps32
    go_wp2
    go_ret
    exact ⟨by rw [HE.out]; rfl, rfl⟩
  · have hi : ¬ (2000 : Int) < (s.size : Int) := by omega
    have HE : Hid (cutS s = s) := by show _ = _; unfold cutS; rw [if_neg h]
    clear h
    go_enter Try.func32, Try.ntmps32
    go_wp2
    go_ret
    exact ⟨by rw [HE.out]; rfl, rfl⟩

theorem runB_bad_nz : ∀ (l : List (Tk × Bs)) (st : BSt) {x : Int} {r : Bs}, runB st l = .bad x r → x ≠ 0
  | [], st, x, r, h => by
    simp only [runB] at h
    split at h
    · cases h; decide
    · split at h
      · cases h
      · cases h; decide
  | (t, q) :: l, st, x, r, h => by
    simp only [runB] at h
    split at h
    · exact runB_bad_nz l _ h
    · rename_i e he
      cases h
      exact stepB_bad he
theorem buildR_bad_nz {T : Bs} {x : Int} {r : Bs} (h : buildR T = .bad x r) : x ≠ 0 := by
  unfold buildR at h
  split at h
  · exact runB_bad_nz _ _ h
  · rename_i e q hq
    cases h
    exact allR_bad_ne hq
theorem lineCol_ge (l : Bs) : 1 ≤ (lineCol l).1 ∧ 1 ≤ (lineCol l).2 := by
  have h : ∀ (l : Bs) (p : Nat × Nat), 1 ≤ p.1 ∧ 1 ≤ p.2 → 1 ≤ (l.foldl (fun p c => if c = 10 then (p.1 + 1, 1) else (p.1, p.2 + 1)) p).1 ∧ 1 ≤ (l.foldl (fun p c => if c = 10 then (p.1 + 1, 1) else (p.1, p.2 + 1)) p).2 := by
    intro l
    induction l with
    | nil => intro p hp; exact hp
    | cons c l ih =>
      intro p hp
      rw [List.foldl_cons]
      apply ih
      split
      · exact ⟨by show 1 ≤ p.1 + 1; omega, Nat.le_refl _⟩
      · exact ⟨hp.1, by show 1 ≤ p.2 + 1; omega⟩
  exact h l (1, 1) ⟨Nat.le_refl _, Nat.le_refl _⟩
theorem noNode_at (w : World) : NodeOf w (.mk [] [] [] []) (.slice none 0 0) (.slice none 0 0) := .mk [] SliceX.nil rfl SliceX.nil (by simp)

set_option maxRecDepth 100000 in
set_option maxHeartbeats 16000000 in
theorem treeStaysLaw_any (s : S) (mx : Int) (w : World) (hm : w.cell? ⟨0, 0, none⟩ = some (.int .i64 mx)) :
    Calls Try.prog 17 #[.string s] w fun e w' => e = .returned (.bool true) ∧ Below w.heap.size w w' := by
  have hw0 : 0 < w.heap.size := World.block_lt_of_cell? w _ hm
  have hcs := cutS_size s
  have HCU := Lib.hid (cut4_any s)
  generalize cutS s = T at *
  have hbu := build_any T mx w (by omega) hm
  have HLV : Hid (∀ W, Below w.heap.size w W → Calls Try.prog 36 #[] W fun e w' => e = .returned (.bool true) ∧ Below W.heap.size W w') := fun W h => treeLives_any mx W ((h.cell (by exact hw0)).trans hm)
  have HMX : Hid (∀ W, Below w.heap.size w W → W.cell? ⟨0, 0, none⟩ = some (.int .i64 mx)) := fun W h => (h.cell (by exact hw0)).trans hm
  clear hm
  have hsz := size_data T
  cases hR : buildR T.data.toList with
  | bad x r =>
    have hx0 : (x == 0) = false := beq_eq_false_iff_ne.2 (buildR_bad_nz hR)
    have hx1 : (x != 0) = true := by rw [bne, hx0]; rfl
    rw [hR] at hbu
    have HBU := Lib.hid hbu
    have hP : pos T r ≤ T.size := by unfold pos; rw [← size_data]; omega
    have hlc := lineCol_ge (T.data.toList.take (pos T r))
    clear hbu hR hsz
    go_enter Try.func17, Try.ntmps17
    go_wp2_with fail
    refine (HCU.out w).mono ?_
    rintro e w' ⟨rfl, rfl⟩
    go_wp2_with fail
    refine HBU.out.mono ?_
    rintro e w1 ⟨rfl, hb⟩
    unfold noNode placeV
    generalize (lineCol (T.data.toList.take (pos T r))).1 = li at *
    generalize (lineCol (T.data.toList.take (pos T r))).2 = co at *
    generalize pos T r = P at *
    have hPI : (P : Int) ≤ (T.size : Int) := by omega
    have hP0 : (0 : Int) ≤ (P : Int) := by omega
    have hl1 : (1 : Int) ≤ (li : Int) := by omega
    have hc1 : (1 : Int) ≤ (co : Int) := by omega
    have HB := Lib.hid hb
    clear hb hlc hP
    go_wp2_with fail
    refine Calls.world ?_
    intro W1 hW1
    have hb1 : Below w1.heap.size w1 W1 := by rw [hW1]; first | exact ((Below.refl _ _).alloc (Nat.le_refl _) _).alloc (by simp) _ | exact (((Below.refl _ _).alloc (Nat.le_refl _) _).alloc (by simp) _).alloc (by simp; omega) _
    clear hW1
    have hB1 := HB.out.trans (hb1.mono HB.out.size)
    have HSM := refSame_any _ (.mk [] [] [] []) (.mk [] [] [] []) W1 (.slice none 0 0) (.slice none 0 0) (.slice none 0 0) (.slice none 0 0) (Nat.le_refl _) (noNode_at W1) (noNode_at W1)
    unfold nodeV at HSM
    refine HSM.mono ?_
    rintro e w3 ⟨z, rfl, hz, hb4⟩
    obtain rfl : z = true := hz.2 rfl
    have HB3 := Lib.hid (hB1.trans (hb4.mono hB1.size))
    clear hz hb4 hB1 hb1 HSM
    go_wp2_with fail
    refine (HLV.out w3 HB3.out).mono ?_
    rintro e w4 ⟨rfl, hb5⟩
    have HB4 := Lib.hid (HB3.out.trans (hb5.mono HB3.out.size))
    clear hb5
    go_wp2
    go_ret
    exact ⟨rfl, HB4.out⟩
  | ok t r =>
    rw [hR] at hbu
    obtain ⟨hmay, hpl, hwl⟩ := tree_stays hR
    have HBK : Hid (buildR t.pr = .ok t []) := tree_back hmay
    have hwt : t.wt ≤ 900000000 := by omega
    have hfi := fine_wt t (by omega)
    have hc6 : t.cnt ≤ 1000000 := by have := hmay.2.1; omega
    have hps : (bs t.pr : S).size ≤ 65536 := by rw [bs_size]; omega
    have HBU := Lib.hid hbu
    have HFA : Hid (t.wt ≤ 900000000 ∧ FineT t ∧ t.cnt ≤ 1000000 ∧ (bs t.pr : S).size ≤ 65536 ∧ MayT t) := ⟨hwt, hfi, hc6, hps, hmay⟩
    clear hbu hR hsz hmay hpl hwl hwt hfi hc6 hps
    go_enter Try.func17, Try.ntmps17
    go_wp2_with fail
    refine (HCU.out w).mono ?_
    rintro e w' ⟨rfl, rfl⟩
    go_wp2_with fail
    refine HBU.out.mono ?_
    rintro e w1 ⟨av, kv, rfl, hn, hb⟩
    obtain ⟨a1, a2, k1, k2, rfl, rfl, -, -⟩ := hn.shape
    have HN := Lib.hid hn
    have HB := Lib.hid hb
    unfold nodeV zeroPlace
    clear hn hb HBU
    go_wp2_with fail
    refine Calls.world ?_
    intro W1 hW1
    have x3 : Box W1 w1.heap.size [.string (bs t.name), .slice a1 t.attrs.length a2, .slice k1 t.kids.length k2, .string (bs t.text)] := by rw [hW1]; exact (Box.new w1 _ _ _ rfl).alloc _
    have hb1 : Below w1.heap.size w1 W1 := by rw [hW1]; exact ((Below.refl _ _).alloc (Nat.le_refl _) _).alloc (by simp) _
    clear hW1
    have HB1 := Lib.hid (HB.out.trans (hb1.mono HB.out.size))
    have HN1 := Lib.hid (HN.out.later hb1)
    have hpr := treePrint_any t W1 _ _ HN1.out HFA.out.1
    unfold nodeV at hpr
    refine hpr.mono ?_
    rintro e w2 ⟨rfl, hb2⟩
    have HB2 := Lib.hid (HB1.out.trans (hb2.mono HB1.out.size))
    have HN2 := Lib.hid (HN1.out.later hb2)
    have HX2 := Lib.hid (x3.below hb2 x3.lt)
    obtain ⟨Y, hY⟩ : ∃ Y : S, Y = bs t.pr := ⟨_, rfl⟩
    rw [← hY]
    have HBY : Hid (Calls Try.prog 33 #[.string Y] w2 (BuildOut Y w2 (.ok t []))) := by
      have h := build_any Y mx w2 (by rw [hY]; exact HFA.out.2.2.2.1) (HMX.out _ HB2.out)
      rw [show buildR Y.data.toList = .ok t [] by rw [hY, bs_data]; exact HBK.out] at h
      exact h
    clear hb1 hb2 x3 hpr hY HB HN HB1 HN1
    go_wp2_with fail
    refine HBY.out.mono ?_
    rintro e w3 ⟨av, kv, rfl, hn, hb3⟩
    obtain ⟨b1, b2, m1, m2, rfl, rfl, -, -⟩ := hn.shape
    have HB3 := Lib.hid (HB2.out.trans (hb3.mono HB2.out.size))
    have HN3 := Lib.hid (HN2.out.later hb3)
    have HM3 := Lib.hid hn
    have x3 := HX2.out.below hb3 HX2.out.lt
    have HX3 := Lib.hid x3
    have y0 := x3.cell 0 _ rfl
    have y1 := x3.cell 1 _ rfl
    have y2 := x3.cell 2 _ rfl
    have y3 := x3.cell 3 _ rfl
    have yl := x3.lt
    unfold nodeV zeroPlace
    clear hn hb3 HBY HB2 HN2 HX2 x3
    go_wp2_with fail
    refine Calls.world ?_
    intro W4 hW4
    have xn : Box W4 w3.heap.size [.string (bs t.name), .slice b1 t.attrs.length b2, .slice m1 t.kids.length m2, .string (bs t.text)] := by rw [hW4]; exact (Box.new w3 _ _ _ rfl).alloc _
    have hb4 : Below w3.heap.size w3 W4 := by rw [hW4]; exact ((Below.refl _ _).alloc (Nat.le_refl _) _).alloc (by simp) _
    clear hW4 y0 y1 y2 y3 yl
    have HB4 := Lib.hid (HB3.out.trans (hb4.mono HB3.out.size))
    have HN4 := Lib.hid (HN3.out.later hb4)
    have HM4 := Lib.hid (HM3.out.later hb4)
    have hmy := (refMay_any t W4 _ _ HN4.out HFA.out.2.1 HFA.out.2.2.1).mono fun e w' h => h.qb (q := true) ⟨fun _ => HFA.out.2.2.2.2, fun _ => rfl⟩
    unfold nodeV at hmy
    refine hmy.mono ?_
    rintro e w5 ⟨rfl, hb5⟩
    have HB5 := Lib.hid (HB4.out.trans (hb5.mono HB4.out.size))
    have HN5 := Lib.hid (HN4.out.later hb5)
    have HM5 := Lib.hid (HM4.out.later hb5)
    have x3 := (HX3.out.below hb4 HX3.out.lt).below hb5 (Nat.lt_of_lt_of_le HX3.out.lt hb4.size)
    have HX5 := Lib.hid x3
    have HXN := Lib.hid (xn.below hb5 xn.lt)
    have y0 := x3.cell 0 _ rfl
    have y1 := x3.cell 1 _ rfl
    have y2 := x3.cell 2 _ rfl
    have y3 := x3.cell 3 _ rfl
    have yl := x3.lt
    clear hb4 hb5 hmy xn x3 HB3 HN3 HM3 HX3 HB4 HN4 HM4
    go_wp2_with fail
    have hty := (treeMay_any t w5 _ _ HN5.out HFA.out.2.1).mono fun e w' h => h.qb (q := true) ⟨fun _ => HFA.out.2.2.2.2, fun _ => rfl⟩
    unfold nodeV at hty
    refine hty.mono ?_
    rintro e w6 ⟨rfl, hb6⟩
    have HB6 := Lib.hid (HB5.out.trans (hb6.mono HB5.out.size))
    have HN6 := Lib.hid (HN5.out.later hb6)
    have HM6 := Lib.hid (HM5.out.later hb6)
    have x3 := HX5.out.below hb6 HX5.out.lt
    have xn := HXN.out.below hb6 HXN.out.lt
    have z0 := x3.cell 0 _ rfl
    have z1 := x3.cell 1 _ rfl
    have z2 := x3.cell 2 _ rfl
    have z3 := x3.cell 3 _ rfl
    have zl := x3.lt
    have u0 := xn.cell 0 _ rfl
    have u1 := xn.cell 1 _ rfl
    have u2 := xn.cell 2 _ rfl
    have u3 := xn.cell 3 _ rfl
    have ul := xn.lt
    clear hb6 hty x3 xn HB5 HN5 HM5 HX5 HXN y0 y1 y2 y3 yl
    go_wp2_with fail
    have hsm := refSame_any _ t t w6 _ _ (.slice b1 t.attrs.length b2) (.slice m1 t.kids.length m2) (Nat.le_refl _) HN6.out HM6.out
    unfold nodeV at hsm
    refine hsm.mono ?_
    rintro e w7 ⟨z, rfl, hz, hb7⟩
    obtain rfl : z = true := hz.2 rfl
    have HB7 := Lib.hid (HB6.out.trans (hb7.mono HB6.out.size))
    clear hz hb7 hsm z0 z1 z2 z3 zl u0 u1 u2 u3 ul
    go_wp2_with fail
    refine (HLV.out w7 HB7.out).mono ?_
    rintro e w8 ⟨rfl, hb8⟩
    have HB8 := Lib.hid (HB7.out.trans (hb8.mono HB7.out.size))
    clear hb8
    go_wp2
    go_ret
    exact ⟨rfl, HB8.out⟩

end Go.Proofs.Ytpchljiiappmnaa
