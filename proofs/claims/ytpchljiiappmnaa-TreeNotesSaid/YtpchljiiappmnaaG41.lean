/- A tree's printing is built as that tree; no program in sight. -/
import Derived.Test.YtpchljiiappmnaaG39
import Derived.Test.YtpchljiiappmnaaG37
import Derived.Test.YtpchljiiappmnaaG14
import Derived.Test.YtpchljiiappmnaaG40
namespace Go.Proofs.Ytpchljiiappmnaa
open Go Go.RowKit

mutual
/-- A tree's tokens. -/
def toksT : Tr → List Tk
  | .mk n a ks x => if n.isEmpty then [⟨4, [], [], x⟩] else if ks.isEmpty then [⟨2, n, a, []⟩] else ⟨1, n, a, []⟩ :: (toksL ks ++ [⟨3, n, [], []⟩])
def toksL : List Tr → List Tk
  | [] => []
  | t :: l => toksT t ++ toksL l
end
mutual
theorem toks_print : ∀ t : Tr, printP (toksT t) = t.pr
  | .mk n a ks x => by
    rw [toksT, Tr.pr]
    by_cases hn : n.isEmpty = true
    · rw [if_pos hn, if_pos hn, printP_one]; rfl
    · rw [if_neg hn, if_neg hn]
      by_cases hk : ks.isEmpty = true
      · rw [if_pos hk, if_pos hk, printP_one]; rfl
      · rw [if_neg hk, if_neg hk]
        have h1 : printP (⟨1, n, a, []⟩ :: (toksL ks ++ [⟨3, n, [], []⟩])) = tokP ⟨1, n, a, []⟩ ++ printP (toksL ks ++ [⟨3, n, [], []⟩]) := rfl
        rw [h1, printP_app, toksL_print ks, printP_one]
        rfl
theorem toksL_print : ∀ l : List Tr, printP (toksL l) = Tr.prL l
  | [] => by rw [toksL, Tr.prL]; rfl
  | t :: l => by rw [toksL, Tr.prL, printP_app, toks_print t, toksL_print l]
end

/-- Kids that are as they should be, one behind the other. -/
def RightL : List Tr → Prop
  | [] => True
  | k :: l => (k.name ≠ [] → RightT k) ∧ (k.name = [] → LeafOk k ∧ ∀ u r, l = u :: r → u.name ≠ []) ∧ RightL l
theorem right_list : ∀ (ks : List Tr), (∀ k ∈ ks, k.name ≠ [] → RightT k) → (∀ k ∈ ks, k.name = [] → LeafOk k) → (∀ (k : Nat) (h : k + 1 < ks.length), (ks[k]'(Nat.lt_of_succ_lt h)).name = [] → (ks[k + 1]'h).name ≠ []) → RightL ks
  | [], _, _, _ => trivial
  | k :: l, h1, h2, h3 => by
    refine ⟨h1 k (List.mem_cons_self ..), fun hn => ⟨h2 k (List.mem_cons_self ..) hn, fun u r e => ?_⟩, right_list l (fun x hx => h1 x (List.mem_cons_of_mem _ hx)) (fun x hx => h2 x (List.mem_cons_of_mem _ hx)) (fun i hi hx => ?_)⟩
    · subst e
      exact h3 0 (by simp) hn
    · exact h3 (i + 1) (by simpa using hi) hx
theorem RightT.kidsL {t : Tr} (h : RightT t) : RightL t.kids := by
  cases h with
  | mk hn hx ha hk hl hs => exact right_list _ hk hl hs
theorem okName_good {n : Bs} (h : okName n = true) : nameLen n = n.length ∧ n ≠ [] := by
  unfold okName at h
  simp only [Bool.and_eq_true, Bool.not_eq_true', decide_eq_true_eq] at h
  exact ⟨h.2, fun e => by rw [e] at h; exact absurd h.1 (by decide)⟩
theorem goodAtts_a {l : List At2} (h : GoodAtts l) : (∀ a ∈ l, GoodA a) ∧ (l.map (·.1)).Nodup :=
  ⟨fun a ha => by
    obtain ⟨h1, h2⟩ := h.1 a ha
    obtain ⟨h3, h4⟩ := okName_good h1
    exact ⟨h3, h4, fun c hc => List.all_eq_true.1 h2 c hc⟩, h.2⟩
theorem toks_head {t : Tr} (h : t.name ≠ []) : ∃ u r, toksT t = u :: r ∧ u.kind ≠ 4 := by
  obtain ⟨n, a, ks, x⟩ := t
  have h' : n ≠ [] := h
  have hn : ¬ n.isEmpty = true := by simpa using h'
  rw [toksT, if_neg hn]
  split
  · exact ⟨_, _, rfl, show (2 : Int) ≠ 4 by decide⟩
  · exact ⟨_, _, rfl, show (1 : Int) ≠ 4 by decide⟩

mutual
theorem alt_t : ∀ (t : Tr), RightT t → ∀ (f : Bool) (rest : List Tk), Alt false rest → Alt f (toksT t ++ rest)
  | .mk n a ks x, h, f, rest, hr => by
    have hL := h.kidsL
    cases h with
    | mk hn hx ha hk hl hs =>
      obtain ⟨g1, g2⟩ := okName_good hn
      obtain ⟨g3, g4⟩ := goodAtts_a ha
      have hne : ¬ n.isEmpty = true := by simpa using g2
      rw [toksT, if_neg hne]
      by_cases hk0 : ks.isEmpty = true
      · rw [if_pos hk0]
        exact ⟨.op f 2 (.inr rfl) n a g1 g2 g3 g4, (fun h => absurd h (show ¬ (2 : Int) = 4 by decide)), hr⟩
      · rw [if_neg hk0]
        refine ⟨.op f 1 (.inl rfl) n a g1 g2 g3 g4, (fun h => absurd h (show ¬ (1 : Int) = 4 by decide)), ?_⟩
        show Alt false ((toksL ks ++ [⟨3, n, [], []⟩]) ++ rest)
        rw [List.append_assoc]
        exact alt_l ks hL _ ⟨.cl false n g1 g2, (fun h => absurd h (show ¬ (3 : Int) = 4 by decide)), hr⟩ (fun u r e => by cases e; exact (show (3 : Int) ≠ 4 by decide))
theorem alt_l : ∀ (ks : List Tr), RightL ks → ∀ (rest : List Tk), Alt false rest → (∀ u r, rest = u :: r → u.kind ≠ 4) → Alt false (toksL ks ++ rest)
  | [], _, rest, hr, _ => by rw [toksL]; exact hr
  | k :: l, h, rest, hr, h4 => by
    obtain ⟨h1, h2, h3⟩ := h
    have ih := alt_l l h3 rest hr h4
    rw [toksL, List.append_assoc]
    by_cases hn : k.name = []
    · obtain ⟨⟨e1, e2, e3, e4⟩, h5⟩ := h2 hn
      obtain ⟨kn, ka, kk, kx⟩ := k
      simp only [Tr.name, Tr.attrs, Tr.kids, Tr.text] at hn e1 e2 e3 e4
      subst hn e1 e2
      rw [toksT, if_pos (show ([] : Bs).isEmpty = true from rfl)]
      refine ⟨.tx false kx (fun c hc => List.all_eq_true.1 e4 c hc), fun _ => ⟨e3, fun u r e => ?_⟩, ih⟩
      cases l with
      | nil => rw [toksL] at e; exact h4 u r e
      | cons k2 l2 =>
        obtain ⟨u2, r2, e5, e6⟩ := toks_head (h5 k2 l2 rfl)
        rw [toksL, e5] at e
        cases e
        exact e6
    · exact alt_t k (h1 hn) false _ ih
end

/-- What the builder does with one element's tokens. -/
def frOf (t : Tr) : Fr := ⟨t.name, t.attrs, t.kids⟩
theorem frOf_tree {t : Tr} (h : t.text = []) : (frOf t).tree = t := by obtain ⟨n, a, ks, x⟩ := t; cases h; rfl
theorem map_cons_inv {acc : List (Tk × Bs)} {t : Tk} {l : List Tk} (h : acc.map (·.1) = t :: l) : ∃ p more, acc = (t, p) :: more ∧ more.map (·.1) = l := by
  cases acc with
  | nil => cases h
  | cons q more =>
    simp only [List.map_cons, List.cons.injEq] at h
    obtain ⟨h1, h2⟩ := h
    exact ⟨q.2, more, by rw [← h1], h2⟩
theorem map_app_inv {acc : List (Tk × Bs)} {l m : List Tk} (h : acc.map (·.1) = l ++ m) : ∃ a b, acc = a ++ b ∧ a.map (·.1) = l ∧ b.map (·.1) = m := by
  obtain ⟨a, b, h1, h2, h3⟩ := List.map_eq_append_iff.1 h
  exact ⟨a, b, h1, h2, h3⟩

mutual
theorem run_t : ∀ (t : Tr), RightT t → ∀ (st : BSt) (acc rest : List (Tk × Bs)), acc.map (·.1) = toksT t → st.root = none → st.stack.length + t.dep ≤ 64 → st.count + t.cnt ≤ 4096 →
    runB st (acc ++ rest) = runB (closeB (frOf t) st.stack none (st.count + t.cnt)) rest
  | .mk n a ks x, h, st, acc, rest, he, hr, hd, hc => by
    have hL := h.kidsL
    have hname := h
    cases hname with
    | mk hn hx ha hk hl hs =>
      obtain ⟨g1, g2⟩ := okName_good hn
      have hne : ¬ n.isEmpty = true := by simpa using g2
      rw [Tr.dep] at hd
      rw [Tr.cnt] at hc
      have hb : ∀ k : Int, beginB st ⟨k, n, a, []⟩ = .ok ⟨⟨n, a, []⟩ :: st.stack, none, st.count + 1, false⟩ := fun k => by
        unfold beginB
        rw [hr, if_neg (by simp), if_neg (by omega), if_neg (by omega)]
      rw [toksT, if_neg hne] at he
      by_cases hk0 : ks.isEmpty = true
      · rw [if_pos hk0] at he
        obtain ⟨p, more, rfl, hm⟩ := map_cons_inv he
        have : more = [] := by cases more with | nil => rfl | cons _ _ => cases hm
        subst this
        have hke : ks = [] := by simpa using hk0
        subst hke
        have hs : stepB st ⟨2, n, a, []⟩ = .ok (closeB ⟨n, a, []⟩ st.stack none (st.count + 1)) := by
          unfold stepB
          rw [if_neg (show ¬ (2 : Int) = 4 by decide), if_neg (show ¬ (2 : Int) = 1 by decide), if_pos rfl, hb]
          rfl
        show runB st ((⟨2, n, a, []⟩, p) :: rest) = _
        simp only [runB, hs]
        rw [Tr.cnt, Tr.cntL]
        rfl
      · rw [if_neg hk0] at he
        obtain ⟨p, more, rfl, hm⟩ := map_cons_inv he
        obtain ⟨m1, m2, rfl, hm1, hm2⟩ := map_app_inv hm
        obtain ⟨p3, m3, rfl, hm3⟩ := map_cons_inv hm2
        have : m3 = [] := by cases m3 with | nil => rfl | cons _ _ => cases hm3
        subst this
        have hs : stepB st ⟨1, n, a, []⟩ = .ok ⟨⟨n, a, []⟩ :: st.stack, none, st.count + 1, false⟩ := by
          unfold stepB
          rw [if_neg (show ¬ (1 : Int) = 4 by decide), if_pos rfl, hb]
        obtain ⟨tx', hx'⟩ := run_l ks hL ⟨n, a, []⟩ st.stack (st.count + 1) false m1 hm1 (fun h => by cases h) (by omega) (by omega)
        show runB st ((⟨1, n, a, []⟩, p) :: ((m1 ++ [(⟨3, n, [], []⟩, p3)]) ++ rest)) = _
        simp only [runB, hs]
        rw [List.append_assoc, hx']
        have he3 : stepB ⟨⟨n, a, [] ++ ks⟩ :: st.stack, none, st.count + 1 + Tr.cntL ks, tx'⟩ ⟨3, n, [], []⟩ = .ok (closeB ⟨n, a, [] ++ ks⟩ st.stack none (st.count + 1 + Tr.cntL ks)) := by
          unfold stepB
          rw [if_neg (show ¬ (3 : Int) = 4 by decide), if_neg (show ¬ (3 : Int) = 1 by decide), if_neg (show ¬ (3 : Int) = 2 by decide), if_pos rfl]
          unfold endB
          exact if_pos rfl
        show runB _ ((⟨3, n, [], []⟩, p3) :: rest) = _
        simp only [runB, he3]
        rw [Tr.cnt, List.nil_append, show st.count + 1 + Tr.cntL ks = st.count + (1 + Tr.cntL ks) by omega]
        rfl
theorem run_l : ∀ (ks : List Tr), RightL ks → ∀ (F : Fr) (S : List Fr) (c : Nat) (tx : Bool) (acc : List (Tk × Bs)), acc.map (·.1) = toksL ks → (tx = true → ∀ u r, ks = u :: r → u.name ≠ []) → S.length + 1 + Tr.depL ks ≤ 64 → c + Tr.cntL ks ≤ 4096 →
    ∃ tx' : Bool, ∀ rest, runB ⟨F :: S, none, c, tx⟩ (acc ++ rest) = runB ⟨⟨F.name, F.attrs, F.kids ++ ks⟩ :: S, none, c + Tr.cntL ks, tx'⟩ rest
  | [], _, F, S, c, tx, acc, he, _, _, _ => by
    rw [toksL] at he
    have : acc = [] := by simpa using he
    subst this
    exact ⟨tx, fun rest => by rw [List.append_nil, Tr.cntL]; rfl⟩
  | k :: l, h, F, S, c, tx, acc, he, htx, hd, hc => by
    obtain ⟨h1, h2, h3⟩ := h
    rw [toksL] at he
    rw [Tr.depL] at hd
    rw [Tr.cntL] at hc
    obtain ⟨m1, m2, rfl, hm1, hm2⟩ := map_app_inv he
    by_cases hn : k.name = []
    · obtain ⟨⟨e1, e2, e3, e4⟩, h5⟩ := h2 hn
      obtain ⟨kn, ka, kk, kx⟩ := k
      simp only [Tr.name, Tr.attrs, Tr.kids, Tr.text] at hn e1 e2 e3 e4
      subst hn e1 e2
      have hcn : (Tr.mk [] [] [] kx).cnt = 1 := by rw [Tr.cnt, Tr.cntL]
      rw [hcn] at hc
      rw [toksT, if_pos (show ([] : Bs).isEmpty = true from rfl)] at hm1
      obtain ⟨p, m3, rfl, hm3⟩ := map_cons_inv hm1
      have : m3 = [] := by cases m3 with | nil => rfl | cons _ _ => cases hm3
      subst this
      have htf : tx = false := by
        cases tx with
        | false => rfl
        | true => exact absurd rfl (htx rfl _ _ rfl)
      subst htf
      have hs : stepB ⟨F :: S, none, c, false⟩ ⟨4, [], [], kx⟩ = .ok ⟨F.add (.mk [] [] [] kx) :: S, none, c + 1, true⟩ := by
        have hxe : kx.isEmpty = false := by simpa using e3
        unfold stepB
        rw [if_pos rfl]
        simp only [lettersB, hxe]
        rw [if_neg (by simp), if_neg (by simp), if_neg (by omega)]
      obtain ⟨tx', hx'⟩ := run_l l h3 (F.add (.mk [] [] [] kx)) S (c + 1) true m2 hm2 (fun _ u r e => h5 u r e) (by omega) (by omega)
      refine ⟨tx', fun rest => ?_⟩
      show runB _ ((⟨4, [], [], kx⟩, p) :: (m2 ++ rest)) = _
      simp only [runB, hs]
      rw [hx', Tr.cntL, hcn]
      simp only [Fr.add, List.append_assoc, List.singleton_append]
      rw [show c + 1 + Tr.cntL l = c + (1 + Tr.cntL l) by omega]
    · have hr := h1 hn
      rw [if_neg hn] at hd
      have hrt : k.text = [] := by cases hr; assumption
      have ht := run_t k hr ⟨F :: S, none, c, tx⟩ m1
      obtain ⟨tx', hx'⟩ := run_l l h3 (F.add k) S (c + k.cnt) false m2 hm2 (fun h => by cases h) (by omega) (by omega)
      refine ⟨tx', fun rest => ?_⟩
      rw [List.append_assoc, ht (m2 ++ rest) hm1 rfl (by show S.length + 1 + k.dep ≤ 64; omega) (by show c + k.cnt ≤ 4096; omega)]
      have hcl : closeB (frOf k) (F :: S) none (c + k.cnt) = ⟨F.add k :: S, none, c + k.cnt, false⟩ := by
        unfold closeB
        rw [frOf_tree hrt]
      show runB (closeB (frOf k) (F :: S) none (c + k.cnt)) (m2 ++ rest) = _
      rw [hcl, hx', Tr.cntL]
      simp only [Fr.add, List.append_assoc, List.singleton_append]
      rw [show c + k.cnt + Tr.cntL l = c + (k.cnt + Tr.cntL l) by omega]
end

/-- The law of TreeBack. -/
theorem tree_back {t : Tr} (h : MayT t) : buildR t.pr = .ok t [] := by
  obtain ⟨h1, h2, h3⟩ := h
  have ha : Alt true (toksT t) := by
    have := alt_t t h1 true [] trivial
    rwa [List.append_nil] at this
  obtain ⟨more, e1, e2⟩ := alt_all (toksT t) (printP (toksT t)).length true [] ha (Nat.le_refl _)
  rw [toks_print] at e1
  have hall : allR t.pr = .ok more [] := by
    unfold allR
    rw [e1, List.nil_append]
  unfold buildR
  rw [hall]
  have := run_t t h1 st0 more [] e2 rfl (by show 0 + t.dep ≤ 64; omega) (by show 0 + t.cnt ≤ 4096; omega)
  rw [List.append_nil] at this
  show runB st0 more = _
  rw [this]
  have hrt : t.text = [] := by cases h1; assumption
  show runB (closeB (frOf t) [] none (0 + t.cnt)) [] = _
  unfold closeB
  rw [frOf_tree hrt]
  rfl

end Go.Proofs.Ytpchljiiappmnaa

/- The law TreeBack, walked; the conditions stand in the theorem. -/
namespace Go.Proofs.Ytpchljiiappmnaa
open Go Go.RowKit

theorem eqg_placeB : Try.prog.eqGuardType Try.prog.depth 26 = false := by kernel_rfl
theorem eqs_placeB : Try.prog.stoodInHeld 26 = false := by kernel_rfl
theorem eql_placeB (a b c : Int) (w : World) : (binOp .eql 26 (.agg #[.int .i64 a, .int .i64 b, .int .i64 c]) (.agg #[.int .i64 a, .int .i64 b, .int .i64 c])).run Try.prog w = .ok (.bool true) w := by
  have h := eqs_placeB
  simp [go_sem, h]

attribute [local go_sem ↓] eqg_placeB eql_placeB in
set_option maxRecDepth 100000 in
set_option maxHeartbeats 16000000 in
theorem treeBackLaw_any (t : Tr) (mx : Int) (w : World) (av kv : Value) (ht : NodeOf w t av kv) (hm : w.cell? ⟨0, 0, none⟩ = some (.int .i64 mx)) :
    Calls Try.prog 16 #[nodeV t av kv] w fun e w' => e = .returned (.bool true) ∧ Below w.heap.size w w' := by
  have hw0 : 0 < w.heap.size := World.block_lt_of_cell? w _ hm
  obtain ⟨ao, ac, ko, kc, rfl, rfl, -, -⟩ := ht.shape
  have HLV : Hid (∀ W, Below w.heap.size w W → Calls Try.prog 36 #[] W fun e w' => e = .returned (.bool true) ∧ Below W.heap.size W w') := fun W h => treeLives_any mx W ((h.cell (by exact hw0)).trans hm)
  have HLA : Hid (∀ W, Below w.heap.size w W → Calls Try.prog 37 #[.agg #[.string (bs t.name), .slice ao t.attrs.length ac, .slice ko t.kids.length kc, .string (bs t.text)]] W fun e w' => Below W.heap.size W w' ∧ ∃ b : Bool, e = .returned (.bool b) ∧ (b = true → LightT t ∧ t.cnt ≤ 300)) := fun W h => lightTop_any t W _ _ (ht.later h)
  have HMX : Hid (∀ W, Below w.heap.size w W → W.cell? ⟨0, 0, none⟩ = some (.int .i64 mx)) := fun W h => (h.cell (by exact hw0)).trans hm
  have HT := Lib.hid ht
  clear ht hm
  unfold nodeV
  go_enter Try.func16, Try.ntmps16
  go_wp2_with fail
  refine Calls.world ?_
  intro W0 hW0
  have hb0 : Below w.heap.size w W0 := by rw [hW0]; exact (Below.refl _ w).alloc (Nat.le_refl _) _
  have xa : Box W0 w.heap.size [.string (bs t.name), .slice ao t.attrs.length ac, .slice ko t.kids.length kc, .string (bs t.text)] := by rw [hW0]; exact Box.new w _ _ _ rfl
  clear hW0
  refine (HLA.out _ hb0).mono ?_
  rintro e w2 ⟨hb1, z, rfl, hz⟩
  have hB2 := hb0.trans (hb1.mono hb0.size)
  have xa2 := xa.below hb1 xa.lt
  have HZ := Lib.hid hz
  have HB2 := Lib.hid hB2
  have HX2 := Lib.hid xa2
  clear hz hb0 hb1 xa HLA xa2 hB2
  cases z with
  | false =>
    go_wp2_with fail
    refine (HLV.out _ HB2.out).mono ?_
    rintro e w3 ⟨rfl, hb3⟩
    have HB3 := Lib.hid (HB2.out.trans (hb3.mono HB2.out.size))
    clear hb3
    go_wp2
    go_ret
    exact ⟨rfl, HB3.out⟩
  | true =>
    obtain ⟨hli, hcn⟩ := HZ.out (by trivial)
    have hwt := wt_light t hli
    have HWT : Hid (t.wt ≤ 900000000) := by show _ ≤ _; omega
    have hfi := hli.fine
    obtain ⟨q, hq⟩ := bool_of (MayT t)
    have HMY : Hid (∀ V, Below w.heap.size w V → Calls Try.prog 38 #[.agg #[.string (bs t.name), .slice ao t.attrs.length ac, .slice ko t.kids.length kc, .string (bs t.text)]] V fun e w' => e = .returned (.bool q) ∧ Below V.heap.size V w') := fun V h => (refMay_any t V _ _ (HT.out.later h) hfi (by omega)).mono fun e w' h => h.qb hq
    have HQ := Lib.hid hq
    have y0 := HX2.out.cell 0 _ rfl
    have y1 := HX2.out.cell 1 _ rfl
    have y2 := HX2.out.cell 2 _ rfl
    have y3 := HX2.out.cell 3 _ rfl
    have yl := HX2.out.lt
    clear hli hcn hwt hfi HZ hq
    go_wp2_with fail
    refine (HMY.out _ HB2.out).mono ?_
    rintro e w3 ⟨rfl, hb3⟩
    have HB3 := Lib.hid (HB2.out.trans (hb3.mono HB2.out.size))
    have HX3 := Lib.hid (HX2.out.below hb3 yl)
    clear hb3 HMY y0 y1 y2 y3 yl HX2 HB2
    cases q with
    | false =>
      go_wp2_with fail
      refine (HLV.out _ HB3.out).mono ?_
      rintro e w4 ⟨rfl, hb4⟩
      have HB4 := Lib.hid (HB3.out.trans (hb4.mono HB3.out.size))
      clear hb4
      go_wp2
      go_ret
      exact ⟨rfl, HB4.out⟩
    | true =>
      have hmay : MayT t := HQ.out.1 (by trivial)
      have HBK : Hid (buildR t.pr = .ok t []) := tree_back hmay
      have HPR : Hid (∀ V, Below w.heap.size w V → Calls Try.prog 47 #[.agg #[.string (bs t.name), .slice ao t.attrs.length ac, .slice ko t.kids.length kc, .string (bs t.text)]] V fun e w' => e = .returned (.string (bs t.pr)) ∧ Below V.heap.size V w') := fun V h => treePrint_any t V _ _ (HT.out.later h) HWT.out
      have y0 := HX3.out.cell 0 _ rfl
      have y1 := HX3.out.cell 1 _ rfl
      have y2 := HX3.out.cell 2 _ rfl
      have y3 := HX3.out.cell 3 _ rfl
      have yl := HX3.out.lt
      clear hmay HQ
      go_wp2_with fail
      refine (HPR.out _ HB3.out).mono ?_
      rintro e w4 ⟨rfl, hb4⟩
      have HB4 := Lib.hid (HB3.out.trans (hb4.mono HB3.out.size))
      have HX4 := Lib.hid (HX3.out.below hb4 yl)
      obtain ⟨Y, hY⟩ : ∃ Y : S, Y = bs t.pr := ⟨_, rfl⟩
      rw [← hY]
      have HYE := Lib.hid hY
      clear hb4 HPR y0 y1 y2 y3 yl HX3 HB3 hY
      by_cases hsz : 65536 < Y.size
      · have hI : (65536 : Int) < (Y.size : Int) := by omega
        clear hsz
        go_wp2_with fail
        refine (HLV.out _ HB4.out).mono ?_
        rintro e w5 ⟨rfl, hb5⟩
        have HB5 := Lib.hid (HB4.out.trans (hb5.mono HB4.out.size))
        clear hb5
        go_wp2
        go_ret
        exact ⟨rfl, HB5.out⟩
      · have hI : ¬ (65536 : Int) < (Y.size : Int) := by omega
        have HBU : Hid (Calls Try.prog 33 #[.string Y] w4 (BuildOut Y w4 (.ok t []))) := by
          have h := build_any Y mx w4 (by omega) (HMX.out _ HB4.out)
          rw [show buildR Y.data.toList = .ok t [] by rw [HYE.out, bs_data]; exact HBK.out] at h
          exact h
        clear hsz
        go_wp2_with fail
        refine HBU.out.mono ?_
        rintro e w5 ⟨av2, kv2, rfl, hn, hb5⟩
        obtain ⟨a1, a2, k1, k2, rfl, rfl, -, -⟩ := hn.shape
        have HN := Lib.hid hn
        have HB5 := Lib.hid (HB4.out.trans (hb5.mono HB4.out.size))
        have HX5 := Lib.hid (HX4.out.below hb5 HX4.out.lt)
        clear hn hb5 HBU HX4 HB4
        unfold nodeV zeroPlace
        have y0 := HX5.out.cell 0 _ rfl
        have y1 := HX5.out.cell 1 _ rfl
        have y2 := HX5.out.cell 2 _ rfl
        have y3 := HX5.out.cell 3 _ rfl
        have yl := HX5.out.lt
        go_wp2_with fail
        refine Calls.world ?_
        intro W1 hW1
        have hb1 : Below w5.heap.size w5 W1 := by rw [hW1]; exact ((Below.refl _ _).alloc (Nat.le_refl _) _).alloc (by simp) _
        clear hW1 y0 y1 y2 y3 yl
        have hB1 := HB5.out.trans (hb1.mono HB5.out.size)
        have HSM := refSame_any _ t t W1 _ _ (.slice a1 t.attrs.length a2) (.slice k1 t.kids.length k2) (Nat.le_refl _) (HT.out.later hB1) (HN.out.later hb1)
        unfold nodeV at HSM
        refine HSM.mono ?_
        rintro e w6 ⟨z, rfl, hz, hb6⟩
        obtain rfl : z = true := hz.2 rfl
        have HB6 := Lib.hid (hB1.trans (hb6.mono hB1.size))
        clear hz hb6 hB1 hb1 HSM
        go_wp2_with fail
        refine (HLV.out _ HB6.out).mono ?_
        rintro e w7 ⟨rfl, hb7⟩
        have HB7 := Lib.hid (HB6.out.trans (hb7.mono HB6.out.size))
        clear hb7
        go_wp2
        go_ret
        exact ⟨rfl, HB7.out⟩

end Go.Proofs.Ytpchljiiappmnaa
