/- Walks of isLeaf and of May on trees; their conditions stand in the theorems. -/
import Derived.Test.YtpchljiiappmnaaG38
import Derived.Test.YtpchljiiappmnaaG21
import Derived.Laws.EntriesVeiled
namespace Go.Proofs.Ytpchljiiappmnaa
open Go Go.RowKit

/-- May this be a text? -/
def LeafOk (t : Tr) : Prop := t.attrs = [] ∧ t.kids = [] ∧ t.text ≠ [] ∧ okText t.text = true
/-- Is an element, and all within it, as it should be, sizes aside? -/
inductive RightT : Tr → Prop where
  | mk {n : Bs} {a : List At2} {ks : List Tr} {x : Bs} (hn : okName n = true) (hx : x = []) (ha : GoodAtts a) (hk : ∀ k ∈ ks, k.name ≠ [] → RightT k) (hl : ∀ k ∈ ks, k.name = [] → LeafOk k) (hs : ∀ (k : Nat) (h : k + 1 < ks.length), (ks[k]'(Nat.lt_of_succ_lt h)).name = [] → (ks[k + 1]'h).name ≠ []) : RightT (.mk n a ks x)
/-- One kid is as it should be. -/
def KidOk (t : Tr) (k : Nat) (h : k < t.kids.length) : Prop := ((t.kids[k]'h).name ≠ [] ∧ RightT (t.kids[k]'h)) ∨ ((t.kids[k]'h).name = [] ∧ LeafOk (t.kids[k]'h) ∧ ∀ j (hj : j + 1 = k), (t.kids[j]'(by omega)).name ≠ [])
theorem right_iff (t : Tr) : RightT t ↔ okName t.name = true ∧ t.text = [] ∧ GoodAtts t.attrs ∧ ∀ k (h : k < t.kids.length), KidOk t k h := by
  constructor
  · intro h
    cases h with
    | mk hn hx ha hk hl hs =>
      refine ⟨hn, hx, ha, fun k h => ?_⟩
      rename_i n a ks x
      show ((ks[k]'h).name ≠ [] ∧ RightT (ks[k]'h)) ∨ ((ks[k]'h).name = [] ∧ LeafOk (ks[k]'h) ∧ ∀ j (hj : j + 1 = k), (ks[j]'(by have : k < ks.length := h; omega)).name ≠ [])
      by_cases hne : (ks[k]'h).name = []
      · refine .inr ⟨hne, hl _ (List.getElem_mem _) hne, fun j hj e => ?_⟩
        subst hj
        exact hs j h e hne
      · exact .inl ⟨hne, hk _ (List.getElem_mem _) hne⟩
  · rintro ⟨hn, hx, ha, h⟩
    obtain ⟨n, a, ks, x⟩ := t
    refine .mk hn hx ha (fun y hy hne => ?_) (fun y hy hne => ?_) (fun k hk hne hne2 => ?_)
    · obtain ⟨k, hk, rfl⟩ := List.mem_iff_getElem.1 hy
      rcases h k hk with ⟨-, h1⟩ | ⟨h1, -⟩
      · exact h1
      · exact absurd h1 hne
    · obtain ⟨k, hk, rfl⟩ := List.mem_iff_getElem.1 hy
      rcases h k hk with ⟨h1, -⟩ | ⟨-, h1, -⟩
      · exact absurd hne h1
      · exact h1
    · rcases h (k + 1) hk with ⟨h1, -⟩ | ⟨-, -, h1⟩
      · exact h1 hne2
      · exact h1 k rfl hne
theorem leaf_cnt {t : Tr} (h : LeafOk t) : t.cnt = 1 := by rw [Tr.cnt_eq, h.2.1]; rfl
theorem depL_mem : ∀ (l : List Tr) (k : Nat) (h : k < l.length), (l[k]'h).name ≠ [] → (l[k]'h).dep ≤ Tr.depL l
  | t :: l, 0, _, hne => by simp only [Tr.depL, List.getElem_cons_zero] at *; rw [if_neg hne]; omega
  | t :: l, k + 1, h, hne => by have := depL_mem l k (by simpa using h) (by simpa using hne); simp only [Tr.depL, List.getElem_cons_succ]; omega
theorem cntL_take_mem {l : List Tr} {k : Nat} (h : k < l.length) : Tr.cntL (l.take k) + l[k].cnt ≤ Tr.cntL l := by
  rw [← cntL_take l k h]; exact cntL_take_le l (k + 1)
theorem cnt_pos (t : Tr) : 1 ≤ t.cnt := by rw [Tr.cnt_eq]; omega

set_option maxRecDepth 100000 in
set_option maxHeartbeats 8000000 in
theorem isLeaf_any (t : Tr) (w : World) (av kv : Value) (ht : NodeOf w t av kv) (hne : t.name = []) (hx : t.text.length ≤ 1000000000) :
    Calls Try.prog 75 #[nodeV t av kv] w (Says (LeafOk t) w) := by
  obtain ⟨ao, ac, ko, kc, rfl, rfl, -, -⟩ := ht.shape
  obtain ⟨N, hN⟩ : ∃ N : S, bs t.name = N := ⟨_, rfl⟩
  obtain ⟨X, hX⟩ : ∃ X : S, bs t.text = X := ⟨_, rfl⟩
  have he : N.toList.isEmpty = true := by rw [empty_data, ← hN, bs_size, hne]; rfl
  have hL : LeafOk t ↔ t.attrs.length = 0 ∧ t.kids.length = 0 ∧ t.text ≠ [] ∧ okText t.text = true := by
    unfold LeafOk
    rw [List.length_eq_zero_iff, List.length_eq_zero_iff]
  have HL := Lib.hid hL
  have hXe : X.toList.isEmpty = t.text.isEmpty := by rw [empty_data, ← hX, bs_size]; cases t.text <;> simp
  have HTX : Hid (∀ W, Calls Try.prog 108 #[.string X] W fun e w' => e = .returned (.bool (okText t.text)) ∧ Below W.heap.size W w') := fun W => by have := isTx_any (bs t.text) W (by rw [bs_size]; omega); rw [bs_data] at this; rw [← hX]; exact this
  have HBA : Hid (∀ o, Below w.heap.size w (w.alloc o)) := fun o => (Below.refl _ w).alloc (Nat.le_refl _) _
  unfold nodeV
  rw [hN, hX]
  clear hN hX hL ht hne
  by_cases h1 : t.attrs.length = 0
  rotate_left
  · have hb : ((t.attrs.length : Int) == 0) = false := beq_eq_false_iff_ne.2 (by omega)
    have H1 := Lib.hid h1
    clear h1
    go_enter Try.func75, Try.ntmps75
    go_wp2_with fail
    go_ret
    exact ⟨false, rfl, ⟨fun e => absurd e Bool.false_ne_true, fun e => absurd (HL.out.1 e).1 H1.out⟩, HBA.out _⟩
  have hb1 : ((t.attrs.length : Int) == 0) = true := by rw [h1]; rfl
  have H1 := Lib.hid h1
  clear h1
  by_cases h2 : t.kids.length = 0
  rotate_left
  · have hb : ((t.kids.length : Int) == 0) = false := beq_eq_false_iff_ne.2 (by omega)
    have H2 := Lib.hid h2
    clear h2
    go_enter Try.func75, Try.ntmps75
    go_wp2_with fail
    go_ret
    exact ⟨false, rfl, ⟨fun e => absurd e Bool.false_ne_true, fun e => absurd (HL.out.1 e).2.1 H2.out⟩, HBA.out _⟩
  have hb2 : ((t.kids.length : Int) == 0) = true := by rw [h2]; rfl
  have H2 := Lib.hid h2
  clear h2
  by_cases h3 : t.text = []
  · have hxe : X.toList.isEmpty = true := by rw [hXe, h3]; rfl
    have hxe2 : (!X.toList.isEmpty) = false := by rw [hxe]; rfl
    have H3 := Lib.hid h3
    clear h3 hXe
    go_enter Try.func75, Try.ntmps75
    go_wp2_with fail
    go_ret
    exact ⟨false, rfl, ⟨fun e => absurd e Bool.false_ne_true, fun e => absurd H3.out (HL.out.1 e).2.2.1⟩, HBA.out _⟩
  have hxe : X.toList.isEmpty = false := by rw [hXe]; simpa using h3
  have hxe2 : (!X.toList.isEmpty) = true := by rw [hxe]; rfl
  have H3 := Lib.hid h3
  clear h3 hXe
  generalize okText t.text = q at *
  go_enter Try.func75, Try.ntmps75
  go_wp2_with fail
  refine (HTX.out _).mono ?_
  rintro e w1 ⟨rfl, hb⟩
  have HB := Lib.hid ((HBA.out _).trans (hb.mono (HBA.out _).size))
  clear hb
  go_wp2
  go_ret
  exact ⟨q, rfl, by rw [HL.out]; exact ⟨fun h => ⟨H1.out, H2.out, H3.out, h⟩, fun h => h.2.2.2⟩, HB.out⟩

/-- Texts, names and values that are not too long to be gone through. -/
inductive FineT : Tr → Prop where
  | mk {n : Bs} {a : List At2} {ks : List Tr} {x : Bs} (hn : n.length ≤ 1000000000) (hx : x.length ≤ 1000000000) (ha : ∀ b ∈ a, b.1.length ≤ 1000000000 ∧ b.2.length ≤ 1000000000) (hk : ∀ k ∈ ks, FineT k) : FineT (.mk n a ks x)
theorem FineT.name {t : Tr} (h : FineT t) : t.name.length ≤ 1000000000 := by cases h; assumption
theorem FineT.text {t : Tr} (h : FineT t) : t.text.length ≤ 1000000000 := by cases h; assumption
theorem FineT.attrs {t : Tr} (h : FineT t) : ∀ b ∈ t.attrs, b.1.length ≤ 1000000000 ∧ b.2.length ≤ 1000000000 := by cases h; assumption
theorem FineT.kids {t : Tr} (h : FineT t) : ∀ k ∈ t.kids, FineT k := by cases h; assumption
theorem LightT.fine {t : Tr} (h : LightT t) : FineT t := by
  induction h with
  | mk hn hx hal ha hkl hk ih => exact .mk (by omega) (by omega) (fun b hb => by have := ha b hb; omega) ih

/-- What may returns and leaves. -/
def MayOut (cb c d : Nat) (t : Tr) (w : World) (e : Ending) (w' : World) : Prop :=
  ∃ (z : Bool) (c' : Int), e = .returned (.bool z) ∧ Box w' cb [.int .i64 c'] ∧ w.grownBy w' (some cb) ∧ (z = true ↔ RightT t ∧ c + t.cnt ≤ 4096 ∧ d + t.dep ≤ 65) ∧ (z = true → c' = ((c + t.cnt : Nat) : Int))

set_option maxRecDepth 100000 in
set_option maxHeartbeats 32000000 in
theorem may_any : ∀ (n : Nat) (t : Tr) (w : World) (av kv : Value) (d c cb fb : Nat), SizeOf.sizeOf t ≤ n → NodeX (fun k => k = cb) w t av kv → FineT t → Box w cb [.int .i64 c] → fb ≠ cb → fb < w.heap.size → w.cell? ⟨fb, 0, none⟩ = some (.func (.func 72) #[] #[.pointer (some ⟨cb, 0, none⟩), .pointer (some ⟨fb, 0, none⟩)]) → c ≤ 4096 → d ≤ 65 →
    Calls Try.prog 72 #[nodeV t av kv, .int .i64 d, .pointer (some ⟨cb, 0, none⟩), .pointer (some ⟨fb, 0, none⟩)] w (MayOut cb c d t w)
  | 0, t, w, av, kv, d, c, cb, fb, hn, _, _, _, _, _, _, _, _ => by
    obtain ⟨n, l, k, x⟩ := t
    simp only [Tr.mk.sizeOf_spec] at hn
    omega
  | n + 1, t, w, av, kv, d, c, cb, fb, hn, ht, hf, hx, hfc, hfl, hff, hc, hd => by
    obtain ⟨ao, ac, ko, kc, rfl, rfl, hal, hkl⟩ := ht.shape
    have HI : Hid (∀ k (hk : k < t.kids.length) (W' : World) (v1 v2 : Value) (c' : Nat), NodeX (fun k => k = cb) W' t.kids[k] v1 v2 → Box W' cb [.int .i64 c'] → fb < W'.heap.size → W'.cell? ⟨fb, 0, none⟩ = some (.func (.func 72) #[] #[.pointer (some ⟨cb, 0, none⟩), .pointer (some ⟨fb, 0, none⟩)]) → c' ≤ 4096 → d + 1 ≤ 65 →
        Calls Try.prog 72 #[nodeV t.kids[k] v1 v2, .int .i64 (d + 1 : Nat), .pointer (some ⟨cb, 0, none⟩), .pointer (some ⟨fb, 0, none⟩)] W' (MayOut cb c' (d + 1) t.kids[k] W')) := fun k hk W' v1 v2 c' h1 h2 h3 h4 h5 h6 => may_any n _ W' v1 v2 (d + 1) c' cb fb (by have := kid_less hk; omega) h1 (hf.kids _ (List.getElem_mem hk)) h2 hfc h3 h4 h5 h6
    obtain ⟨N, hN⟩ : ∃ N : S, bs t.name = N := ⟨_, rfl⟩
    obtain ⟨X, hX⟩ : ∃ X : S, bs t.text = X := ⟨_, rfl⟩
    obtain ⟨q2, hq2⟩ := bool_of (GoodAtts t.attrs)
    have HNM : Hid (∀ W, Calls Try.prog 73 #[.string N] W fun e w' => e = .returned (.bool (okName t.name)) ∧ W = w') := fun W => by have := isNm_any (bs t.name) W (by rw [bs_size]; have := hf.name; omega); rw [bs_data] at this; rw [← hN]; exact this
    have HAT : Hid (∀ W, w.grownBy W (some cb) → Calls Try.prog 74 #[.slice ao t.attrs.length ac] W fun e w' => e = .returned (.bool q2) ∧ Below W.heap.size W w') := fun W hg => (isAtts_any t.attrs _ W ((ht.keep (KeptX.grown hg (fun g e => by cases e; rfl)) (fun _ _ h => h)).att) hf.attrs).mono fun e w' h => h.qb hq2
    have hXe : X.toList.isEmpty = t.text.isEmpty := by rw [empty_data, ← hX, bs_size]; cases t.text <;> simp
    have HRI : Hid (RightT t ↔ okName t.name = true ∧ t.text = [] ∧ q2 = true ∧ ∀ k (h : k < t.kids.length), KidOk t k h) := by show _ ↔ _; rw [right_iff, hq2]
    have HCE : Hid (t.cnt = 1 + Tr.cntL t.kids ∧ t.dep = Tr.depL t.kids + 1) := ⟨Tr.cnt_eq t, Tr.dep_eq t⟩
    have HF := Lib.hid hf
    have HT := Lib.hid ht
    have HX0 := Lib.hid hx
    have HFF := Lib.hid hff
    have p0 := hx.cell 0 _ rfl
    have pf := hx.free 0
    have pl := hx.lt
    have hpw : cb ≠ w.heap.size := by omega
    unfold nodeV
    rw [hN, hX]
    clear hN hX hn ht hf hx hff hq2
    generalize hon : okName t.name = q1 at *
    clear hon
    go_enter Try.func72, Try.ntmps72
    go_upto_region 2 with fail
    refine wp_world ?_
    intro W hW
    have hgW : w.grownBy W (some cb) := by rw [hW]; exact (setCell_grown _ _ _ _).trans (World.grownBy_alloc _ _ _)
    have x0 : Box W w.heap.size [.string N, .slice ao t.attrs.length ac, .slice ko t.kids.length kc, .string X] := by rw [hW]; exact Box.new _ _ _ _ (by simp)
    have hpW : Box W cb [.int .i64 ((c + 1 : Nat) : Int)] := by rw [hW]; have := (HX0.out.set 0 (.int .i64 ((c + 1 : Nat) : Int))).alloc (.cells #[.string N, .slice ao t.attrs.length ac, .slice ko t.kids.length kc, .string X] 54); simpa using this
    clear hW p0 pf
    have HGW := Lib.hid hgW
    have HXN := Lib.hid x0
    have HPW := Lib.hid hpW
    have p0 := hpW.cell 0 _ rfl
    have a0 := x0.cell 0 _ rfl
    have a1 := x0.cell 1 _ rfl
    have a3 := x0.cell 3 _ rfl
    have pl' := hpW.lt
    have al := x0.lt
    clear hgW x0 hpW
    by_cases h1 : 64 < d
    · have hI : (64 : Int) < (d : Int) := by omega
      go_wp2_with fail
      go_ret
      exact ⟨false, _, rfl, HPW.out, HGW.out, ⟨fun e => absurd e Bool.false_ne_true, fun e => by have := HCE.out.2; have := e.2.2; omega⟩, fun e => absurd e Bool.false_ne_true⟩
    have hdI : ¬ (64 : Int) < (d : Int) := by omega
    by_cases h2 : 4096 < c + 1
    · have hI : (4096 : Int) < ((c + 1 : Nat) : Int) := by omega
      go_wp2_with fail
      go_ret
      exact ⟨false, _, rfl, HPW.out, HGW.out, ⟨fun e => absurd e Bool.false_ne_true, fun e => by have := HCE.out.1; have := e.2.1; omega⟩, fun e => absurd e Bool.false_ne_true⟩
    have hcI : ¬ (4096 : Int) < ((c + 1 : Nat) : Int) := by omega
    cases q1 with
    | false =>
      go_wp2_with (go_at_call 73; refine (HNM.out _).mono ?_; rintro e w' ⟨rfl, rfl⟩)
      go_ret
      exact ⟨false, _, rfl, HPW.out, HGW.out, ⟨fun e => absurd e Bool.false_ne_true, fun e => by have := (HRI.out.1 e.1).1; cases this⟩, fun e => absurd e Bool.false_ne_true⟩
    | true =>
      by_cases h3 : t.text = []
      rotate_left
      · have hxe : X.toList.isEmpty = false := by rw [hXe]; simpa using h3
        have hxe2 : (!X.toList.isEmpty) = true := by rw [hxe]; rfl
        have H3 := Lib.hid h3
        clear h3 hXe
        go_wp2_with (go_at_call 73; refine (HNM.out _).mono ?_; rintro e w' ⟨rfl, rfl⟩)
        go_ret
        exact ⟨false, _, rfl, HPW.out, HGW.out, ⟨fun e => absurd e Bool.false_ne_true, fun e => absurd (HRI.out.1 e.1).2.1 H3.out⟩, fun e => absurd e Bool.false_ne_true⟩
      have hxe : X.toList.isEmpty = true := by rw [hXe, h3]; rfl
      have hxe2 : (!X.toList.isEmpty) = false := by rw [hxe]; rfl
      have H3 := Lib.hid h3
      clear h3 hXe
      go_wp2_with (go_at_call 73; refine (HNM.out _).mono ?_; rintro e w' ⟨rfl, rfl⟩)
      refine (HAT.out _ HGW.out).mono ?_
      rintro e w2 ⟨rfl, hb2⟩
      have HG2 := Lib.hid (HGW.out.trans (grownOf hb2 _))
      have HP2 := Lib.hid (HPW.out.below hb2 pl')
      have HX2 := Lib.hid (HXN.out.below hb2 al)
      clear hb2 p0 a0 a1 a3 pl' al hxe hxe2 HGW HPW HXN HAT HNM
      cases q2 with
      | false =>
        go_wp2
        go_ret
        exact ⟨false, _, rfl, HP2.out, HG2.out, ⟨fun e => absurd e Bool.false_ne_true, fun e => by have := (HRI.out.1 e.1).2.2.1; cases this⟩, fun e => absurd e Bool.false_ne_true⟩
      | true =>
        have HRJ : Hid (RightT t ↔ ∀ k (h : k < t.kids.length), KidOk t k h) := by
          show _ ↔ _
          rw [HRI.out]
          exact ⟨fun h => h.2.2.2, fun h => ⟨by trivial, H3.out, by trivial, h⟩⟩
        clear HRI
        have a2 := HX2.out.cell 2 _ rfl
        have al := HX2.out.lt
        have hdw : IntKind.i64.wrap ((d : Int) + 1) = ((d + 1 : Nat) : Int) := by rw [IntWalk.i64_in _ (by omega)]; omega
        go_wp2_with fail
        go_loopw [7, 37] (fun _ i wr => ∃ (k m : Nat), k ≤ t.kids.length ∧ i = .int .i64 k ∧ Hid (w2.grownBy wr (some cb) ∧ Box wr cb [.int .i64 m] ∧ m = c + 1 + Tr.cntL (t.kids.take k) ∧ m ≤ 4096 ∧ d + 1 + Tr.depL (t.kids.take k) ≤ 65 ∧ ∀ q (h : q < t.kids.length), q < k → KidOk t q h)) (fun _ i _ => t.kids.length - (intOf i).toNat)
        case atStart => exact ⟨0, c + 1, Nat.zero_le _, rfl, World.grownBy.refl _ _, HP2.out, by simp [Tr.cntL], by omega, by simp [Tr.depL]; omega, fun q _ h => absurd h (Nat.not_lt_zero q)⟩
        case round =>
          obtain ⟨k, m, hk, rfl, HR⟩ := hrel
          have HBR := Lib.hid (HG2.out.trans HR.out.1)
          have hm4 := HR.out.2.2.2.1
          clear a2
          by_cases hlt : k < t.kids.length
          · have hnk := HT.out.keep (Y := fun k => k = cb) (KeptX.grown HBR.out (fun g e => by cases e; rfl)) (fun _ _ h => h)
            obtain ⟨g, o, r1, r2, s1, s2, rfl, hg, hgc, c0, c1, c2, c3, hn1⟩ := hnk.at k hlt
            have hki : (k : Int) < (t.kids.length : Int) := by omega
            have hk0 : (0 : Int) ≤ (k : Int) := by omega
            have ff := (HBR.out.cell_far ⟨fb, 0, none⟩ (by exact hfl) (by simpa using hfc)).trans HFF.out
            have ffl : fb < wr.heap.size := Nat.lt_of_lt_of_le hfl HBR.out.size
            have m0 := HR.out.2.1.cell 0 _ rfl
            have mf := HR.out.2.1.free 0
            have ml := HR.out.2.1.lt
            have hcw : cb ≠ wr.heap.size := by omega
            have HTK := Lib.hid (cntL_take_mem hlt)
            have HCT := Lib.hid (cntL_take t.kids k hlt)
            have HDT := Lib.hid (depL_take t.kids k hlt)
            have HDM := Lib.hid (depL_mem t.kids k hlt)
            have HFK := Lib.hid (HF.out.kids _ (List.getElem_mem hlt))
            obtain ⟨N2, hN2⟩ : ∃ N2 : S, bs t.kids[k].name = N2 := ⟨_, rfl⟩
            have hne2 : N2.toList.isEmpty = t.kids[k].name.isEmpty := by rw [empty_data, ← hN2, bs_size]; cases t.kids[k].name <;> simp
            by_cases hne : t.kids[k].name = []
            · have he : N2.toList.isEmpty = true := by rw [hne2, hne]; rfl
              have he2 : (!N2.toList.isEmpty) = false := by rw [he]; rfl
              obtain ⟨q, hq⟩ := bool_of (LeafOk t.kids[k])
              have HLF : Hid (∀ W, wr.grownBy W (some cb) → Calls Try.prog 75 #[.agg #[.string N2, .slice r1 t.kids[k].attrs.length r2, .slice s1 t.kids[k].kids.length s2, .string (bs t.kids[k].text)]] W fun e w' => e = .returned (.bool q) ∧ Below W.heap.size W w') := fun W hg => by
                have := (isLeaf_any t.kids[k] W _ _ (hn1.keep (Y := fun k => k = cb) (KeptX.grown hg (fun g e => by cases e; rfl)) (fun _ _ h => h)).node hne HFK.out.text).mono fun e w' h => h.qb hq
                unfold nodeV at this
                rw [hN2] at this
                exact this
              rw [hN2] at c0
              have HKO : Hid (KidOk t k hlt ↔ q = true ∧ ∀ j (hj : j + 1 = k), (t.kids[j]'(by omega)).name ≠ []) := by
                show _ ↔ _
                unfold KidOk
                rw [hq]
                exact ⟨fun h => by
                  rcases h with h | h
                  · exact absurd hne h.1
                  · exact h.2, fun h => .inr ⟨hne, h⟩⟩
              have HL1 : Hid (LeafOk t.kids[k] → t.kids[k].cnt = 1) := fun h => leaf_cnt h
              have HQ := Lib.hid hq
              have HNE := Lib.hid hne
              have HWX : Hid (∀ o1, wr.grownBy ((wr.setCell ⟨cb, 0, none⟩ (.int .i64 ((m : Int) + 1))).alloc o1) (some cb) ∧ Box ((wr.setCell ⟨cb, 0, none⟩ (.int .i64 ((m : Int) + 1))).alloc o1) cb [.int .i64 ((m : Int) + 1)]) := fun o1 => ⟨(setCell_grown _ _ _ _).trans (World.grownBy_alloc _ _ _), (HR.out.2.1.set 0 _).alloc _⟩
              have HKP : Hid (∀ (j : Nat) (hj : j + 1 = k) (W : World), wr.grownBy W (some cb) → W.cell? ⟨g, o + j * 4, none⟩ = some (.string (bs (t.kids[j]'(by omega)).name))) := fun j hj W hg => by
                obtain ⟨g', o', _, _, _, _, e1, -, -, d0, -⟩ := (hnk.keep (Y := fun k => k = cb) (KeptX.grown hg (fun g e => by cases e; rfl)) (fun _ _ h => h)).at j (by omega)
                simp only [Option.some.injEq, Addr.mk.injEq, and_true] at e1
                obtain ⟨rfl, rfl⟩ := e1
                exact d0
              have hwn : w.heap.size ≠ cb := Ne.symm hpw
              clear hnk hn1 hN2 hne2 hne hq ff
              by_cases hm : 4096 < m + 1
              · have hI : (4096 : Int) < (m : Int) + 1 := by omega
                go_wp2_with fail
                go_ret
                refine ⟨false, (m : Int) + 1, rfl, ?_, ?_, ⟨fun e => absurd e Bool.false_ne_true, fun e => ?_⟩, fun e => absurd e Bool.false_ne_true⟩
                · first | exact (HWX.out _).2 | exact (HR.out.2.1.alloc _).set 0 _
                · first | exact HBR.out.trans (HWX.out _).1 | exact HBR.out.trans ((World.grownBy_alloc _ _ _).trans (setCell_grown _ _ _ _))
                · have := HTK.out; have := HCE.out.1; have := HR.out.2.2.1; have := e.2.1; have := cnt_pos t.kids[k]; omega
              · have hI : ¬ (4096 : Int) < (m : Int) + 1 := by omega
                go_wp2_with fail
                refine Calls.world ?_
                intro W4 hW4
                have hg4 : wr.grownBy W4 (some cb) := by rw [hW4]; first | exact (HWX.out _).1 | exact (World.grownBy_alloc _ _ _).trans (setCell_grown _ _ _ _)
                have hx4' : Box W4 cb [.int .i64 ((m : Int) + 1)] := by rw [hW4]; first | exact (HWX.out _).2 | exact (HR.out.2.1.alloc _).set 0 _
                have hx4 : Box W4 cb [.int .i64 ((m + 1 : Nat) : Int)] := by rwa [show ((m + 1 : Nat) : Int) = (m : Int) + 1 by omega]
                clear hW4 c0 c1 c2 c3 m0 mf
                refine (HLF.out W4 hg4).mono ?_
                rintro e w5 ⟨rfl, hb5⟩
                have hg5 := hg4.trans (grownOf hb5 (some cb))
                have HG5 := Lib.hid (HR.out.1.trans hg5)
                have HGW := Lib.hid hg5
                have HX5 := Lib.hid (hx4.below hb5 hx4.lt)
                clear hg4 hx4 hx4' hb5 hg5 HLF HWX ml hcw
                cases q with
                | false =>
                  go_wp2
                  go_ret
                  refine ⟨false, _, rfl, HX5.out, HG2.out.trans HG5.out, ⟨fun e => absurd e Bool.false_ne_true, fun e => ?_⟩, fun e => absurd e Bool.false_ne_true⟩
                  have := (HKO.out.1 (HRJ.out.1 e.1 k hlt)).1
                  cases this
                | true =>
                  have HM1 : Hid (m + 1 = c + 1 + Tr.cntL (t.kids.take (k + 1)) ∧ d + 1 + Tr.depL (t.kids.take (k + 1)) ≤ 65) := by
                    refine ⟨by rw [HCT.out, HL1.out (HQ.out.1 (by trivial))]; have := HR.out.2.2.1; omega, ?_⟩
                    rw [HDT.out, if_pos HNE.out]
                    have := HR.out.2.2.2.2.1
                    omega
                  by_cases hk1 : k = 0
                  · have hkI : ¬ (0 : Int) < (k : Int) := by omega
                    have HK1 := Lib.hid hk1
                    clear hk1
                    go_wp2
                    go_roundw
                    case rel => exact ⟨k + 1, m + 1, hlt, by go_num, HG5.out, HX5.out, HM1.out.1, by omega, HM1.out.2, fun q h1 h3 => by
                      rcases Nat.lt_succ_iff_lt_or_eq.1 h3 with h | rfl
                      · exact HR.out.2.2.2.2.2 q h1 h
                      · exact HKO.out.2 ⟨by trivial, fun j hj => by have := HK1.out; omega⟩⟩
                    case measure => simp [intOf]; omega
                  · obtain ⟨j, hj⟩ : ∃ j, j + 1 = k := ⟨k - 1, by omega⟩
                    have hkI : (0 : Int) < (k : Int) := by omega
                    have hjw : (k : Int) - 1 = (j : Int) := by omega
                    have hjI : (j : Int) < (t.kids.length : Int) := by omega
                    have hj0 : (0 : Int) ≤ (j : Int) := by omega
                    have b2 := (HX2.out.grownB HG5.out hwn).cell 2 _ rfl
                    have bl := (HX2.out.grownB HG5.out hwn).lt
                    have kp := HKP.out j hj w5 HGW.out
                    have kl : g < w5.heap.size := Nat.lt_of_lt_of_le hg HGW.out.size
                    have hjt : j < t.kids.length := by omega
                    obtain ⟨N3, hN3⟩ : ∃ N3 : S, bs (t.kids[j]'hjt).name = N3 := ⟨_, rfl⟩
                    have hne3 : N3.toList.isEmpty = (t.kids[j]'hjt).name.isEmpty := by rw [empty_data, ← hN3, bs_size]; cases (t.kids[j]'hjt).name <;> simp
                    rw [hN3] at kp
                    have HJ := Lib.hid hj
                    by_cases hpe : (t.kids[j]'hjt).name = []
                    · have he3 : N3.toList.isEmpty = true := by rw [hne3, hpe]; rfl
                      have HPE := Lib.hid hpe
                      clear hN3 hne3 hpe hj hk1
                      go_wp2
                      go_ret
                      refine ⟨false, _, rfl, HX5.out, HG2.out.trans HG5.out, ⟨fun e => absurd e Bool.false_ne_true, fun e => ?_⟩, fun e => absurd e Bool.false_ne_true⟩
                      exact absurd HPE.out ((HKO.out.1 (HRJ.out.1 e.1 k hlt)).2 j HJ.out)
                    · have he3 : N3.toList.isEmpty = false := by rw [hne3]; simpa using hpe
                      have HPE := Lib.hid hpe
                      clear hN3 hne3 hpe hj hk1
                      go_wp2
                      go_roundw
                      case rel => exact ⟨k + 1, m + 1, hlt, by go_num, HG5.out, HX5.out, HM1.out.1, by omega, HM1.out.2, fun q h1 h3 => by
                        rcases Nat.lt_succ_iff_lt_or_eq.1 h3 with h | rfl
                        · exact HR.out.2.2.2.2.2 q h1 h
                        · exact HKO.out.2 ⟨by trivial, fun i hi => by
                            have : i = j := by have := HJ.out; omega
                            subst this
                            exact HPE.out⟩⟩
                      case measure => simp [intOf]; omega
            · have he : N2.toList.isEmpty = false := by rw [hne2]; simpa using hne
              have he2 : (!N2.toList.isEmpty) = true := by rw [he]; rfl
              have HC : Hid (∀ o1, Calls Try.prog 72 #[.agg #[.string N2, .slice r1 t.kids[k].attrs.length r2, .slice s1 t.kids[k].kids.length s2, .string (bs t.kids[k].text)], .int .i64 (d + 1 : Nat), .pointer (some ⟨cb, 0, none⟩), .pointer (some ⟨fb, 0, none⟩)] (wr.alloc o1) (MayOut cb m (d + 1) t.kids[k] (wr.alloc o1))) := fun o1 => by
                have h0 : Below wr.heap.size wr (wr.alloc o1) := (Below.refl _ _).alloc (Nat.le_refl _) _
                have := HI.out k hlt _ _ _ m (hn1.keep (Y := fun k => k = cb) (KeptX.below h0) (fun _ _ h => h)) (HR.out.2.1.alloc o1) (Nat.lt_of_lt_of_le ffl h0.size) ((h0.cell (p := ⟨fb, 0, none⟩) (by exact ffl)).trans ff) hm4 (by omega)
                unfold nodeV at this
                rw [hN2] at this
                exact this
              rw [hN2] at c0
              have HNE := Lib.hid hne
              clear hnk hn1 hN2 hne2 hne
              go_wp2_with fail
              refine (HC.out _).mono ?_
              rintro e w4 ⟨z, c', rfl, hb4, hg4, hz4, hc4⟩
              have HB4 := Lib.hid hb4
              have HG4 := Lib.hid ((HR.out.1.trans (World.grownBy_alloc _ _ _)).trans hg4)
              have HZ4 := Lib.hid hz4
              have HC4 := Lib.hid hc4
              clear hb4 hg4 hz4 hc4 HC c0 c1 c2 c3 m0 mf ff
              cases z with
              | false =>
                go_wp2
                go_ret
                refine ⟨false, _, rfl, HB4.out, HG2.out.trans HG4.out, ⟨fun e => absurd e Bool.false_ne_true, fun e => ?_⟩, fun e => absurd e Bool.false_ne_true⟩
                have h1 := HZ4.out.2 ⟨by
                  rcases HRJ.out.1 e.1 k hlt with h | h
                  · exact h.2
                  · exact absurd h.1 HNE.out, by have := HTK.out; have := HCE.out.1; have := HR.out.2.2.1; have := e.2.1; omega, by have := HDM.out HNE.out; have := HCE.out.2; have := e.2.2; omega⟩
                cases h1
              | true =>
                obtain ⟨z1, z2, z3⟩ := HZ4.out.1 (by trivial)
                have hce := HC4.out (by trivial)
                have hbn := HB4.out
                rw [hce] at hbn
                have HBN := Lib.hid hbn
                have H12 : Hid (m + t.kids[k].cnt = c + 1 + Tr.cntL (t.kids.take (k + 1)) ∧ m + t.kids[k].cnt ≤ 4096 ∧ d + 1 + Tr.depL (t.kids.take (k + 1)) ≤ 65) := by
                  refine ⟨by rw [HCT.out]; have := HR.out.2.2.1; omega, z2, ?_⟩
                  rw [HDT.out, if_neg HNE.out]
                  have := HR.out.2.2.2.2.1
                  omega
                have HRK : Hid (RightT t.kids[k]) := z1
                clear z1 z2 z3 hce hbn
                go_wp2
                go_roundw
                case rel => exact ⟨k + 1, m + t.kids[k].cnt, hlt, by go_num, HG4.out, HBN.out, H12.out.1, H12.out.2.1, H12.out.2.2, fun q h1 h3 => by
                  rcases Nat.lt_succ_iff_lt_or_eq.1 h3 with h | rfl
                  · exact HR.out.2.2.2.2.2 q h1 h
                  · exact .inl ⟨HNE.out, HRK.out⟩⟩
                case measure => simp [intOf]; omega
          · obtain rfl : k = t.kids.length := by omega
            have HR2 := HR.out.2.2
            rw [List.take_length] at HR2
            have HFIN : Hid ((RightT t ∧ c + t.cnt ≤ 4096 ∧ d + t.dep ≤ 65) ∧ (m : Int) = ((c + t.cnt : Nat) : Int)) := by
              have h1 := HCE.out
              obtain ⟨g1, g2, g3, g4⟩ := HR2
              exact ⟨⟨HRJ.out.2 fun q h1 => g4 q h1 h1, by omega, by omega⟩, by omega⟩
            clear HR2
            go_wp2
            go_ret
            exact ⟨true, m, rfl, HR.out.2.1, HBR.out, ⟨fun _ => HFIN.out.1, fun _ => rfl⟩, fun _ => HFIN.out.2⟩

end Go.Proofs.Ytpchljiiappmnaa

/- Walks of May, the program's; the conditions stand in the theorems. -/
namespace Go.Proofs.Ytpchljiiappmnaa
open Go Go.RowKit

/-- May this be a tree? -/
def MayT (t : Tr) : Prop := RightT t ∧ t.cnt ≤ 4096 ∧ t.dep ≤ 64

set_option maxRecDepth 100000 in
set_option maxHeartbeats 8000000 in
theorem treeMay_any (t : Tr) (w : World) (av kv : Value) (h : NodeOf w t av kv) (hf : FineT t) :
    Calls Try.prog 48 #[nodeV t av kv] w (Says (MayT t) w) := by
  obtain ⟨ao, ac, ko, kc, rfl, rfl, -, -⟩ := h.shape
  have HT := Lib.hid h
  have HF := Lib.hid hf
  clear h hf
  unfold nodeV
  go_enter Try.func48, Try.ntmps48
  go_wp2_with fail
  refine Calls.world ?_
  intro W hW
  have hbW : Below w.heap.size w W := by rw [hW]; exact (((Below.refl _ w).alloc (Nat.le_refl _) _).alloc (by simp) _).alloc (by simp; omega) _
  have hx : Box W (w.heap.size + 1) [.int .i64 ((0 : Nat) : Int)] := by rw [hW]; exact (Box.new _ [_] _ _ (by simp)).alloc _
  have hcc : W.cell? ⟨w.heap.size + 1 + 1, 0, none⟩ = some (.func (.func 72) #[] #[.pointer (some ⟨w.heap.size + 1, 0, none⟩), .pointer (some ⟨w.heap.size + 1 + 1, 0, none⟩)]) := by rw [hW]; exact (Box.new _ [_] _ _ (by simp)).cell 0 _ rfl
  have hWs : w.heap.size + 1 + 1 < W.heap.size := by rw [hW]; simp
  have HM := may_any _ t W _ _ 1 0 (w.heap.size + 1) (w.heap.size + 1 + 1) (Nat.le_refl _) (HT.out.keep (Y := fun k => k = w.heap.size + 1) (KeptX.below hbW) (fun k h1 h2 => by omega)) HF.out hx (by omega) hWs hcc (by omega) (by omega)
  unfold nodeV at HM
  refine HM.mono ?_
  rintro e w1 ⟨z, c', rfl, hx1, hg1, hz, -⟩
  have HZ : Hid (z = true ↔ MayT t) := by
    show _ ↔ _
    rw [hz]
    unfold MayT
    exact ⟨fun h => ⟨h.1, by omega, by omega⟩, fun h => ⟨h.1, by omega, by omega⟩⟩
  have HB := Lib.hid (hbW.trans ((below_grown hg1 (by omega)).mono (by omega)))
  clear hz hx1 hg1 HM hx hcc hWs hbW hW
  go_wp2
  go_ret
  exact ⟨z, rfl, HZ.out, HB.out⟩

end Go.Proofs.Ytpchljiiappmnaa
