/- Which Metas the statements look at; the law MetaMays returns true; the conditions stand in the theorems. -/
import Derived.Test.YtecffghcpknmjaaDoorJO10
import Derived.Test.YtecffghcpknmjaaDoorJO07
import Derived.Test.YtecffghcpknmjaaDoorJO09
namespace Go.Proofs.YtecffghcpknmjaaDoor
open Go Go.RowKit

def lightM (m : MetaD) : Bool := decide (m.vers.length ≤ 40) && decide (m.latest.size ≤ 200) && decide (m.rel.size ≤ 200) && decide (m.id.group.size ≤ 200) && decide (m.id.artifact.size ≤ 200) && m.vers.all fun s => decide (s.size ≤ 200)
theorem lightM_sm {m : MetaD} (h : lightM m = true) : MetaSm m ∧ m.latest.size ≤ 200 ∧ m.vers.length ≤ 40 ∧ (∀ x ∈ m.vers, x.size ≤ 200) := by
  unfold lightM at h
  simp only [Bool.and_eq_true, decide_eq_true_eq, List.all_eq_true] at h
  obtain ⟨⟨⟨⟨⟨h1, h2⟩, h3⟩, h4⟩, h5⟩, h6⟩ := h
  exact ⟨⟨by omega, by omega, by omega, fun x hx => by have := h6 x hx; omega⟩, h2, h1, h6⟩
theorem all_drop {l : List S} {k : Nat} (h : k < l.length) (p : S → Bool) : (l.drop k).all p = (p l[k] && (l.drop (k + 1)).all p) := by rw [drop_cons' h, List.all_cons]
set_option maxRecDepth 100000 in
set_option maxHeartbeats 8000000 in
theorem lightM_any (m : MetaD) (v : Value) (w : World) (h : SliceOf 1 strC w v m.vers) :
    Calls Tryd.prog 14 #[metaAg m v] w fun e w' => e = .returned (.bool (lightM m)) ∧ Below w.heap.size w w' := by
  have HS := Lib.hid h
  obtain ⟨ao, c, rfl⟩ := h.shape
  have HM : Hid (lightM m = (decide (m.vers.length ≤ 40) && decide (m.latest.size ≤ 200) && decide (m.rel.size ≤ 200) && decide (m.id.group.size ≤ 200) && decide (m.id.artifact.size ≤ 200) && m.vers.all fun s => decide (s.size ≤ 200))) := rfl
  clear h
  obtain ⟨⟨mg, ma⟩, l, la, re⟩ := m
  simp only at HS HM
  obtain ⟨MM, hMM⟩ : ∃ x, lightM ⟨⟨mg, ma⟩, l, la, re⟩ = x := ⟨_, rfl⟩
  rw [hMM] at HM ⊢
  clear hMM
  unfold metaAg metaC
  go_enter Tryd.func14, Tryd.ntmps14
  go_upto_region 1 with fail
  refine wp_world ?_
  intro W hW
  have x1 : Box W w.heap.size [.string mg, .string ma, .slice ao l.length c, .string la, .string re] := by rw [hW]; exact Box.new w [.string mg, .string ma, .slice ao l.length c, .string la, .string re] _ _ rfl
  have hb : Below w.heap.size w W := by rw [hW]; exact (Below.refl _ w).alloc (Nat.le_refl _) _
  clear hW
  have HX := Lib.hid x1
  have HB := Lib.hid hb
  clear x1 hb
  have HSW := Lib.hid (HS.out.below HB.out)
  have x0 := HX.out.cell 0 _ rfl
  have x1 := HX.out.cell 1 _ rfl
  have x2 := HX.out.cell 2 _ rfl
  have x3 := HX.out.cell 3 _ rfl
  have x4 := HX.out.cell 4 _ rfl
  have xl := HX.out.lt
  by_cases h1 : l.length ≤ 40
  · have dh1 : decide ((40 : Int) < (l.length : Int)) = false := decide_eq_false (by omega)
    have dh1n : decide (40 < l.length) = false := decide_eq_false (by omega)
    have dh1p : ¬ (40 : Int) < (l.length : Int) := by omega
    rw [decide_eq_true h1] at HM
    by_cases h2 : la.size ≤ 200
    · have dh2 : decide ((200 : Int) < (la.size : Int)) = false := decide_eq_false (by omega)
      have dh2n : decide (200 < la.size) = false := decide_eq_false (by omega)
      have dh2p : ¬ (200 : Int) < (la.size : Int) := by omega
      rw [decide_eq_true h2] at HM
      by_cases h3 : re.size ≤ 200
      · have dh3 : decide ((200 : Int) < (re.size : Int)) = false := decide_eq_false (by omega)
        have dh3n : decide (200 < re.size) = false := decide_eq_false (by omega)
        have dh3p : ¬ (200 : Int) < (re.size : Int) := by omega
        rw [decide_eq_true h3] at HM
        by_cases h4 : mg.size ≤ 200
        · have dh4 : decide ((200 : Int) < (mg.size : Int)) = false := decide_eq_false (by omega)
          have dh4n : decide (200 < mg.size) = false := decide_eq_false (by omega)
          have dh4p : ¬ (200 : Int) < (mg.size : Int) := by omega
          rw [decide_eq_true h4] at HM
          by_cases h5 : ma.size ≤ 200
          · have dh5 : decide ((200 : Int) < (ma.size : Int)) = false := decide_eq_false (by omega)
            have dh5n : decide (200 < ma.size) = false := decide_eq_false (by omega)
            have dh5p : ¬ (200 : Int) < (ma.size : Int) := by omega
            rw [decide_eq_true h5] at HM
            have HM2 : Hid (MM = (l.drop 0).all fun s => decide (s.size ≤ 200)) := by show _ = _; rw [HM.out]; simp
            clear HM h2 h3 h4 h5
            have HL40 := Lib.hid h1
            go_wp2
            clear dh1 dh1n dh1p dh2 dh2n dh2p dh3 dh3n dh3p dh4 dh4n dh4p dh5 dh5n dh5p h1
            go_loopw [38] (fun i wr => ∃ k : Nat, i = .int .i64 k ∧ k ≤ l.length ∧ W = wr ∧ Hid (MM = (l.drop k).all fun s => decide (s.size ≤ 200))) (fun i _ => l.length - (intOf i).toNat)
            case atStart => exact ⟨0, rfl, Nat.zero_le _, rfl, HM2⟩
            case round =>
              clear HM2
              obtain ⟨k, rfl, hk, rfl, HM⟩ := hrel
              by_cases hlt : k < l.length
              · obtain ⟨b, o, hao, hbl, hc⟩ := HSW.out.at1 hlt
                cases hao
                have d1 : (k : Int) < (l.length : Int) := by omega
                have wk : IntKind.i64.wrap ((k : Int) + 1) = (k : Int) + 1 := IntWalk.i64_in _ (by have := HL40.out; omega)
                have HD : Hid (MM = (decide (l[k].size ≤ 200) && (l.drop (k + 1)).all fun s => decide (s.size ≤ 200))) := by show _ = _; rw [HM.out, all_drop hlt]
                generalize l[k] = x at *
                clear HM
                by_cases hx : x.size ≤ 200
                · have e1 : ¬ (200 : Int) < (x.size : Int) := by omega
                  rw [decide_eq_true hx, Bool.true_and] at HD
                  clear hx
                  go_wp2
                  go_roundw
                  case rel => exact ⟨k + 1, by first | rfl | go_num, hlt, (by trivial), HD⟩
                  case measure => simp [intOf]; omega
                · have e1 : (200 : Int) < (x.size : Int) := by omega
                  rw [decide_eq_false hx, Bool.false_and] at HD
                  clear hx
                  go_wp2
                  go_ret
                  exact ⟨by rw [HD.out]; rfl, HB.out⟩
              · obtain rfl : k = l.length := by omega
                have d1 : ¬ (l.length : Int) < (l.length : Int) := by omega
                have HD : Hid (MM = true) := by show _ = _; rw [HM.out, List.drop_length]; rfl
                clear HM
                go_wp2
                go_ret
                exact ⟨by rw [HD.out]; rfl, HB.out⟩
          · have dh5 : decide ((200 : Int) < (ma.size : Int)) = true := decide_eq_true (by omega)
            have dh5n : decide (200 < ma.size) = true := decide_eq_true (by omega)
            have dh5p : (200 : Int) < (ma.size : Int) := by omega
            rw [decide_eq_false h5] at HM
            clear h5
            go_wp2
            go_ret
            exact ⟨by rw [HM.out]; simp, HB.out⟩
        · have dh4 : decide ((200 : Int) < (mg.size : Int)) = true := decide_eq_true (by omega)
          have dh4n : decide (200 < mg.size) = true := decide_eq_true (by omega)
          have dh4p : (200 : Int) < (mg.size : Int) := by omega
          rw [decide_eq_false h4] at HM
          clear h4
          go_wp2
          go_ret
          exact ⟨by rw [HM.out]; simp, HB.out⟩
      · have dh3 : decide ((200 : Int) < (re.size : Int)) = true := decide_eq_true (by omega)
        have dh3n : decide (200 < re.size) = true := decide_eq_true (by omega)
        have dh3p : (200 : Int) < (re.size : Int) := by omega
        rw [decide_eq_false h3] at HM
        clear h3
        go_wp2
        go_ret
        exact ⟨by rw [HM.out]; simp, HB.out⟩
    · have dh2 : decide ((200 : Int) < (la.size : Int)) = true := decide_eq_true (by omega)
      have dh2n : decide (200 < la.size) = true := decide_eq_true (by omega)
      have dh2p : (200 : Int) < (la.size : Int) := by omega
      rw [decide_eq_false h2] at HM
      clear h2
      go_wp2
      go_ret
      exact ⟨by rw [HM.out]; simp, HB.out⟩
  · have dh1 : decide ((40 : Int) < (l.length : Int)) = true := decide_eq_true (by omega)
    have dh1n : decide (40 < l.length) = true := decide_eq_true (by omega)
    have dh1p : (40 : Int) < (l.length : Int) := by omega
    rw [decide_eq_false h1] at HM
    clear h1
    go_wp2
    go_ret
    exact ⟨by rw [HM.out]; simp, HB.out⟩
set_option maxRecDepth 100000 in
set_option maxHeartbeats 8000000 in
theorem metaMays_of (HPT : RefPartsOk) (a b : MetaD) (va vb : Value) (w : World) (ha : SliceOf 1 strC w va a.vers) (hb : SliceOf 1 strC w vb b.vers) :
    Calls Tryd.prog 5 #[metaAg a va, metaAg b vb] w fun e w' => e = .returned (.bool true) ∧ Below w.heap.size w w' := by
  obtain ⟨ao, ac, rfl⟩ := ha.shape
  obtain ⟨bo, bc, rfl⟩ := hb.shape
  have HA := Lib.hid ha
  have HBS := Lib.hid hb
  have HPT' := Lib.hid HPT
  clear ha hb HPT
  have HLA : Hid (∀ W, Below w.heap.size w W → Calls Tryd.prog 14 #[metaAg a (.slice ao a.vers.length ac)] W fun e w' => e = .returned (.bool (lightM a)) ∧ Below W.heap.size W w') := fun W h => lightM_any a _ W (HA.out.below h)
  have HLB : Hid (∀ W, Below w.heap.size w W → Calls Tryd.prog 14 #[metaAg b (.slice bo b.vers.length bc)] W fun e w' => e = .returned (.bool (lightM b)) ∧ Below W.heap.size W w') := fun W h => lightM_any b _ W (HBS.out.below h)
  have HCM : Hid (lightM a = true → lightM b = true → ∀ W, Below w.heap.size w W →
      Calls Tryd.prog 13 #[metaAg a (.slice ao a.vers.length ac)] W (fun e w' => e = .returned (.bool (mayM a)) ∧ Below W.heap.size W w') ∧
      Calls Tryd.prog 16 #[metaAg a (.slice ao a.vers.length ac)] W (fun e w' => e = .returned (.bool (mayM a)) ∧ Below W.heap.size W w') ∧
      Calls Tryd.prog 19 #[.string a.latest] W (fun e w' => e = .returned (.bool (snapV a.latest.data.toList)) ∧ Below W.heap.size W w') ∧
      Calls Tryd.prog 20 #[.string a.latest] W (fun e w' => e = .returned (.bool (snapV a.latest.data.toList)) ∧ Below W.heap.size W w') ∧
      Calls Tryd.prog 21 #[metaAg a (.slice ao a.vers.length ac), metaAg b (.slice bo b.vers.length bc)] W (fun e w' => e = .returned (.bool (decide (a = b))) ∧ Below W.heap.size W w') ∧
      Calls Tryd.prog 10 #[metaAg a (.slice ao a.vers.length ac), metaAg b (.slice bo b.vers.length bc)] W (fun e w' => e = .returned (.bool (decide (a = b))) ∧ Below W.heap.size W w') ∧
      Calls Tryd.prog 21 #[metaAg a (.slice ao a.vers.length ac), metaAg a (.slice ao a.vers.length ac)] W (fun e w' => e = .returned (.bool true) ∧ Below W.heap.size W w')) := fun la lb W hb => by
    obtain ⟨s1, s2, s3, s4⟩ := lightM_sm la
    obtain ⟨t1, t2, t3, t4⟩ := lightM_sm lb
    have h1 := HA.out.below hb
    have h2 := HBS.out.below hb
    exact ⟨metaMay_any a _ W h1 s1, refMetaMay_of HPT'.out a _ W h1 s1, isSnapshot_any _ W (by omega), refIsSnapshot_of HPT'.out _ W (by omega), metaSame_any a b _ _ W h1 h2 (by omega) (by omega), refMetaSame_any a b _ _ W h1 h2 (by omega), by have h9 := metaSame_any a a _ _ W h1 h1 (by omega) (by omega); rw [show decide (a = a) = true from decide_eq_true rfl] at h9; exact h9⟩
  clear HPT' HA HBS
  obtain ⟨⟨ag, aa⟩, al, at', ar⟩ := a
  obtain ⟨⟨bg, ba⟩, bl, bt, br⟩ := b
  unfold metaAg metaC at *
  simp only at HLA HLB HCM ⊢
  generalize hla : lightM ⟨⟨ag, aa⟩, al, at', ar⟩ = la at *
  generalize hlb : lightM ⟨⟨bg, ba⟩, bl, bt, br⟩ = lb at *
  generalize mayM ⟨⟨ag, aa⟩, al, at', ar⟩ = qm at *
  generalize snapV at'.data.toList = qs at *
  generalize decide ((⟨⟨ag, aa⟩, al, at', ar⟩ : MetaD) = ⟨⟨bg, ba⟩, bl, bt, br⟩) = qe at *
  clear hla hlb
  go_enter Tryd.func5, Tryd.ntmps5
  go_upto_region 1 with fail
  refine wp_world ?_
  intro W hW
  have x1 : Box W w.heap.size [.string ag, .string aa, .slice ao al.length ac, .string at', .string ar] := by rw [hW]; exact (Box.new w [.string ag, .string aa, .slice ao al.length ac, .string at', .string ar] _ _ rfl).alloc _
  have y1 : Box W (w.heap.size + 1) [.string bg, .string ba, .slice bo bl.length bc, .string bt, .string br] := by rw [hW]; exact Box.new _ [.string bg, .string ba, .slice bo bl.length bc, .string bt, .string br] _ _ (by simp)
  have hb : Below w.heap.size w W := by rw [hW]; exact ((Below.refl _ w).alloc (Nat.le_refl _) _).alloc (by simp) _
  clear hW
  have HX := Lib.hid x1
  have HY := Lib.hid y1
  have HB := Lib.hid hb
  clear x1 y1 hb
  have x0 := HX.out.cell 0 _ rfl
  have x1 := HX.out.cell 1 _ rfl
  have x2 := HX.out.cell 2 _ rfl
  have x3 := HX.out.cell 3 _ rfl
  have x4 := HX.out.cell 4 _ rfl
  have xl := HX.out.lt
  go_wp2_with fail
  refine (HLA.out W HB.out).mono ?_
  rintro e w1 ⟨rfl, hb1⟩
  have HX1 := Lib.hid (HX.out.below hb1 HX.out.lt)
  have HY1 := Lib.hid (HY.out.below hb1 HY.out.lt)
  have HB1 := Lib.hid (HB.out.trans (hb1.mono HB.out.size))
  clear hb1 x0 x1 x2 x3 x4 xl HX HY HB HLA
  have y0 := HY1.out.cell 0 _ rfl
  have y1 := HY1.out.cell 1 _ rfl
  have y2 := HY1.out.cell 2 _ rfl
  have y3 := HY1.out.cell 3 _ rfl
  have y4 := HY1.out.cell 4 _ rfl
  have yl := HY1.out.lt
  cases la with
  | false =>
    go_wp2_with fail
    refine (metaLives_any w1).mono ?_
    rintro e w2 ⟨rfl, hb2⟩
    have HB2 := Lib.hid (HB1.out.trans (hb2.mono HB1.out.size))
    clear hb2
    go_wp2
    go_ret
    exact ⟨rfl, HB2.out⟩
  | true =>
    go_wp2_with fail
    refine (HLB.out w1 HB1.out).mono ?_
    rintro e w2 ⟨rfl, hb2⟩
    have HX2 := Lib.hid (HX1.out.below hb2 HX1.out.lt)
    have HY2 := Lib.hid (HY1.out.below hb2 HY1.out.lt)
    have HB2 := Lib.hid (HB1.out.trans (hb2.mono HB1.out.size))
    clear hb2 y0 y1 y2 y3 y4 yl HX1 HY1 HB1 HLB
    cases lb with
    | false =>
      go_wp2_with fail
      refine (metaLives_any w2).mono ?_
      rintro e w3 ⟨rfl, hb3⟩
      have HB3 := Lib.hid (HB2.out.trans (hb3.mono HB2.out.size))
      clear hb3
      go_wp2
      go_ret
      exact ⟨rfl, HB3.out⟩
    | true =>
      have hcm := fun z : Later w2 => HCM.out (by first | trivial | rfl) (by first | trivial | rfl) z.at_ (HB2.out.trans (z.below.mono HB2.out.size))
      have H1 := Lib.hid (fun z : Later w2 => Later.call (hcm z).1)
      have H2 := Lib.hid (fun z : Later w2 => Later.call (hcm z).2.1)
      have H3 := Lib.hid (fun z : Later w2 => Later.call (hcm z).2.2.1)
      have H4 := Lib.hid (fun z : Later w2 => Later.call (hcm z).2.2.2.1)
      have H5 := Lib.hid (fun z : Later w2 => Later.call (hcm z).2.2.2.2.1)
      have H6 := Lib.hid (fun z : Later w2 => Later.call (hcm z).2.2.2.2.2.1)
      have H7 := Lib.hid (fun z : Later w2 => Later.call (hcm z).2.2.2.2.2.2)
      have H8 := Lib.hid (fun z : Later w2 => Later.call (metaLives_any z.at_))
      clear hcm HCM
      have x0 := HX2.out.cell 0 _ rfl
      have x1 := HX2.out.cell 1 _ rfl
      have x2 := HX2.out.cell 2 _ rfl
      have x3 := HX2.out.cell 3 _ rfl
      have x4 := HX2.out.cell 4 _ rfl
      have xl := HX2.out.lt
      have y0 := HY2.out.cell 0 _ rfl
      have y1 := HY2.out.cell 1 _ rfl
      have y2 := HY2.out.cell 2 _ rfl
      have y3 := HY2.out.cell 3 _ rfl
      have y4 := HY2.out.cell 4 _ rfl
      have yl := HY2.out.lt
      have hLL := @Later.cells w2
      have e1 : (qm == qm) = true := by simp
      have e2 : (qs == qs) = true := by simp
      have e3 : (qe == qe) = true := by simp
      go_wp2_with fail
      refine region_later (by kernel_rfl) (by kernel_rfl) ?_
      repeat (go_big_quiet_step ((first | (go_at_call 13; with_reducible exact H1.out _) | (go_at_call 16; with_reducible exact H2.out _) | (go_at_call 19; with_reducible exact H3.out _) | (go_at_call 20; with_reducible exact H4.out _) | (go_at_call 21; first | (with_reducible exact H5.out _) | (with_reducible exact H7.out _)) | (go_at_call 10; with_reducible exact H6.out _) | (go_at_call 11; with_reducible exact H8.out _))))
      refine wpQuiet_nil ?_
      rintro _ ⟨nx, rfl⟩
      have HBn := Lib.hid (HB2.out.trans (nx.below.mono HB2.out.size))
      clear hLL x0 x1 x2 x3 x4 xl y0 y1 y2 y3 y4 yl H1 H2 H3 H4 H5 H6 H7 H8
      generalize nx.at_ = wn at *
      go_wp2
      go_ret
      exact ⟨rfl, HBn.out⟩

end Go.Proofs.YtecffghcpknmjaaDoor

/- The plain law of merged Metas; the walk of the statements' has; the conditions stand in the theorems. -/
namespace Go.Proofs.YtecffghcpknmjaaDoor
open Go Go.RowKit

theorem rowM_iff {l : List S} : ∀ (n k : Nat), k + n = l.length → (rowM l n k = true ↔ ∀ j (hj : j < l.length), k ≤ j → stepM l j l[j] = true)
  | 0, k, h => by
    constructor
    · intro _ j hj hk; omega
    · intro _; rfl
  | n + 1, k, h => by
    have hk : k < l.length := by omega
    have ih := rowM_iff (l := l) n (k + 1) (by omega)
    have e : rowM l (n + 1) k = (stepM l k l[k] && rowM l n (k + 1)) := by
      conv => lhs; unfold rowM
      rw [List.getElem?_eq_getElem hk]
    rw [e, Bool.and_eq_true, ih]
    constructor
    · rintro ⟨h1, h2⟩ j hj hkj
      by_cases e : j = k
      · subst e; exact h1
      · exact h2 j hj (by omega)
    · intro h2
      exact ⟨h2 k hk (Nat.le_refl _), fun j hj hkj => h2 j hj (by omega)⟩
theorem stepM_iff {l : List S} {k : Nat} (hk : k < l.length) : stepM l k l[k] = true ↔ verMay l[k] = true ∧ l[k] ∉ l.take k ∧ (∀ (h : 0 < k), ltSV l[k] (l[k - 1]'(by omega)) = false) := by
  unfold stepM
  rw [Bool.and_eq_true, Bool.and_eq_true, and_assoc, Bool.not_eq_true', Bool.not_eq_true', ← memB_iff (l := l.take k), Bool.not_eq_true]
  refine and_congr Iff.rfl (and_congr Iff.rfl ?_)
  by_cases h0 : 0 < k
  · rw [decide_eq_true h0, Bool.true_and]
    have hg : l.getD (k - 1) ⟨#[]⟩ = l[k - 1]'(by omega) := by rw [List.getD_eq_getElem?_getD, List.getElem?_eq_getElem (by omega : k - 1 < l.length)]; rfl
    rw [hg]
    have hf := cmpSV_cmpr.flip (l[k - 1]'(by omega)) l[k]
    unfold ltSV
    constructor
    · intro h _
      have h1 := of_decide_eq_false h
      exact decide_eq_false (by omega)
    · intro h
      have h1 := of_decide_eq_false (h h0)
      exact decide_eq_false (by omega)
  · rw [decide_eq_false h0, Bool.false_and]
    exact ⟨fun _ h => absurd h h0, fun _ => rfl⟩
/-- What the versions of a Meta that may be are. -/
structure RowOk (l : List S) : Prop where
  may : ∀ x ∈ l, verMay x = true
  nd : l.Nodup
  srt : Srt ltSV l
theorem rowOk_iff {l : List S} : rowM l l.length 0 = true ↔ RowOk l := by
  rw [rowM_iff l.length 0 (by omega)]
  constructor
  · intro h
    have h' := fun j hj => (stepM_iff hj).1 (h j hj (Nat.zero_le _))
    refine ⟨fun x hx => ?_, ?_, ?_⟩
    · obtain ⟨j, hj, rfl⟩ := List.mem_iff_getElem.1 hx
      exact (h' j hj).1
    · rw [List.nodup_iff_pairwise_ne, List.pairwise_iff_getElem]
      intro i j hi hj hij e
      refine (h' j hj).2.1 ?_
      rw [← e]
      exact List.mem_iff_getElem.2 ⟨i, by rw [List.length_take]; omega, by rw [List.getElem_take]⟩
    · unfold Srt
      rw [List.pairwise_iff_getElem]
      have key : ∀ d i (hi : i < l.length) (hd : i + d < l.length), ltSV l[i + d] l[i] = false := fun d => by
        induction d with
        | zero => intro i hi _; exact ltSV_weak.irr _
        | succ d ih =>
          intro i hi hd
          have h1 := ih i hi (by omega)
          have h2 := (h' (i + (d + 1)) hd).2.2 (by omega)
          exact ltSV_weak.leT h1 h2
      intro i j hi hj hij
      obtain ⟨d, rfl⟩ : ∃ d, j = i + d := ⟨j - i, by omega⟩
      exact key d i hi hj
  · rintro ⟨h1, h2, h3⟩ j hj _
    rw [stepM_iff hj]
    refine ⟨h1 _ (List.getElem_mem hj), fun hm => ?_, fun h0 => ?_⟩
    · obtain ⟨i, hi, e⟩ := List.mem_iff_getElem.1 hm
      rw [List.length_take] at hi
      rw [List.getElem_take] at e
      rw [List.nodup_iff_pairwise_ne, List.pairwise_iff_getElem] at h2
      exact h2 i j (by omega) hj (by omega) e
    · unfold Srt at h3
      rw [List.pairwise_iff_getElem] at h3
      exact h3 (j - 1) j (by omega) hj (by omega)
theorem mayM_iff {m : MetaD} : mayM m = true ↔ isIdB m.id.group = true ∧ isIdB m.id.artifact = true ∧ m.vers ≠ [] ∧ m.vers.length ≤ 1024 ∧ RowOk m.vers ∧ m.latest = lastV m.vers ∧ m.rel = relV m.vers := by
  unfold mayM
  simp only [Bool.and_eq_true, decide_eq_true_eq, rowOk_iff, Bool.not_eq_true', List.isEmpty_eq_false_iff, and_assoc]
theorem restM_mem {l m : List S} {x : S} : x ∈ restM l m ↔ x ∈ m ∧ x ∉ l := by
  unfold restM
  rw [List.mem_filter, Bool.not_eq_true', ← memB_iff (l := l), Bool.not_eq_true]
theorem restM_self (l : List S) : restM l l = [] := by
  apply List.eq_nil_iff_forall_not_mem.2
  intro x hx
  exact (restM_mem.1 hx).2 (restM_mem.1 hx).1
theorem joinM_nd {l m : List S} (hl : l.Nodup) (hm : m.Nodup) : (l ++ restM l m).Nodup := by
  rw [List.nodup_append]
  exact ⟨hl, hm.filter _, fun x hx y hy e => (restM_mem.1 hy).2 (e ▸ hx)⟩
theorem joinM_mem {l m : List S} {x : S} : x ∈ l ++ restM l m ↔ x ∈ l ∨ x ∈ m := by
  rw [List.mem_append, restM_mem]
  constructor
  · rintro (h | h)
    · exact .inl h
    · exact .inr h.1
  · rintro (h | h)
    · exact .inl h
    · by_cases hl : x ∈ l
      · exact .inl hl
      · exact .inr ⟨h, hl⟩
theorem srt_perm_eqv {l m : List S} (hp : l.Perm m) (hl : Srt ltSV l) (hm : Srt ltSV m) : ∀ i (hi : i < l.length) (hj : i < m.length), ltSV l[i] m[i] = false := by
  intro i hi hj
  cases hc : ltSV l[i] m[i] with
  | false => rfl
  | true =>
    exfalso
    have e := hp.countP_eq (fun x => !ltSV l[i] x)
    have h1 : i + 1 ≤ l.countP (fun x => !ltSV l[i] x) := by
      have h2 : (l.take (i + 1)).countP (fun x => !ltSV l[i] x) = i + 1 := by
        rw [List.countP_eq_length.2 fun x hx => ?_, List.length_take]
        · omega
        · obtain ⟨j, hj', rfl⟩ := List.mem_iff_getElem.1 hx
          rw [List.length_take] at hj'
          rw [List.getElem_take, Bool.not_eq_true']
          exact srt_at' ltSV_weak hl (List.getElem?_eq_getElem (by omega)) (List.getElem?_eq_getElem hi) (by omega)
      calc i + 1 = _ := h2.symm
        _ ≤ _ := (List.take_sublist _ _).countP_le
    have h3 : m.countP (fun x => !ltSV l[i] x) ≤ i := by
      rw [← List.take_append_drop i m, List.countP_append]
      have h4 : (m.drop i).countP (fun x => !ltSV l[i] x) = 0 := by
        rw [List.countP_eq_zero]
        intro x hx
        obtain ⟨j, hj', rfl⟩ := List.mem_iff_getElem.1 hx
        rw [List.length_drop] at hj'
        rw [List.getElem_drop, Bool.not_eq_true', Bool.not_eq_false]
        exact ltSV_weak.lt_of hc (srt_at' ltSV_weak hm (List.getElem?_eq_getElem hj) (List.getElem?_eq_getElem (by omega)) (by omega))
      have h5 := List.countP_le_length (p := fun x => !ltSV l[i] x) (l := m.take i)
      rw [List.length_take] at h5
      omega
    omega
/-- All that the law asks of two Metas that may be and are merged. -/
structure MergedOk (a b : MetaD) (M N O : List S) : Prop where
  own : O = a.vers
  may : mayM ⟨a.id, M, lastV M, relV M⟩ = true
  len : M.length = N.length
  mem : ∀ x ∈ M, x ∈ a.vers ∨ x ∈ b.vers
  cmp : ∀ i (hi : i < M.length) (hj : i < N.length), cmpSV M[i] N[i] = 0
  back : ∀ x, x ∈ a.vers ++ b.vers → x ∈ M
theorem merged_ok {a b : MetaD} {M N O : List S} (ha : mayM a = true) (hb : mayM b = true) (la : a.vers.length ≤ 40) (lb : b.vers.length ≤ 40)
    (hM : Srt ltSV M ∧ SameE ltSV (a.vers ++ restM a.vers b.vers) M) (hN : Srt ltSV N ∧ SameE ltSV (b.vers ++ restM b.vers a.vers) N) (hO : Srt ltSV O ∧ SameE ltSV (a.vers ++ restM a.vers a.vers) O) : MergedOk a b M N O := by
  obtain ⟨a1, a2, a3, a4, ra, -, -⟩ := mayM_iff.1 ha
  obtain ⟨-, -, b3, b4, rb, -, -⟩ := mayM_iff.1 hb
  have pM := hM.2.perm ltSV_weak
  have pN := hN.2.perm ltSV_weak
  have nM : M.Nodup := pM.nodup_iff.1 (joinM_nd ra.nd rb.nd)
  have nN : N.Nodup := pN.nodup_iff.1 (joinM_nd rb.nd ra.nd)
  have mM : ∀ x, x ∈ M ↔ x ∈ a.vers ∨ x ∈ b.vers := fun x => by rw [← pM.mem_iff, joinM_mem]
  have mN : ∀ x, x ∈ N ↔ x ∈ b.vers ∨ x ∈ a.vers := fun x => by rw [← pN.mem_iff, joinM_mem]
  have hp : M.Perm N := (List.perm_ext_iff_of_nodup nM nN).2 fun x => by rw [mM, mN, or_comm]
  have hlen : M.length ≤ 80 := by
    rw [← pM.length_eq, List.length_append]
    have := restM_len a.vers b.vers
    omega
  refine ⟨?_, mayM_iff.2 ⟨a1, a2, fun e => ?_, by show M.length ≤ 1024; omega, ⟨fun x hx => ?_, nM, hM.1⟩, rfl, rfl⟩, hp.length_eq, fun x hx => (mM x).1 hx, fun i hi hj => ?_, fun x hx => (mM x).2 (by rwa [List.mem_append] at hx)⟩
  · rw [restM_self, List.append_nil] at hO
    exact (srt_uniq ltSV_weak ra.srt hO.1 hO.2).symm
  · obtain ⟨x, hx⟩ := List.exists_mem_of_ne_nil _ a3
    have h9 := (mM x).2 (.inl hx)
    have e' : M = [] := e
    rw [e'] at h9
    cases h9
  · rcases (mM x).1 hx with h | h
    · exact ra.may x h
    · exact rb.may x h
  · have h1 := srt_perm_eqv hp hM.1 hN.1 i hi hj
    have h2 := srt_perm_eqv hp.symm hN.1 hM.1 i hj hi
    have h3 := cmpSV_cmpr.flip M[i] N[i]
    unfold ltSV at h1 h2
    have h4 := of_decide_eq_false h1
    have h5 := of_decide_eq_false h2
    omega
attribute [local go_sem ↓] str_beqV in
set_option maxRecDepth 100000 in
set_option maxHeartbeats 4000000 in
theorem hasM_any {w : World} {v : Value} {l : List S} (x : S) (h : SliceOf 1 strC w v l) (hl : l.length ≤ 1000000) :
    Calls Tryd.prog 17 #[v, .string x] w fun e w' => e = .returned (.bool (memB l x)) ∧ w = w' := by
  have HS := Lib.hid h
  have HL := Lib.hid hl
  obtain ⟨ao, c, rfl⟩ := h.shape
  clear h hl
  go_enter Tryd.func17, Tryd.ntmps17
  go_upto_region 2 with fail
  go_loopw [9] (fun i wr => ∃ k : Nat, i = .int .i64 k ∧ k ≤ l.length ∧ w = wr ∧ Hid (memB l x = memB (l.drop k) x)) (fun i _ => l.length - (intOf i).toNat)
  case atStart => exact ⟨0, rfl, Nat.zero_le _, rfl, rfl⟩
  case round =>
    obtain ⟨k, rfl, hk, rfl, HM⟩ := hrel
    by_cases hlt : k < l.length
    · obtain ⟨b, o, hao, hbl, hc⟩ := HS.out.at1 hlt
      cases hao
      have d1 : (k : Int) < (l.length : Int) := by omega
      have wk : IntKind.i64.wrap ((k : Int) + 1) = (k : Int) + 1 := IntWalk.i64_in _ (by have := HL.out; omega)
      have HD : Hid (memB l x = (decide (l[k] = x) || memB (l.drop (k + 1)) x)) := by
        show _ = _
        rw [HM.out, drop_cons' hlt]; rfl
      generalize l[k] = y at *
      clear HM
      obtain ⟨q, hq⟩ : ∃ q, decide (y = x) = q := ⟨_, rfl⟩
      rw [hq] at HD
      cases q with
      | true =>
        go_wp2
        go_ret
        exact ⟨by rw [HD.out]; rfl, by trivial⟩
      | false =>
        go_wp2
        go_roundw
        case rel => exact ⟨k + 1, by first | rfl | go_num, hlt, (by trivial), HD⟩
        case measure => simp [intOf]; omega
    · obtain rfl : k = l.length := by omega
      have d1 : ¬ (l.length : Int) < (l.length : Int) := by omega
      have HD : Hid (memB l x = false) := by show _ = _; rw [HM.out, List.drop_length]; rfl
      clear HM
      go_wp2
      go_ret
      exact ⟨by rw [HD.out]; rfl, by trivial⟩

end Go.Proofs.YtecffghcpknmjaaDoor

/- What is in a store may be a Meta; a store that there is not has none; the conditions stand in the theorems. -/
namespace Go.Proofs.YtecffghcpknmjaaDoor
open Go Go.RowKit

theorem versOf_mem {es : List (SEnt × Nat)} {x : Id} {v : S} : v ∈ versOf es x ↔ (⟨x.group, x.artifact, v⟩ : Gav) ∈ gavsOf es := by
  unfold versOf gavsOf
  rw [List.mem_map]
  constructor
  · rintro ⟨g, hg, rfl⟩
    obtain ⟨h1, h2⟩ := List.mem_filter.1 hg
    rw [← of_decide_eq_true h2]
    exact h1
  · intro h
    exact ⟨_, List.mem_filter.2 ⟨h, decide_eq_true rfl⟩, rfl⟩
theorem versOf_nd {es : List (SEnt × Nat)} (x : Id) (hn : (gavsOf es).Nodup) : (versOf es x).Nodup := by
  unfold versOf
  refine List.pairwise_map.2 ?_
  have h1 : ((es.map fun e => e.1.gav).filter fun g => decide (idOf g = x)).Nodup := hn.sublist List.filter_sublist
  refine List.Pairwise.imp_of_mem ?_ h1
  intro a b ha hb hab e
  have ia := of_decide_eq_true (List.mem_filter.1 ha).2
  have ib := of_decide_eq_true (List.mem_filter.1 hb).2
  apply hab
  have h2 : idOf a = idOf b := ia.trans ib.symm
  obtain ⟨ag, aa, av⟩ := a
  obtain ⟨bg, ba, bv⟩ := b
  simp only [idOf, Id.mk.injEq] at h2
  simp only at e
  rw [h2.1, h2.2, e]
theorem versOf_len (es : List (SEnt × Nat)) (x : Id) : (versOf es x).length ≤ es.length := by
  unfold versOf
  rw [List.length_map]
  refine Nat.le_trans (List.length_filter_le _ _) ?_
  rw [List.length_map]
  exact Nat.le_refl _
theorem gavMay_parts {g : Gav} (h : gavMay g = true) : isIdB g.group = true ∧ isIdB g.artifact = true ∧ verMay g.version = true := by
  unfold gavMay at h
  simp only [Bool.and_eq_true] at h
  exact ⟨h.1.1, h.1.2, h.2⟩
theorem verMay_sz {s : S} (h : verMay s = true) : s.size ≤ 64 := by
  unfold verMay at h
  simp only [Bool.and_eq_true, decide_eq_true_eq] at h
  exact h.2
theorem versOf_small {es : List (SEnt × Nat)} (x : Id) (hm : ∀ g ∈ gavsOf es, gavMay g = true) : AllSmall (versOf es x) := fun v hv => by
  have := verMay_sz (gavMay_parts (hm _ (versOf_mem.1 hv))).2.2
  simp only at this
  omega
/-- The Meta of what a store holds may be. -/
theorem metaOf_may {es : List (SEnt × Nat)} {x : Id} {M : List S} (hm : ∀ g ∈ gavsOf es, gavMay g = true) (hn : (gavsOf es).Nodup) (hl : es.length ≤ 1024) (h1 : Srt ltSV M) (h2 : SameE ltSV (versOf es x) M) (h0 : versOf es x ≠ []) : mayM ⟨x, M, lastV M, relV M⟩ = true := by
  have hp := h2.perm ltSV_weak
  have hlen := hp.length_eq
  have h3 := versOf_len es x
  obtain ⟨v, hv⟩ := List.exists_mem_of_ne_nil _ h0
  have hg := gavMay_parts (hm _ (versOf_mem.1 hv))
  rw [mayM_iff]
  refine ⟨hg.1, hg.2.1, fun e => h0 ?_, by show M.length ≤ 1024; omega, ⟨fun y hy => ?_, hp.nodup_iff.1 (versOf_nd x hn), h1⟩, rfl, rfl⟩
  · have e' : M = [] := e
    rw [e'] at hlen
    exact List.eq_nil_of_length_eq_zero hlen
  · exact (gavMay_parts (hm _ (versOf_mem.1 (hp.mem_iff.2 hy)))).2.2

theorem versions_nil (x : Id) (w : World) : Calls Tryd.prog 28 #[.pointer none, .agg #[.string x.group, .string x.artifact]] w fun e w' => e = .returned (.slice none 0 0) ∧ Below w.heap.size w w' := by
  go_enter Tryd.func28, Tryd.ntmps28
  go_upto_region 1 with fail
  refine wp_world ?_
  intro W hW
  have hb : Below w.heap.size w W := by rw [hW]; exact (Below.refl _ _).alloc (Nat.le_refl _) _
  clear hW
  go_wp2
  go_ret
  exact ⟨rfl, hb⟩
set_option maxRecDepth 100000 in
set_option maxHeartbeats 4000000 in
theorem metaOf_nil (x : Id) (w : World) : Calls Tryd.prog 8 #[.pointer none, .agg #[.string x.group, .string x.artifact]] w fun e w' => e = .returned (.tuple #[.agg metaZ.toArray, .bool false]) ∧ Below w.heap.size w w' := by
  go_enter Tryd.func8, Tryd.ntmps8
  go_upto_region 1 with fail
  refine wp_world ?_
  intro W hW
  have x1 : Box W w.heap.size [.string x.group, .string x.artifact] := by rw [hW]; exact (Box.new w [.string x.group, .string x.artifact] _ _ rfl).alloc _
  have y1 : Box W (w.heap.size + 1) metaZ := by rw [hW]; exact Box.new _ metaZ _ _ (by simp)
  have hb : Below w.heap.size w W := by rw [hW]; exact ((Below.refl _ w).alloc (Nat.le_refl _) _).alloc (by simp) _
  clear hW
  have HY := Lib.hid y1
  have HB := Lib.hid hb
  have x0 := x1.cell 0 _ rfl
  have x1' := x1.cell 1 _ rfl
  have xl := x1.lt
  clear x1 y1 hb
  go_wp2_with fail
  refine (versions_nil x W).mono ?_
  rintro e w1 ⟨rfl, h4⟩
  have HY1 := Lib.hid (HY.out.below h4 HY.out.lt)
  have HB1 := Lib.hid (HB.out.trans (h4.mono HB.out.size))
  clear h4 x0 x1' xl HY HB
  go_wp2_with ((with_reducible show wpList _ _ _ (Oper.mk none (Op.store 31 (.tmp 4) (.tmp 13)) _ _ _ _ :: _) _ _); refine wpList_store_box rfl 31 (.tmp 4) (.tmp 13) rfl (w.heap.size + 1) _ metaZ rfl rfl HY1.out rfl (by kernel_rfl) (by simp [metaZ, Value.oneCell']) ?_; intro W7 v7 hg7; have HV7 := Lib.hid v7; have HB7 := Lib.hid (gr_belowV HB1.out hg7 (by omega) (Nat.le_refl _)); clear v7 hg7)
  have z0 := HV7.out.cell 0 _ rfl
  have z1 := HV7.out.cell 1 _ rfl
  have z2 := HV7.out.cell 2 _ rfl
  have z3 := HV7.out.cell 3 _ rfl
  have z4 := HV7.out.cell 4 _ rfl
  have zl := HV7.out.lt
  clear HY1 HB1
  go_wp2
  refine bodyPost_ret (v := .tuple #[.agg metaZ.toArray, .bool false]) (by simp [results, Tryd.results8, go_sem, z0, z1, z2, z3, z4, metaZ]) rfl ?_
  exact ⟨rfl, HB7.out⟩

end Go.Proofs.YtecffghcpknmjaaDoor
