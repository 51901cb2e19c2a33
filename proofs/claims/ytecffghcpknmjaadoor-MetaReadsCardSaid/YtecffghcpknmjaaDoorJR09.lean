/- The law's Light on trees, walked; its conditions stand in the theorems. -/
import Derived.Test.YtecffghcpknmjaaDoorJR08
namespace Go.Proofs.YtecffghcpknmjaaDoor
open Go Go.RowKit

mutual
/-- How many elements and texts a tree has. -/
def Tr.cnt : Tr → Nat
  | .mk _ _ ks _ => 1 + Tr.cntL ks
def Tr.cntL : List Tr → Nat
  | [] => 0
  | t :: l => t.cnt + Tr.cntL l
end
theorem Tr.cnt_eq (t : Tr) : t.cnt = 1 + Tr.cntL t.kids := by cases t; rw [Tr.cnt]; rfl
theorem cntL_append : ∀ (l m : List Tr), Tr.cntL (l ++ m) = Tr.cntL l + Tr.cntL m
  | [], m => by simp [Tr.cntL]
  | t :: l, m => by rw [List.cons_append, Tr.cntL, Tr.cntL, cntL_append l m]; omega
theorem cntL_take (l : List Tr) (k : Nat) (h : k < l.length) : Tr.cntL (l.take (k + 1)) = Tr.cntL (l.take k) + l[k].cnt := by
  rw [List.take_succ_eq_append_getElem h, cntL_append]; simp [Tr.cntL]
/-- A tree of small parts. -/
inductive LightT : Tr → Prop where
  | mk {n : Bs} {ats : List At2} {ks : List Tr} {x : Bs} (hn : n.length ≤ 1000) (hx : x.length ≤ 1000) (hal : ats.length ≤ 20) (ha : ∀ a ∈ ats, a.1.length ≤ 1000 ∧ a.2.length ≤ 1000) (hkl : ks.length ≤ 300) (hk : ∀ k ∈ ks, LightT k) : LightT (.mk n ats ks x)
theorem LightT.of {t : Tr} (hn : t.name.length ≤ 1000) (hx : t.text.length ≤ 1000) (hal : t.attrs.length ≤ 20) (ha : ∀ a ∈ t.attrs, a.1.length ≤ 1000 ∧ a.2.length ≤ 1000) (hkl : t.kids.length ≤ 300) (hk : ∀ k ∈ t.kids, LightT k) : LightT t := by
  cases t; exact .mk hn hx hal ha hkl hk
theorem LightT.name {t : Tr} (h : LightT t) : t.name.length ≤ 1000 := by cases h; assumption
theorem LightT.text {t : Tr} (h : LightT t) : t.text.length ≤ 1000 := by cases h; assumption
theorem LightT.attrs {t : Tr} (h : LightT t) : ∀ a ∈ t.attrs, a.1.length ≤ 1000 ∧ a.2.length ≤ 1000 := by cases h; assumption
theorem LightT.kids {t : Tr} (h : LightT t) : ∀ k ∈ t.kids, LightT k := by cases h; assumption
/-- What light returns and leaves. -/
def LightOut (p l : Nat) (t : Tr) (w : World) (e : Ending) (w' : World) : Prop :=
  ∃ (b : Bool) (l' : Int), e = .returned (.bool b) ∧ Box w' p [.int .i64 l'] ∧ w.grownBy w' (some p) ∧ (b = true → LightT t ∧ 0 ≤ l' ∧ (l : Int) = l' + t.cnt)
theorem NodeX.attX {X : Nat → Prop} {w : World} {t : Tr} {av kv : Value} (h : NodeX X w t av kv) : SliceX 2 atC X w av t.attrs := by
  obtain ⟨_, -, h1, -⟩ := h.parts
  exact h1
theorem NodeX.kid2 {X : Nat → Prop} {w : World} {t : Tr} {av kv : Value} (h : NodeX X w t av kv) : ∃ ao cap, kv = .slice ao t.kids.length cap ∧ t.kids.length ≤ maxLen ∧ ∀ k (hk : k < t.kids.length), ∃ g o a b, ao = some ⟨g, o, none⟩ ∧ g < w.heap.size ∧ ¬ X g ∧ w.cell? ⟨g, o + k * 4, none⟩ = some (.string (bs t.kids[k].name)) ∧ w.cell? ⟨g, o + k * 4 + 1, none⟩ = some a ∧ w.cell? ⟨g, o + k * 4 + 2, none⟩ = some b ∧ w.cell? ⟨g, o + k * 4 + 3, none⟩ = some (.string (bs t.kids[k].text)) ∧ NodeX X w t.kids[k] a b ∧ ∃ a1 a2 a3 a4, a = .slice a1 t.kids[k].attrs.length a2 ∧ b = .slice a3 t.kids[k].kids.length a4 := by
  obtain ⟨L, his, -, ho, hn⟩ := h.parts
  obtain ⟨ao, cap, h1, h2, h3, h4, h5⟩ := ho
  have hl : L.length = t.kids.length := by rw [← his]; simp
  refine ⟨ao, cap, by rw [h1, hl], by omega, fun k hk => ?_⟩
  have hkL : k < L.length := by omega
  obtain ⟨g, o, e1, e2, e2', e3⟩ := h5 k L[k] (List.getElem?_eq_getElem hkL)
  have hkid : t.kids[k] = L[k].1 := by
    have : (L.map (·.1))[k]'(by simpa using hkL) = L[k].1 := by simp
    rw [← this]
    congr 1
    exact his.symm
  have hnk := hn _ (List.getElem_mem hkL)
  refine ⟨g, o, L[k].2.1, L[k].2.2, e1, e2, e2', ?_, e3 1 _ rfl, e3 2 _ rfl, ?_, ?_, ?_⟩
  · rw [hkid]; simpa using e3 0 _ rfl
  · rw [hkid]; exact e3 3 _ rfl
  · rw [hkid]; exact hnk
  · rw [hkid]
    obtain ⟨a1, a2, e1⟩ := hnk.att.shape
    obtain ⟨a3, a4, e2, -⟩ := hnk.kid
    exact ⟨a1, a2, a3, a4, e1, e2⟩
set_option maxRecDepth 100000 in
set_option maxHeartbeats 16000000 in
theorem light_any : ∀ (n : Nat) (t : Tr) (w : World) (av kv : Value) (d l p : Nat), SizeOf.sizeOf t ≤ n → NodeX (fun k => k = p) w t av kv → Box w p [.int .i64 l] → l ≤ 300 → d ≤ 20 →
    Calls Tryd.prog 46 #[nodeV t av kv, .int .i64 d, .pointer (some ⟨p, 0, none⟩)] w (LightOut p l t w)
  | 0, t, w, av, kv, d, l, p, hn, _, _, _, _ => by
    obtain ⟨n, l, k, x⟩ := t
    simp only [Tr.mk.sizeOf_spec] at hn
    omega
  | n + 1, t, w, av, kv, d, l, p, hn, ht, hp, hl, hd => by
    obtain ⟨ao, ac, hav⟩ := ht.att.shape
    obtain ⟨ko, kc, hkv, hka, hks⟩ := ht.kid2
    obtain ⟨ao', ac', hav', -, hac', -, hat⟩ := ht.attX
    rw [hav] at hav'
    simp only [Value.slice.injEq, true_and] at hav'
    obtain ⟨e1, e2⟩ := hav'
    subst e1 e2
    subst hav hkv
    unfold maxLen at hka hac'
    have haL : t.attrs.length ≤ 9223372036854775807 := by have := ht.att; obtain ⟨_, _, e, h1, h2, -⟩ := this; simp only [Value.slice.injEq] at e; unfold maxLen at h2; omega
    have HKS := Lib.hid hks
    have HAT := Lib.hid hat
    have HT := Lib.hid ht
    have HP := Lib.hid hp
    have HI : Hid (∀ k (hk : k < t.kids.length) (W' : World) (v1 v2 : Value) (l' : Nat), NodeX (fun k => k = p) W' t.kids[k] v1 v2 → Box W' p [.int .i64 l'] → l' ≤ 300 → d ≠ 0 → Calls Tryd.prog 46 #[nodeV t.kids[k] v1 v2, .int .i64 (d - 1 : Nat), .pointer (some ⟨p, 0, none⟩)] W' (LightOut p l' t.kids[k] W')) := fun k hk W' v1 v2 l' h1 h2 h3 h4 => light_any n _ W' v1 v2 (d - 1) l' p (by have := kid_less hk; omega) h1 h2 h3 (by omega)
    have p0 := hp.cell 0 _ rfl
    have pf := hp.free 0
    have pl := hp.lt
    have hpw : p ≠ w.heap.size := by omega
    clear hks hat ht hn hp hac'
    unfold nodeV
    go_enter Tryd.func46, Tryd.ntmps46
    go_upto_region 2 with fail
    refine wp_world ?_
    intro W hW
    have hgW : w.grownBy W (some p) := by rw [hW]; exact (setCell_grown _ _ _ _).trans (World.grownBy_alloc _ _ _)
    have x0 : Box W w.heap.size [.string (bs t.name), .slice ao t.attrs.length ac, .slice ko t.kids.length kc, .string (bs t.text)] := by rw [hW]; exact Box.new _ _ _ _ (by simp)
    have hpW : Box W p [.int .i64 ((l : Int) - 1)] := by rw [hW]; exact (HP.out.set 0 _).alloc _
    clear hW
    have HW := Lib.hid hgW
    have HX := Lib.hid x0
    have HPW := Lib.hid hpW
    have p0 := hpW.cell 0 _ rfl
    have a0 := x0.cell 0 _ rfl
    have a1 := x0.cell 1 _ rfl
    have a2 := x0.cell 2 _ rfl
    have a3 := x0.cell 3 _ rfl
    have pl' := hpW.lt
    have al := x0.lt
    have hnz : (bs t.name : S).size = t.name.length := bs_size _
    have htz : (bs t.text : S).size = t.text.length := bs_size _
    by_cases hall : d ≠ 0 ∧ 1 ≤ l ∧ t.kids.length ≤ 300 ∧ t.attrs.length ≤ 20 ∧ (bs t.name : S).size ≤ 1000 ∧ (bs t.text : S).size ≤ 1000
    rotate_left
    · clear hgW x0 hpW pf hnz htz
      have HALL := Lib.hid hall
      clear hall
      go_wp2_with fail
      all_goals first
        | (go_ret; exact ⟨false, _, rfl, HPW.out, HW.out, fun h => absurd h Bool.false_ne_true⟩)
        | (exfalso; exact HALL.out (by refine ⟨?_, ?_, ?_, ?_, ?_, ?_⟩ <;> first | omega | (intro h0; subst h0; simp_all)))
    obtain ⟨hd0, hl1, hk3, ha2, hn1, hx1⟩ := hall
    have hdb : ((d : Int) == 0) = false := beq_eq_false_iff_ne.2 (by omega)
    have hlI : ¬ ((l : Int) - 1 < 0) := by omega
    have hkI : ¬ ((300 : Int) < (t.kids.length : Int)) := by omega
    have haI : ¬ ((20 : Int) < (t.attrs.length : Int)) := by omega
    have hnI : ¬ ((1000 : Int) < ((bs t.name : S).size : Int)) := by omega
    have hxI : ¬ ((1000 : Int) < ((bs t.text : S).size : Int)) := by omega
    clear hgW x0 hpW pf hnz htz
    have HNX : Hid (t.name.length ≤ 1000 ∧ t.text.length ≤ 1000) := by show _ ∧ _; rw [bs_size] at hn1 hx1; exact ⟨hn1, hx1⟩
    have HATX : Hid (∀ i (hi : i < t.attrs.length), ∃ b o, ao = some ⟨b, o, none⟩ ∧ b < w.heap.size ∧ b ≠ p ∧ w.cell? ⟨b, o + i * 2, none⟩ = some (.string (bs t.attrs[i].1)) ∧ w.cell? ⟨b, o + i * 2 + 1, none⟩ = some (.string (bs t.attrs[i].2))) := fun i hi => by
      obtain ⟨b, o, h1, h2, h3, h4⟩ := HAT.out i _ (List.getElem?_eq_getElem hi)
      exact ⟨b, o, h1, h2, h3, h4 0 _ rfl, h4 1 _ rfl⟩
    clear HAT
    go_wp2
    go_loopw [51] (fun i wr => ∃ k : Nat, k ≤ t.attrs.length ∧ i = .int .i64 k ∧ Hid (Below W.heap.size W wr ∧ ∀ q (h1 : q < t.attrs.length), q < k → t.attrs[q].1.length ≤ 1000 ∧ t.attrs[q].2.length ≤ 1000)) (fun i _ => t.attrs.length - (intOf i).toNat)
    case atStart => exact ⟨0, Nat.zero_le _, rfl, Below.refl _ _, fun q _ h => absurd h (Nat.not_lt_zero q)⟩
    case round =>
      obtain ⟨k, hk, rfl, HR⟩ := hrel
      have hbw : w.grownBy wr (some p) := HW.out.trans (grownOf HR.out.1 _)
      have HBW := Lib.hid hbw
      have x0 := HX.out.below HR.out.1 al
      clear hbw a0 a1 a2 a3 p0
      by_cases hlt : k < t.attrs.length
      · obtain ⟨g, o, rfl, hg, hgp, c0, c1⟩ := HATX.out k hlt
        have tr : ∀ {g j u}, g < w.heap.size → g ≠ p → w.cell? ⟨g, j, none⟩ = some u → wr.cell? ⟨g, j, none⟩ = some u := fun hg hp h => (HBW.out.cell_far _ (by exact hg) (by simpa using hp)).trans h
        have c0' := tr hg hgp c0
        have c1' := tr hg hgp c1
        have hgr : g < wr.heap.size := Nat.lt_of_lt_of_le hg HBW.out.size
        have hki : (k : Int) < (t.attrs.length : Int) := by omega
        obtain ⟨N, hN⟩ : ∃ N : S, N = bs t.attrs[k].1 := ⟨_, rfl⟩
        obtain ⟨V, hV⟩ : ∃ V : S, V = bs t.attrs[k].2 := ⟨_, rfl⟩
        rw [← hN] at c0'
        rw [← hV] at c1'
        have hnl : N.size = t.attrs[k].1.length := by rw [hN, bs_size]
        have hvl : V.size = t.attrs[k].2.length := by rw [hV, bs_size]
        have HNL := Lib.hid hnl
        have HVL := Lib.hid hvl
        have hbn : ∀ o, Below W.heap.size W (wr.alloc o) := fun o => HR.out.1.alloc HR.out.1.size o
        have HBN := Lib.hid hbn
        clear tr c0 c1 x0 hN hV hnl hvl hbn
        by_cases hs : N.size ≤ 1000 ∧ V.size ≤ 1000
        · obtain ⟨hs1, hs2⟩ := hs
          have hsI : ¬ ((1000 : Int) < (N.size : Int)) := by omega
          have hsJ : ¬ ((1000 : Int) < (V.size : Int)) := by omega
          go_wp2
          go_roundw
          case rel => exact ⟨k + 1, hlt, by go_num, HBN.out _, fun q h1 h3 => by
            rcases Nat.lt_succ_iff_lt_or_eq.1 h3 with h | rfl
            · exact HR.out.2 q h1 h
            · rw [← HNL.out, ← HVL.out]; exact ⟨hs1, hs2⟩⟩
          case measure => simp [intOf]; omega
        · have HS := Lib.hid hs
          clear hs
          have hpn : ∀ o, Box (wr.alloc o) p [.int .i64 ((l : Int) - 1)] := fun o => (HPW.out.below HR.out.1 HPW.out.lt).alloc o
          have HPN := Lib.hid hpn
          have hgn : ∀ o, w.grownBy (wr.alloc o) (some p) := fun o => HBW.out.trans (World.grownBy_alloc _ _ _)
          have HGN := Lib.hid hgn
          clear hpn hgn
          go_wp2_with fail
          all_goals first
            | (go_ret; exact ⟨false, _, rfl, HPN.out _, HGN.out _, fun h => absurd h Bool.false_ne_true⟩)
            | (exfalso; exact HS.out ⟨by omega, by omega⟩)
      · obtain rfl : k = t.attrs.length := by omega
        have HAA : Hid (∀ a ∈ t.attrs, a.1.length ≤ 1000 ∧ a.2.length ≤ 1000) := fun a ha => by
          obtain ⟨q, hq, rfl⟩ := List.mem_iff_getElem.1 ha
          exact HR.out.2 q hq hq
        have HPR := Lib.hid (HPW.out.below HR.out.1 HPW.out.lt)
        have HXR := Lib.hid x0
        have a2 := x0.cell 2 _ rfl
        have al' := x0.lt
        clear x0 HR HX HPW HW al HATX
        go_wp2
        obtain ⟨wo, hwo⟩ : ∃ wo : World, wo = wr := ⟨_, rfl⟩
        subst hwo
        have hdw : IntKind.i64.wrap ((d : Int) - 1) = ((d - 1 : Nat) : Int) := by rw [IntWalk.i64_in _ (by omega)]; omega
        go_loopw [69] (fun i wr => ∃ (k c : Nat), k ≤ t.kids.length ∧ i = .int .i64 k ∧ Hid (wo.grownBy wr (some p) ∧ Box wr p [.int .i64 c] ∧ l = 1 + c + Tr.cntL (t.kids.take k) ∧ ∀ q (h1 : q < t.kids.length), q < k → LightT t.kids[q])) (fun i _ => t.kids.length - (intOf i).toNat)
        case atStart => exact ⟨0, l - 1, Nat.zero_le _, rfl, World.grownBy.refl _ _, by have := HPR.out; rwa [show ((l : Int) - 1) = ((l - 1 : Nat) : Int) by omega] at this, by simp [Tr.cntL]; omega, fun q _ h => absurd h (Nat.not_lt_zero q)⟩
        case round =>
          obtain ⟨k, c, hk, rfl, HR⟩ := hrel
          have hbw : w.grownBy wr (some p) := HBW.out.trans HR.out.1
          have HBR := Lib.hid hbw
          have hxp : w.heap.size ≠ p := Ne.symm hpw
          have x0 := HXR.out.grownB HR.out.1 hxp
          have pl2 := HR.out.2.1.lt
          clear hbw a2
          by_cases hlt : k < t.kids.length
          · obtain ⟨g, o, v1, v2, rfl, hg, hgp, c0, c1, c2, c3, hn1, r1, r2, r3, r4, rfl, rfl⟩ := HKS.out k hlt
            have tr : ∀ {g j u}, g < w.heap.size → ¬ g = p → w.cell? ⟨g, j, none⟩ = some u → wr.cell? ⟨g, j, none⟩ = some u := fun hg hp h => (HBR.out.cell_far _ (by exact hg) (by simpa using hp)).trans h
            have c0' := tr hg hgp c0
            have c1' := tr hg hgp c1
            have c2' := tr hg hgp c2
            have c3' := tr hg hgp c3
            have hgr : g < wr.heap.size := Nat.lt_of_lt_of_le hg HBR.out.size
            have hn1' : NodeX (fun k => k = p) wr t.kids[k] (.slice r1 t.kids[k].attrs.length r2) (.slice r3 t.kids[k].kids.length r4) := hn1.keep (KeptX.grown HBR.out (fun g e => by cases e; rfl)) (fun _ _ h => h)
            have hki : (k : Int) < (t.kids.length : Int) := by omega
            have hcl : c ≤ 300 := by have := HR.out.2.2.1; omega
            have HC : Hid (∀ o, Calls Tryd.prog 46 #[nodeV t.kids[k] (.slice r1 t.kids[k].attrs.length r2) (.slice r3 t.kids[k].kids.length r4), .int .i64 (d - 1 : Nat), .pointer (some ⟨p, 0, none⟩)] (wr.alloc o) (LightOut p c t.kids[k] (wr.alloc o))) := fun o => HI.out k hlt (wr.alloc o) _ _ c (hn1'.later ((Below.refl _ _).alloc (Nat.le_refl _) _)) (HR.out.2.1.alloc _) hcl hd0
            unfold nodeV at HC
            clear tr c0 c1 c2 c3 hn1 hn1' x0
            go_wp2_with fail
            refine (HC.out _).mono ?_
            rintro e w4 ⟨b, l', rfl, hb4, hg4, hz4⟩
            have hgn : wo.grownBy w4 (some p) := (HR.out.1.trans (World.grownBy_alloc _ _ _)).trans hg4
            have HGN := Lib.hid hgn
            have HB4 := Lib.hid hb4
            have HZ4 := Lib.hid hz4
            clear hgn hb4 hg4 hz4 HC
            cases b with
            | false =>
              go_wp2
              go_ret
              exact ⟨false, _, rfl, HB4.out, HBW.out.trans HGN.out, fun h => absurd h Bool.false_ne_true⟩
            | true =>
              go_wp2
              go_roundw
              case rel =>
                obtain ⟨z1, z2, z3⟩ := HZ4.out (by trivial)
                exact ⟨k + 1, l'.toNat, hlt, by go_num, HGN.out, by have := HB4.out; rwa [show l' = ((l'.toNat : Nat) : Int) by omega] at this, by rw [cntL_take _ _ hlt]; have := HR.out.2.2.1; omega, fun q h1 h3 => by
                  rcases Nat.lt_succ_iff_lt_or_eq.1 h3 with h | rfl
                  · exact HR.out.2.2.2 q h1 h
                  · exact z1⟩
              case measure => simp [intOf]; omega
          · obtain rfl : k = t.kids.length := by omega
            have HLT : Hid (LightT t) := .of HNX.out.1 HNX.out.2 ha2 HAA.out hk3 (fun y hy => by
              obtain ⟨q, hq, rfl⟩ := List.mem_iff_getElem.1 hy
              exact HR.out.2.2.2 q hq hq)
            have HCN : Hid ((l : Int) = (c : Int) + t.cnt) := by
              show _ = _
              have := HR.out.2.2.1
              rw [List.take_length] at this
              rw [Tr.cnt_eq]; omega
            clear x0
            go_wp2
            go_ret
            exact ⟨true, c, rfl, HR.out.2.1, HBR.out, fun _ => ⟨HLT.out, by omega, HCN.out⟩⟩

end Go.Proofs.YtecffghcpknmjaaDoor

/- Walks of functions that go through a tree's kids: Light, both Counts, Depth; their conditions stand in the theorems. -/
namespace Go.Proofs.YtecffghcpknmjaaDoor
open Go Go.RowKit

/-- A kid's cells, its slices written out. -/
theorem NodeX.at {X : Nat → Prop} {w : World} {t : Tr} {av : Value} {ko : Option Addr} {m kc : Nat} (h : NodeX X w t av (.slice ko m kc)) (k : Nat) (hk : k < t.kids.length) : ∃ g o a1 a2 a3 a4, ko = some ⟨g, o, none⟩ ∧ g < w.heap.size ∧ ¬ X g ∧ w.cell? ⟨g, o + k * 4, none⟩ = some (.string (bs t.kids[k].name)) ∧ w.cell? ⟨g, o + k * 4 + 1, none⟩ = some (.slice a1 t.kids[k].attrs.length a2) ∧ w.cell? ⟨g, o + k * 4 + 2, none⟩ = some (.slice a3 t.kids[k].kids.length a4) ∧ w.cell? ⟨g, o + k * 4 + 3, none⟩ = some (.string (bs t.kids[k].text)) ∧ NodeX X w t.kids[k] (.slice a1 t.kids[k].attrs.length a2) (.slice a3 t.kids[k].kids.length a4) := by
  obtain ⟨ao, cap, e, -, h2⟩ := h.kid2
  simp only [Value.slice.injEq] at e
  obtain ⟨rfl, -, -⟩ := e
  obtain ⟨g, o, a, b, h3, h4, h5, h6, h7, h8, h9, h10, a1, a2, a3, a4, rfl, rfl⟩ := h2 k hk
  exact ⟨g, o, a1, a2, a3, a4, h3, h4, h5, h6, h7, h8, h9, h10⟩
theorem NodeX.shape {X : Nat → Prop} {w : World} {t : Tr} {av kv : Value} (h : NodeX X w t av kv) : ∃ ao ac ko kc, av = .slice ao t.attrs.length ac ∧ kv = .slice ko t.kids.length kc ∧ t.attrs.length ≤ 9223372036854775807 ∧ t.kids.length ≤ 9223372036854775807 := by
  obtain ⟨ao, ac, e1, h1, h2, -⟩ := h.att
  obtain ⟨ko, kc, e2, h3, -⟩ := h.kid2
  unfold maxLen at h2 h3
  exact ⟨ao, ac, ko, kc, e1, e2, by omega, by omega⟩
set_option maxRecDepth 100000 in
set_option maxHeartbeats 4000000 in
theorem lightTop_any (t : Tr) (w : World) (av kv : Value) (h : NodeOf w t av kv) : Calls Tryd.prog 22 #[nodeV t av kv] w fun e w' => Below w.heap.size w w' ∧ ∃ b : Bool, e = .returned (.bool b) ∧ (b = true → LightT t ∧ t.cnt ≤ 300) := by
  obtain ⟨ao, ac, ko, kc, rfl, rfl, -, -⟩ := h.shape
  have HL : Hid (∀ W, Below w.heap.size w W → Box W (w.heap.size + 1) [.int .i64 300] → Calls Tryd.prog 46 #[nodeV t (.slice ao t.attrs.length ac) (.slice ko t.kids.length kc), .int .i64 20, .pointer (some ⟨w.heap.size + 1, 0, none⟩)] W (LightOut (w.heap.size + 1) 300 t W)) := fun W hb hx => light_any _ t W _ _ 20 300 _ (Nat.le_refl _) (h.keep (Y := fun k => k = w.heap.size + 1) (KeptX.below hb) (fun k h1 h2 => by omega)) hx (Nat.le_refl _) (Nat.le_refl _)
  clear h
  unfold nodeV at HL ⊢
  go_enter Tryd.func22, Tryd.ntmps22
  go_wp2_with fail
  have hb : Below w.heap.size w ((w.alloc (.cells #[.string (bs t.name), .slice ao t.attrs.length ac, .slice ko t.kids.length kc, .string (bs t.text)] 47)).alloc (.cells #[.int .i64 300] 3)) := ((Below.refl _ w).alloc (Nat.le_refl _) _).alloc (by simp) _
  have hx : Box ((w.alloc (.cells #[.string (bs t.name), .slice ao t.attrs.length ac, .slice ko t.kids.length kc, .string (bs t.text)] 47)).alloc (.cells #[.int .i64 300] 3)) (w.heap.size + 1) [.int .i64 300] := Box.new _ _ _ _ (by simp)
  refine (HL.out _ hb hx).mono ?_
  rintro e w4 ⟨b, l', rfl, hb4, hg4, hz4⟩
  have HB := Lib.hid (hb.trans ((below_grown hg4 (Nat.le_of_lt hx.lt)).mono (by omega)))
  have HZ := Lib.hid hz4
  clear hz4 hb hx hb4 hg4 HL
  go_wp2
  go_ret
  refine ⟨HB.out, b, rfl, fun h => ?_⟩
  obtain ⟨h1, h2, h3⟩ := HZ.out h
  exact ⟨h1, by omega⟩

end Go.Proofs.YtecffghcpknmjaaDoor

/- Walks of the tree's Attr, Kids and Text; their conditions stand in the theorems. -/
namespace Go.Proofs.YtecffghcpknmjaaDoor
open Go Go.RowKit

/-- Is this a kid that is asked for? -/
def isKid (m : Bs) (t : Tr) : Bool := !t.name.isEmpty && (m.isEmpty || decide (t.name = m))
def kidsF (m : Bs) (l : List Tr) : List Tr := l.filter (isKid m)
/-- The texts' letters. -/
def textF : List Tr → Bs
  | [] => []
  | t :: l => (if t.name.isEmpty then t.text else []) ++ textF l
theorem kidsF_take {m : Bs} {l : List Tr} {k : Nat} (h : k < l.length) : kidsF m (l.take (k + 1)) = kidsF m (l.take k) ++ if isKid m l[k] then [l[k]] else [] := by
  unfold kidsF
  rw [List.take_succ_eq_append_getElem h, List.filter_append]
  congr 1
  by_cases hk : isKid m l[k] = true
  · simp [hk]
  · simp [hk]
theorem textF_append : ∀ (l r : List Tr), textF (l ++ r) = textF l ++ textF r
  | [], r => by simp [textF]
  | t :: l, r => by rw [List.cons_append, textF, textF, textF_append l r, List.append_assoc]
theorem textF_take {l : List Tr} {k : Nat} (h : k < l.length) : textF (l.take (k + 1)) = textF (l.take k) ++ if l[k].name.isEmpty then l[k].text else [] := by
  rw [List.take_succ_eq_append_getElem h, textF_append]; simp [textF]
theorem textF_take_le : ∀ (l : List Tr) (k : Nat), (textF (l.take k)).length ≤ (textF l).length
  | [], k => by simp
  | t :: l, 0 => by simp [textF]
  | t :: l, k + 1 => by have := textF_take_le l k; simp only [List.take_succ_cons, textF, List.length_append]; omega
/-- A list of nodes that a call has collected. -/
structure Coll (B : Nat) (w wr : World) (v : Value) (L : List TrV) : Prop where
  below : Below B w wr
  own : Owns B 47 4 trC wr v L
  nodes : ∀ y ∈ L, NodeX (fun j => B ≤ j) wr y.1 y.2.1 y.2.2
/-- The same, of nodes that lie outside of some blocks besides. -/
structure CollX (X : Nat → Prop) (B : Nat) (w wr : World) (v : Value) (L : List TrV) : Prop where
  below : Below B w wr
  own : Owns B 47 4 trC wr v L
  nodes : ∀ y ∈ L, NodeX (fun j => X j ∨ B ≤ j) wr y.1 y.2.1 y.2.2
theorem CollX.coll {X : Nat → Prop} {B : Nat} {w wr : World} {v : Value} {L : List TrV} (h : CollX X B w wr v L) : Coll B w wr v L :=
  ⟨h.below, h.own, fun y hy => (h.nodes y hy).keep (KeptX.refl _ _) (fun _ _ h => .inr h)⟩
theorem CollX.alloc {X : Nat → Prop} {B : Nat} {w wr : World} {v : Value} {L : List TrV} (h : CollX X B w wr v L) (hB : B ≤ wr.heap.size) (o : Obj) : CollX X B w (wr.alloc o) v L :=
  ⟨h.below.alloc hB o, h.own.alloc o, fun y hy => (h.nodes y hy).later ((Below.refl _ _).alloc (Nat.le_refl _) _)⟩
theorem CollX.push {X : Nat → Prop} {B : Nat} {w wr w8 : World} {v v8 : Value} {L : List TrV} {y : TrV} (h : CollX X B w wr v L) (hy : NodeX (fun j => X j ∨ B ≤ j) wr y.1 y.2.1 y.2.2) (ho : Owns B 47 4 trC w8 v8 (L ++ [y])) (hg : wr.grownBy w8 v.ownBlock) (hB : B ≤ wr.heap.size) : CollX X B w w8 v8 (L ++ [y]) := by
  have hX : ∀ g, v.ownBlock = some g → B ≤ g := fun g e => (h.own.rowOf e).1
  have hk : KeptX (fun j => X j ∨ B ≤ j) wr w8 := KeptX.grown hg (fun g e => .inr (hX g e))
  have hb : Below B wr w8 := ⟨hg.os, hg.tape, hg.output, by have := hg.size; omega, fun k hk => hg.block k (by omega) (fun e => by have := hX k e.symm; omega)⟩
  refine ⟨h.below.trans hb, ho, fun z hz => ?_⟩
  rcases List.mem_append.1 hz with hz | hz
  · exact (h.nodes z hz).keep hk (fun _ _ h => h)
  · obtain rfl := List.mem_singleton.1 hz
    exact hy.keep hk (fun _ _ h => h)
/-- The literal of one node. -/
theorem lit_one (y : TrV) (W : World) (H : Nat) (hH : W.heap.size = H) : SliceOf 4 trC (W.alloc (.cells (trC y).toArray 47)) (.slice (some ⟨H, 0, none⟩) 1 1) [y] := by
  have h := sliceLit trC_len W [y] 47 H 1 hH rfl (by unfold maxLen; simp)
  simpa using h
theorem one_one (t : Tr) (a1 a3 : Option Addr) (l1 l3 a2 a4 : Nat) : ∀ y ∈ [((t, .slice a1 l1 a2, .slice a3 l3 a4) : TrV)], ∀ u ∈ trC y, u.oneCell' = true := by
  intro y hy u hu
  obtain rfl := List.mem_singleton.1 hy
  simp only [trC, nodeC, List.mem_cons, List.not_mem_nil, or_false] at hu
  rcases hu with rfl | rfl | rfl | rfl <;> rfl
theorem filter_len (m : Bs) (l : List Tr) (k : Nat) : (kidsF m (l.take k)).length ≤ k := by
  have h1 := List.length_filter_le (isKid m) (l.take k)
  have h2 : (l.take k).length ≤ k := List.length_take_le _ _
  unfold kidsF; omega
set_option maxRecDepth 100000 in
set_option maxHeartbeats 8000000 in
theorem kids_x {X : Nat → Prop} (t : Tr) (m : Bs) (w : World) (av kv : Value) (ht : NodeX X w t av kv) (hkl : t.kids.length ≤ 100000) :
    Calls Tryd.prog 49 #[nodeV t av kv, .string (bs m)] w fun e w' => ∃ v L, e = .returned v ∧ L.map (·.1) = kidsF m t.kids ∧ CollX X w.heap.size w w' v L := by
  obtain ⟨ao, ac, ko, kc, rfl, rfl, hal, -⟩ := ht.shape
  have HT := Lib.hid ht
  clear ht
  unfold nodeV
  go_enter Tryd.func49, Tryd.ntmps49
  go_wp2
  go_loopw [4, 10] (fun v i wr => ∃ (k : Nat) (L : List TrV) (v' : Value), k ≤ t.kids.length ∧ i = .int .i64 k ∧ v = v' ∧ Hid (w.heap.size < wr.heap.size ∧ CollX X w.heap.size w wr v' L ∧ L.map (·.1) = kidsF m (t.kids.take k))) (fun _ i _ => t.kids.length - (intOf i).toNat)
  case atStart => exact ⟨0, [], _, Nat.zero_le _, rfl, rfl, by simp, ⟨(Below.refl _ w).alloc (Nat.le_refl _) _, Owns.nil, by simp⟩, by simp [kidsF]⟩
  case round =>
    obtain ⟨k, L, v, hk, rfl, rfl, HR⟩ := hrel
    obtain ⟨la, lc, hlv⟩ := HR.out.2.1.own.shape
    subst hlv
    by_cases hlt : k < t.kids.length
    · obtain ⟨g, o, a1, a2, a3, a4, rfl, hg, -, c0, c1, c2, c3, hn1⟩ := (HT.out.later HR.out.2.1.below).at k hlt
      have hnX : NodeX (fun j => X j ∨ w.heap.size ≤ j) w t (.slice ao t.attrs.length ac) (.slice (some ⟨g, o, none⟩) t.kids.length kc) := HT.out.keep (KeptX.refl _ _) (fun k h1 h2 => h2.elim id (fun h => by omega))
      obtain ⟨g', o', b1, b2, b3, b4, e1, -, -, d0, d1, d2, d3, hn2⟩ := (hnX.keep (KeptX.below HR.out.2.1.below) (fun _ _ h => h)).at k hlt
      simp only [Option.some.injEq, Addr.mk.injEq, and_true] at e1
      obtain ⟨rfl, rfl⟩ := e1
      rw [c1] at d1
      rw [c2] at d2
      simp only [Option.some.injEq, Value.slice.injEq, true_and] at d1 d2
      obtain ⟨rfl, rfl⟩ := d1
      obtain ⟨rfl, rfl⟩ := d2
      have hki : (k : Int) < (t.kids.length : Int) := by omega
      have HD := Lib.hid (kidsF_take (m := m) hlt)
      have HC := Lib.hid (fun o => HR.out.2.1.alloc (Nat.le_of_lt HR.out.1) o)
      have HZ := Lib.hid (fun o => (show w.heap.size < (wr.alloc o).heap.size by have := HR.out.1; simp; omega))
      have HN := Lib.hid hn2
      have hE := bs_beq2 t.kids[k].name m
      have hLl : L.length ≤ k := by
        have h1 := filter_len m t.kids k
        rw [← HR.out.2.2] at h1
        simpa using h1
      clear d0 d3 hn1 hn2 hnX
      by_cases hne : t.kids[k].name = []
      · have he : (bs t.kids[k].name : S).toList.isEmpty = true := by rw [empty_data, bs_size, hne]; rfl
        have he2 : (!(bs t.kids[k].name : S).toList.isEmpty) = false := by rw [he]; rfl
        have hik : isKid m t.kids[k] = false := by unfold isKid; rw [hne]; rfl
        rw [hik] at HD
        clear hne hE hik
        go_wp2
        go_roundw
        case rel => exact ⟨k + 1, L, _, hlt, by go_num, rfl, HZ.out _, HC.out _, by rw [HD.out, HR.out.2.2]; simp⟩
        case measure => simp [intOf]; omega
      · have he : (bs t.kids[k].name : S).toList.isEmpty = false := by rw [empty_data, bs_size]; simpa using hne
        have he2 : (!(bs t.kids[k].name : S).toList.isEmpty) = true := by rw [he]; rfl
        have hkE : t.kids[k].name.isEmpty = false := by simpa using hne
        have hmE : (bs m : S).toList.isEmpty = m.isEmpty := by rw [empty_data, bs_size]; cases m <;> simp
        have hik : isKid m t.kids[k] = (m.isEmpty || decide (t.kids[k].name = m)) := by unfold isKid; rw [hkE]; rfl
        clear hne
        have hcs : (isKid m t.kids[k] = false ∧ (bs m : S).toList.isEmpty = false ∧ ((bs t.kids[k].name : S).toList == (bs m : S).toList) = false) ∨ (isKid m t.kids[k] = true ∧ (bs m : S).toList.isEmpty = true) ∨ (isKid m t.kids[k] = true ∧ (bs m : S).toList.isEmpty = false ∧ ((bs t.kids[k].name : S).toList == (bs m : S).toList) = true) := by
          rw [hik, hmE, hE]
          cases m.isEmpty <;> cases decide (t.kids[k].name = m) <;> simp
        clear hik hmE hE hkE
        rcases hcs with ⟨hik, hm1, hE⟩ | hcs
        · rw [hik] at HD
          clear hik
          go_wp2
          go_roundw
          case rel => exact ⟨k + 1, L, _, hlt, by go_num, rfl, HZ.out _, HC.out _, by rw [HD.out, HR.out.2.2]; simp⟩
          case measure => simp [intOf]; omega
        · have hikt : isKid m t.kids[k] = true := by rcases hcs with ⟨h, -⟩ | ⟨h, -⟩ <;> exact h
          rw [hikt] at HD
          have HOO : Hid (∀ o o2, Owns w.heap.size 47 4 trC ((wr.alloc o).alloc o2) (.slice la L.length lc) L) := fun o o2 => ((HC.out o).own).alloc o2
          have HFI : Hid (∀ o o2 v8 w8, Owns w.heap.size 47 4 trC w8 v8 (L ++ [(t.kids[k], .slice a1 t.kids[k].attrs.length a2, .slice a3 t.kids[k].kids.length a4)]) → ((wr.alloc o).alloc o2).grownBy w8 (Value.slice la L.length lc).ownBlock → w.heap.size < w8.heap.size ∧ CollX X w.heap.size w w8 v8 (L ++ [(t.kids[k], .slice a1 t.kids[k].attrs.length a2, .slice a3 t.kids[k].kids.length a4)])) := fun o o2 v8 w8 h1 h2 =>
            ⟨by have := h2.size; have := HZ.out o; simp at *; omega, ((HC.out o).alloc (Nat.le_of_lt (HZ.out o)) o2).push ((HN.out.later ((Below.refl _ _).alloc (Nat.le_refl _) _)).later ((Below.refl _ _).alloc (Nat.le_refl _) _)) h1 h2 (by have := HZ.out o; simp at *; omega)⟩
          have HSZ2 : Hid (∀ o o2, w.heap.size ≤ ((wr.alloc o).alloc o2).heap.size) := fun o o2 => by have := HZ.out o; simp at *; omega
          have HBY : Hid (∀ y : TrV, (L.length + [y].length) * 80 ≤ 140737488355328) := fun y => by simp only [List.length_cons, List.length_nil]; omega
          have HLL := Lib.hid hLl
          have HIS := Lib.hid HR.out.2.2
          have hCS : ((bs m : S).toList.isEmpty = true) ∨ ((bs m : S).toList.isEmpty = false ∧ ((bs t.kids[k].name : S).toList == (bs m : S).toList) = true) := by
            rcases hcs with ⟨-, h⟩ | ⟨-, h⟩
            · exact .inl h
            · exact .inr h
          clear hcs hikt HR HT HN HC HZ hLl
          generalize hkk : t.kids[k] = y at *
          obtain ⟨yn, ya, yk, yx⟩ := y
          simp only [Tr.name, Tr.attrs, Tr.kids, Tr.text] at *
          rcases hCS with hm1 | ⟨hm1, hE⟩
          all_goals
            go_wp2_with (at_builtin; go_loud ((refine wpList_append_slice _ rfl _ _ 45 rfl w.heap.size 47 Tryd.underlying45 info_node rfl (by decide) trC_len (.slice la L.length lc) L rfl (HOO.out _ _) _ [((.mk yn ya yk yx, .slice a1 ya.length a2, .slice a3 yk.length a4) : TrV)] rfl (lit_one (.mk yn ya yk yx, .slice a1 ya.length a2, .slice a3 yk.length a4) _ _ (by simp)) (one_one _ _ _ _ _ _ _) (HBY.out _) (by decide) (HSZ2.out _ _) ?_; intro v8 w8 hown8 hgrow8 hloc8; have HP8 := Lib.hid (HFI.out _ _ _ _ hown8 hgrow8); clear hown8 hgrow8 hloc8)))
            go_wp2
            go_roundw
            case rel => exact ⟨k + 1, _, _, hlt, by go_num, rfl, HP8.out.1, HP8.out.2, by rw [HD.out, List.map_append, HIS.out]; rfl⟩
            case measure => simp [intOf]; omega
    · obtain rfl : k = t.kids.length := by omega
      have HF : Hid (L.map (·.1) = kidsF m t.kids) := by show _ = _; rw [HR.out.2.2, List.take_length]
      go_wp2
      go_ret
      exact ⟨_, L, rfl, HF.out, HR.out.2.1⟩
theorem kids_any (t : Tr) (m : Bs) (w : World) (av kv : Value) (ht : NodeOf w t av kv) (hkl : t.kids.length ≤ 100000) :
    Calls Tryd.prog 49 #[nodeV t av kv, .string (bs m)] w fun e w' => ∃ v L, e = .returned v ∧ L.map (·.1) = kidsF m t.kids ∧ Coll w.heap.size w w' v L :=
  (kids_x t m w av kv ht hkl).mono fun _ _ ⟨v, L, h1, h2, h3⟩ => ⟨v, L, h1, h2, h3.coll⟩
set_option maxRecDepth 100000 in
set_option maxHeartbeats 8000000 in
theorem text_any (t : Tr) (w : World) (av kv : Value) (ht : NodeOf w t av kv) (hx : (textF t.kids).length ≤ 1000000000) :
    Calls Tryd.prog 50 #[nodeV t av kv] w fun e w' => e = .returned (.string (bs (trimB (textF t.kids)))) ∧ Below w.heap.size w w' := by
  obtain ⟨ao, ac, ko, kc, rfl, rfl, -, hkl⟩ := ht.shape
  have HT := Lib.hid ht
  have HX := Lib.hid hx
  clear ht hx
  unfold nodeV
  go_enter Tryd.func50, Tryd.ntmps50
  go_wp2
  go_loopw [3, 9] (fun a i wr => ∃ (k : Nat) (s : S), k ≤ t.kids.length ∧ i = .int .i64 k ∧ a = .string s ∧ Hid (Below w.heap.size w wr ∧ s = bs (textF (t.kids.take k)))) (fun _ i _ => t.kids.length - (intOf i).toNat)
  case atStart => exact ⟨0, ⟨#[]⟩, Nat.zero_le _, rfl, rfl, (Below.refl _ w).alloc (Nat.le_refl _) _, by simp [textF]; rfl⟩
  case round =>
    obtain ⟨k, s, hk, rfl, rfl, HR⟩ := hrel
    by_cases hlt : k < t.kids.length
    · obtain ⟨g, o, a1, a2, a3, a4, rfl, hg, -, c0, c1, c2, c3, -⟩ := (HT.out.later HR.out.1).at k hlt
      have hki : (k : Int) < (t.kids.length : Int) := by omega
      have HD := Lib.hid (textF_take hlt)
      have HB := Lib.hid (fun o => HR.out.1.alloc HR.out.1.size o)
      by_cases hne : t.kids[k].name = []
      · have he : (bs t.kids[k].name : S).toList.isEmpty = true := by rw [empty_data, bs_size, hne]; rfl
        have hkE : t.kids[k].name.isEmpty = true := by rw [hne]; rfl
        rw [hkE] at HD
        obtain ⟨X, hX⟩ : ∃ X : S, X = bs t.kids[k].text := ⟨_, rfl⟩
        rw [← hX] at c3
        have HS : Hid (s ++ X = bs (textF (t.kids.take (k + 1)))) := by show _ = _; rw [HR.out.2, hX, bs_append, HD.out]; rfl
        have hsz : ¬ 9223372036854775807 < s.size + X.size := by
          have h1 := textF_take_le t.kids (k + 1)
          have h2 := HX.out
          have h3 : (s ++ X).size = (textF (t.kids.take (k + 1))).length := by rw [HS.out, bs_size]
          have h4 : (s ++ X).size = s.size + X.size := by simp
          omega
        clear hne hX hkE HD
        go_wp2
        go_roundw
        case rel => exact ⟨k + 1, s ++ X, hlt, by go_num, rfl, HB.out _, HS.out⟩
        case measure => simp [intOf]; omega
      · have he : (bs t.kids[k].name : S).toList.isEmpty = false := by rw [empty_data, bs_size]; simpa using hne
        have hkE : t.kids[k].name.isEmpty = false := by simpa using hne
        rw [hkE] at HD
        have HS : Hid (s = bs (textF (t.kids.take (k + 1)))) := by show _ = _; rw [HD.out, HR.out.2]; simp
        clear hne hkE HD
        go_wp2
        go_roundw
        case rel => exact ⟨k + 1, s, hlt, by go_num, rfl, HB.out _, HS.out⟩
        case measure => simp [intOf]; omega
    · obtain rfl : k = t.kids.length := by omega
      have hs : s = bs (textF t.kids) := by have := HR.out.2; rwa [List.take_length] at this
      have HTR := Lib.hid (trim_any s wr (by rw [hs, bs_size]; exact HX.out))
      have HS : Hid (s.data.toList = textF t.kids) := by show _ = _; rw [hs]; rfl
      clear hs
      go_wp2_with fail
      refine HTR.out.mono ?_
      rintro e w4 ⟨x, rfl, hx, rfl⟩
      have HX : Hid (x = bs (trimB (textF t.kids))) := by show _ = _; rw [← HS.out, ← hx, data_bs]
      clear hx
      go_wp2
      go_ret
      exact ⟨by rw [← HX.out]; rfl, HR.out.1⟩

end Go.Proofs.YtecffghcpknmjaaDoor

/- What a Meta's tree says, as plain functions; the walks of meta.single and meta.id; the conditions stand in the theorems. -/
namespace Go.Proofs.YtecffghcpknmjaaDoor
open Go Go.RowKit

def tx (t : Tr) : Bs := trimB (textF t.kids)
/-- The only element of a name. -/
def oneK (m : Bs) (t : Tr) : Option Tr := match kidsF m t.kids with
  | [k] => some k
  | _ => none
/-- The text of the only element of a name, which is an id. -/
def idK (m : Bs) (t : Tr) : Option Bs := match oneK m t with
  | some k => if isIdB (bs (tx k)) = true ∧ kidsF [] k.kids = [] then some (tx k) else none
  | none => none
theorem textF_light : ∀ (l : List Tr), (∀ k ∈ l, LightT k) → (textF l).length ≤ 1000 * l.length
  | [], _ => by simp [textF]
  | t :: l, h => by
    have h1 := (h t (by simp)).text
    have h2 := textF_light l fun k hk => h k (by simp [hk])
    unfold textF
    rw [List.length_append, List.length_cons]
    split
    · omega
    · simp only [List.length_nil]; omega
theorem lightT_kidl {t : Tr} (h : LightT t) : t.kids.length ≤ 300 := by cases h; assumption
theorem LightT.textL {t : Tr} (h : LightT t) : (textF t.kids).length ≤ 300000 := by
  have h1 := textF_light t.kids h.kids
  have h2 := lightT_kidl h
  omega
theorem trimB_le (l : Bs) : (trimB l).length ≤ l.length := by
  have h1 : ∀ m : Bs, (m.dropWhile cBlank).length ≤ m.length := fun m => (List.dropWhile_sublist _).length_le
  unfold trimB
  have h2 := h1 (l.dropWhile cBlank).reverse
  have h3 := h1 l
  rw [List.length_reverse] at h2 ⊢
  omega
theorem tx_len {t : Tr} (h : LightT t) : (tx t).length ≤ 300000 := Nat.le_trans (trimB_le _) h.textL
theorem kidsF_light {t : Tr} {m : Bs} (h : LightT t) : ∀ k ∈ kidsF m t.kids, LightT k := fun k hk => h.kids k (List.mem_filter.1 hk).1
theorem oneK_light {t k : Tr} {m : Bs} (h : LightT t) (hk : oneK m t = some k) : LightT k := by
  unfold oneK at hk
  split at hk
  · rename_i x hx
    cases hk
    exact kidsF_light h _ (by rw [hx]; simp)
  · cases hk
def nodeZ : List Value := [.string ⟨#[]⟩, .slice none 0 0, .slice none 0 0, .string ⟨#[]⟩]
/-- What single answers. -/
def SingleP (X : Nat → Prop) (o : Option Tr) (w : World) (e : Ending) (w' : World) : Prop := Below w.heap.size w w' ∧ match o with
  | some k => ∃ av kv, e = .returned (.tuple #[nodeV k av kv, .bool true]) ∧ NodeX X w' k av kv
  | none => e = .returned (.tuple #[.agg nodeZ.toArray, .bool false])
theorem SingleP.some {X : Nat → Prop} {k : Tr} {w : World} {e : Ending} {w' : World} (h : SingleP X (some k) w e w') : Below w.heap.size w w' ∧ ∃ av kv, e = .returned (.tuple #[nodeV k av kv, .bool true]) ∧ NodeX X w' k av kv := h
theorem SingleP.none {X : Nat → Prop} {w : World} {e : Ending} {w' : World} (h : SingleP X none w e w') : Below w.heap.size w w' ∧ e = .returned (.tuple #[.agg nodeZ.toArray, .bool false]) := h
theorem nodeX_put {X : Nat → Prop} {w w' : World} {t : Tr} {av kv : Value} {N : Nat} {row : Option Nat} (h : NodeX (fun j => X j ∨ N ≤ j) w t av kv) (hg : w.grownBy w' row) (hr : ∀ g, row = .some g → N ≤ g) : NodeX (fun j => X j ∨ N ≤ j) w' t av kv := h.keep (KeptX.grown hg fun g e => .inr (hr g e)) (fun _ _ h => h)
theorem nodeX_out {X : Nat → Prop} {w w' : World} {t : Tr} {av kv : Value} {N : Nat} (h : NodeX X w t av kv) (hN : w.heap.size ≤ N) (hb : Below w.heap.size w w') : NodeX (fun j => X j ∨ N ≤ j) w' t av kv := h.keep (KeptX.below hb) (fun k hk h => h.elim id (by omega))
theorem nodeX_in {X : Nat → Prop} {w : World} {t : Tr} {av kv : Value} {N : Nat} (h : NodeX (fun j => X j ∨ N ≤ j) w t av kv) : NodeX X w t av kv := h.keep (KeptX.refl _ _) (fun _ _ h => .inl h)
theorem row_at {B n lc : Nat} {lo : Option Addr} {w : World} {L : List TrV} (h : Owns B 47 4 trC w (.slice lo n lc) L) {y : TrV} {k : Nat} (hy : L[k]? = some y) : ∃ b, lo = some ⟨b, 0, none⟩ ∧ b < w.heap.size ∧ w.cell? ⟨b, k * 4, none⟩ = some (.string (bs y.1.name)) ∧ w.cell? ⟨b, k * 4 + 1, none⟩ = some y.2.1 ∧ w.cell? ⟨b, k * 4 + 2, none⟩ = some y.2.2 ∧ w.cell? ⟨b, k * 4 + 3, none⟩ = some (.string (bs y.1.text)) := by
  obtain ⟨g, e, -, hl, -, -, hc, -⟩ := own_store (fun x => trC_len x) h hy (show 0 < 4 by decide)
  subst e
  have c0 := hc 0 _ rfl
  exact ⟨g, rfl, hl, c0, hc 1 _ rfl, hc 2 _ rfl, hc 3 _ rfl⟩
set_option maxRecDepth 100000 in
set_option maxHeartbeats 4000000 in
theorem single_any {X : Nat → Prop} (t : Tr) (m : Bs) (w : World) (av kv : Value) (ht : NodeX X w t av kv) (hkl : t.kids.length ≤ 100000) :
    Calls Tryd.prog 48 #[nodeV t av kv, .string (bs m)] w (SingleP X (oneK m t) w) := by
  have HK : Hid (∀ W, Below w.heap.size w W → Calls Tryd.prog 49 #[nodeV t av kv, .string (bs m)] W fun e w' => ∃ v L, e = .returned v ∧ L.map (·.1) = kidsF m t.kids ∧ CollX (fun j => X j ∨ w.heap.size ≤ j) W.heap.size W w' v L) := fun W hb => kids_x t m W av kv (nodeX_out ht (Nat.le_refl _) hb) hkl
  obtain ⟨ao, ac, ko, kc, rfl, rfl, -, -⟩ := ht.shape
  clear ht hkl
  unfold nodeV at *
  generalize t.attrs.length = al at *
  generalize t.kids.length = kl at *
  have HKF : Hid (oneK m t = match kidsF m t.kids with | [k] => some k | _ => none) := rfl
  generalize kidsF m t.kids = kf at *
  generalize bs t.name = tn at *
  generalize bs t.text = tt at *
  go_enter Tryd.func48, Tryd.ntmps48
  go_upto_region 1 with fail
  refine wp_world ?_
  intro W hW
  have x1 : Box W w.heap.size [.string tn, .slice ao al ac, .slice ko kl kc, .string tt] := by rw [hW]; exact (Box.new w [.string tn, .slice ao al ac, .slice ko kl kc, .string tt] _ _ rfl).alloc _
  have y1 : Box W (w.heap.size + 1) [.string ⟨#[]⟩, .slice none 0 0, .slice none 0 0, .string ⟨#[]⟩] := by rw [hW]; exact Box.new _ [.string ⟨#[]⟩, .slice none 0 0, .slice none 0 0, .string ⟨#[]⟩] _ _ (by simp)
  have hb : Below w.heap.size w W := by rw [hW]; exact ((Below.refl _ w).alloc (Nat.le_refl _) _).alloc (by simp) _
  clear hW
  have HY := Lib.hid y1
  have HB := Lib.hid hb
  have x0 := x1.cell 0 _ rfl
  have x2 := x1.cell 1 _ rfl
  have x3 := x1.cell 2 _ rfl
  have x4 := x1.cell 3 _ rfl
  have xl := x1.lt
  clear x1 y1 hb
  go_wp2_with fail
  refine (HK.out W HB.out).mono ?_
  rintro e w1 ⟨v, L, rfl, hL, hc⟩
  have HC := Lib.hid hc
  have HL := Lib.hid hL
  obtain ⟨lo, lc, rfl⟩ := hc.own.shape
  have HY1 := Lib.hid (HY.out.below (hc.below) HY.out.lt)
  have HB1 := Lib.hid (HB.out.trans (hc.below.mono HB.out.size))
  have HWB := Lib.hid HB.out.size
  clear hc hL x0 x2 x3 x4 xl HK HY HB
  by_cases hn : L.length = 1
  · obtain ⟨y, rfl⟩ : ∃ y, L = [y] := by
      match L, hn with
      | [y], _ => exact ⟨y, rfl⟩
    have HONE : Hid (oneK m t = some y.1) := by show _ = _; rw [HKF.out, ← HL.out]; rfl
    obtain ⟨b, rfl, hbl, c0, c1, c2, c3⟩ := row_at HC.out.own (k := 0) rfl
    have HN := Lib.hid (HC.out.nodes y (by simp))
    clear hn HL HKF
    obtain ⟨k, kav, kkv⟩ := y
    simp only at c0 c1 c2 c3 HN HONE
    simp only [Nat.zero_mul, Nat.zero_add, List.length_singleton] at c0 c1 c2 c3 ⊢
    obtain ⟨ao2, ac2, ko2, kc2, rfl, rfl, -, -⟩ := HN.out.shape
    go_wp2_with ((with_reducible show wpList _ _ _ (Oper.mk none (Op.store 47 (.tmp 4) (.tmp 16)) _ _ _ _ :: _) _ _); refine wpList_store_box rfl 47 (.tmp 4) (.tmp 16) rfl (w.heap.size + 1) _ [.string (bs k.name), .slice ao2 k.attrs.length ac2, .slice ko2 k.kids.length kc2, .string (bs k.text)] rfl rfl HY1.out rfl (by kernel_rfl) (by simp [Value.oneCell']) ?_; intro W7 v7 hg7; have HV7 := Lib.hid v7; have HB7 := Lib.hid (gr_belowV HB1.out hg7 (by omega) (Nat.le_refl _)); have HN7 := Lib.hid (nodeX_put (N := w.heap.size) (nodeX_in (N := W.heap.size) HN.out) hg7 (fun g e => by cases e; omega)); clear v7 hg7)
    have z0 := HV7.out.cell 0 _ rfl
    have z1 := HV7.out.cell 1 _ rfl
    have z2 := HV7.out.cell 2 _ rfl
    have z3 := HV7.out.cell 3 _ rfl
    have zl := HV7.out.lt
    clear HY1 HB1 HN HC c0 c1 c2 c3 hbl
    go_wp2
    refine bodyPost_ret (v := .tuple #[.agg #[.string (bs k.name), .slice ao2 k.attrs.length ac2, .slice ko2 k.kids.length kc2, .string (bs k.text)], .bool true]) (by simp [results, Tryd.results48, go_sem, z0, z1, z2, z3]) rfl ?_
    rw [HONE.out]
    exact ⟨HB7.out, _, _, rfl, nodeX_in HN7.out⟩
  · have HONE : Hid (oneK m t = none) := by
      show _ = _
      rw [HKF.out, ← HL.out]
      match L, hn with
      | [], _ => rfl
      | [y], h => exact absurd rfl h
      | _ :: _ :: _, _ => rfl
    have e1 : ((L.length : Int) != 1) = true := by rw [bne_iff_ne]; omega
    have e2 : (L.length != 1) = true := by rw [bne_iff_ne]; exact hn
    have e3 : ((L.length : Int) == 1) = false := by rw [beq_eq_false_iff_ne]; omega
    have e4 : (L.length == 1) = false := by rw [beq_eq_false_iff_ne]; exact hn
    clear hn HL HKF HC
    go_wp2_with ((with_reducible show wpList _ _ _ (Oper.mk none (Op.store 47 (.tmp 4) (.tmp 13)) _ _ _ _ :: _) _ _); refine wpList_store_box rfl 47 (.tmp 4) (.tmp 13) rfl (w.heap.size + 1) _ [.string ⟨#[]⟩, .slice none 0 0, .slice none 0 0, .string ⟨#[]⟩] rfl rfl HY1.out rfl (by kernel_rfl) (by simp [Value.oneCell']) ?_; intro W7 v7 hg7; have HV7 := Lib.hid v7; have HB7 := Lib.hid (gr_belowV HB1.out hg7 (by omega) (Nat.le_refl _)); clear v7 hg7)
    have z0 := HV7.out.cell 0 _ rfl
    have z1 := HV7.out.cell 1 _ rfl
    have z2 := HV7.out.cell 2 _ rfl
    have z3 := HV7.out.cell 3 _ rfl
    have zl := HV7.out.lt
    clear HY1 HB1
    go_wp2
    refine bodyPost_ret (v := .tuple #[.agg nodeZ.toArray, .bool false]) (by simp [results, Tryd.results48, go_sem, z0, z1, z2, z3, nodeZ]) rfl ?_
    rw [HONE.out]
    exact ⟨HB7.out, rfl⟩

/-- What id answers. -/
def IdP (o : Option Bs) (w : World) (e : Ending) (w' : World) : Prop := Below w.heap.size w w' ∧ ∃ s : S, e = .returned (.tuple #[.string s, .bool o.isSome]) ∧ ∀ g, o = some g → s = bs g
theorem node_zero (X : Nat → Prop) (w : World) : NodeX X w (.mk [] [] [] []) (.slice none 0 0) (.slice none 0 0) := NodeX.of [] rfl SliceX.nil SliceX.nil (fun _ h => by cases h)
set_option maxRecDepth 100000 in
set_option maxHeartbeats 4000000 in
theorem idM_any {X : Nat → Prop} (t : Tr) (m : Bs) (w : World) (av kv : Value) (ht : NodeX X w t av kv) (hl : LightT t) :
    Calls Tryd.prog 47 #[nodeV t av kv, .string (bs m)] w (IdP (idK m t) w) := by
  have HS1 : Hid (∀ W, Below w.heap.size w W → Calls Tryd.prog 48 #[nodeV t av kv, .string (bs m)] W (SingleP X (oneK m t) W)) := fun W hb => single_any t m W av kv (ht.later hb) (by have := lightT_kidl hl; omega)
  have HLI : Hid (∀ k, oneK m t = some k → LightT k) := fun k hk => oneK_light hl hk
  have HID : Hid (idK m t = match oneK m t with | some k => if isIdB (bs (tx k)) = true ∧ kidsF [] k.kids = [] then some (tx k) else none | none => none) := rfl
  obtain ⟨ao, ac, ko, kc, rfl, rfl, -, -⟩ := ht.shape
  clear ht hl
  generalize idK m t = R at *
  generalize oneK m t = o at *
  unfold nodeV at HS1 ⊢
  generalize t.attrs.length = al at *
  generalize t.kids.length = kl at *
  generalize bs t.name = tn at *
  generalize bs t.text = tt at *
  go_enter Tryd.func47, Tryd.ntmps47
  go_upto_region 1 with fail
  refine wp_world ?_
  intro W hW
  have x1 : Box W w.heap.size [.string tn, .slice ao al ac, .slice ko kl kc, .string tt] := by rw [hW]; exact Box.new w [.string tn, .slice ao al ac, .slice ko kl kc, .string tt] _ _ rfl
  have hb : Below w.heap.size w W := by rw [hW]; exact (Below.refl _ w).alloc (Nat.le_refl _) _
  clear hW
  have HB := Lib.hid hb
  have x0 := x1.cell 0 _ rfl
  have x2 := x1.cell 1 _ rfl
  have x3 := x1.cell 2 _ rfl
  have x4 := x1.cell 3 _ rfl
  have xl := x1.lt
  clear x1 hb
  cases o with
  | none =>
    have HR : Hid (R = none) := HID.out
    clear HID HLI
    go_wp2_with fail
    refine (HS1.out W HB.out).mono ?_
    intro e w1 hp
    obtain ⟨hb1, rfl⟩ := hp.none
    have HB1 := Lib.hid (HB.out.trans (hb1.mono HB.out.size))
    clear hp hb1 x0 x2 x3 x4 xl HS1
    unfold nodeZ
    go_upto_region 2 with fail
    refine wp_world ?_
    intro W2 hW
    have y1 : Box W2 w1.heap.size [.string ⟨#[]⟩, .slice none 0 0, .slice none 0 0, .string ⟨#[]⟩] := by rw [hW]; exact Box.new w1 [.string ⟨#[]⟩, .slice none 0 0, .slice none 0 0, .string ⟨#[]⟩] _ _ rfl
    have hb : Below w1.heap.size w1 W2 := by rw [hW]; exact (Below.refl _ w1).alloc (Nat.le_refl _) _
    clear hW
    have HB2 := Lib.hid (HB1.out.trans (hb.mono HB1.out.size))
    have y0 := y1.cell 0 _ rfl
    have y2 := y1.cell 1 _ rfl
    have y3 := y1.cell 2 _ rfl
    have y4 := y1.cell 3 _ rfl
    have yl := y1.lt
    clear y1 hb
    have HT : Hid (Calls Tryd.prog 50 #[.agg #[.string ⟨#[]⟩, .slice none 0 0, .slice none 0 0, .string ⟨#[]⟩]] W2 fun e w' => e = .returned (.string ⟨#[]⟩) ∧ Below W2.heap.size W2 w') := text_any (.mk [] [] [] []) W2 (.slice none 0 0) (.slice none 0 0) (node_zero (fun _ => False) _).node (by decide)
    go_wp2_with fail
    refine HT.out.mono ?_
    rintro e w3 ⟨rfl, hb3⟩
    have HB3 := Lib.hid (HB2.out.trans (hb3.mono HB2.out.size))
    clear hb3 HT HB2
    go_wp2
    go_ret2
    rw [HR.out]
    exact ⟨HB3.out, _, rfl, fun g h => by cases h⟩
  | some k =>
    have HR : Hid (R = if isIdB (bs (tx k)) = true ∧ kidsF [] k.kids = [] then some (tx k) else none) := HID.out
    have HLK := Lib.hid (HLI.out k rfl)
    clear HID HLI
    go_wp2_with fail
    refine (HS1.out W HB.out).mono ?_
    intro e w1 hp
    obtain ⟨hb1, kav, kkv, rfl, hn⟩ := hp.some
    have HB1 := Lib.hid (HB.out.trans (hb1.mono HB.out.size))
    have HN := Lib.hid hn.node
    clear hp hb1 hn x0 x2 x3 x4 xl HS1
    have HTX : Hid (∀ W, Below w1.heap.size w1 W → Calls Tryd.prog 50 #[nodeV k kav kkv] W fun e w' => e = .returned (.string (bs (tx k))) ∧ Below W.heap.size W w') := fun W hb => text_any k W kav kkv (HN.out.later hb) (by have := HLK.out.textL; omega)
    have HKD : Hid (∀ W, Below w1.heap.size w1 W → Calls Tryd.prog 49 #[nodeV k kav kkv, .string ⟨#[]⟩] W fun e w' => ∃ v L, e = .returned v ∧ L.map (·.1) = kidsF [] k.kids ∧ Coll W.heap.size W w' v L) := fun W hb => kids_any k [] W kav kkv (HN.out.later hb) (by have := lightT_kidl HLK.out; omega)
    have HTL := Lib.hid (tx_len HLK.out)
    obtain ⟨ao2, ac2, ko2, kc2, rfl, rfl, -, -⟩ := HN.out.shape
    unfold nodeV at HTX HKD ⊢
    clear HN HLK
    have HSZ : Hid ((bs (tx k) : S).size ≤ 9223372036854775807) := by have := HTL.out; show _ ≤ _; rw [bs_size]; omega
    generalize kidsF [] k.kids = kf at *
    generalize tx k = tk at *
    generalize k.attrs.length = al2 at *
    generalize k.kids.length = kl2 at *
    generalize bs k.name = tn2 at *
    generalize bs k.text = tt2 at *
    go_upto_region 2 with fail
    refine wp_world ?_
    intro W2 hW
    have y1 : Box W2 w1.heap.size [.string tn2, .slice ao2 al2 ac2, .slice ko2 kl2 kc2, .string tt2] := by rw [hW]; exact Box.new w1 [.string tn2, .slice ao2 al2 ac2, .slice ko2 kl2 kc2, .string tt2] _ _ rfl
    have hb : Below w1.heap.size w1 W2 := by rw [hW]; exact (Below.refl _ w1).alloc (Nat.le_refl _) _
    clear hW
    have HB2 := Lib.hid (HB1.out.trans (hb.mono HB1.out.size))
    have HY := Lib.hid y1
    have HBY := Lib.hid hb
    have y0 := y1.cell 0 _ rfl
    have y2 := y1.cell 1 _ rfl
    have y3 := y1.cell 2 _ rfl
    have y4 := y1.cell 3 _ rfl
    have yl := y1.lt
    clear y1 hb
    go_wp2_with fail
    refine (HTX.out W2 HBY.out).mono ?_
    rintro e w3 ⟨rfl, hb3⟩
    have HB3 := Lib.hid (HB2.out.trans (hb3.mono HB2.out.size))
    have HBY3 := Lib.hid (HBY.out.trans (hb3.mono HBY.out.size))
    have HY3 := Lib.hid (HY.out.below hb3 HY.out.lt)
    clear hb3 HTX HB2 HBY HY y0 y2 y3 y4 yl
    obtain ⟨s, hs⟩ : ∃ s : S, bs tk = s := ⟨_, rfl⟩
    rw [hs] at HR HSZ ⊢
    have HSB := Lib.hid hs
    clear hs
    go_wp2_with fail
    refine (isId_any s w3 HSZ.out).mono ?_
    rintro e w4 ⟨rfl, hb4⟩
    have HB4 := Lib.hid (HB3.out.trans (hb4.mono HB3.out.size))
    have HBY4 := Lib.hid (HBY3.out.trans (hb4.mono HBY3.out.size))
    have HY4 := Lib.hid (HY3.out.below hb4 HY3.out.lt)
    clear hb4 HB3 HBY3 HY3 HSZ
    cases hq : isIdB s with
    | false =>
      have HR2 : Hid (R = none) := by show _ = _; rw [HR.out, if_neg]; rintro ⟨h, -⟩; rw [hq] at h; cases h
      clear HR hq
      go_wp2
      go_ret2
      rw [HR2.out]
      exact ⟨HB4.out, _, rfl, fun g h => by cases h⟩
    | true =>
      have HR2 : Hid (R = if kf = [] then some tk else none) := by show _ = _; rw [HR.out]; simp [hq]
      clear HR hq
      have y0 := HY4.out.cell 0 _ rfl
      have y2 := HY4.out.cell 1 _ rfl
      have y3 := HY4.out.cell 2 _ rfl
      have y4 := HY4.out.cell 3 _ rfl
      have yl := HY4.out.lt
      go_wp2_with fail
      refine (HKD.out w4 HBY4.out).mono ?_
      rintro e w5 ⟨v, L, rfl, hL, hc⟩
      have HB5 := Lib.hid (HB4.out.trans (hc.below.mono HB4.out.size))
      obtain ⟨lo, lc, rfl⟩ := hc.own.shape
      have HL := Lib.hid hL
      clear hL hc HKD y0 y2 y3 y4 yl HB4
      by_cases h0 : L.length = 0
      · have e1 : ((L.length : Int) == 0) = true := by rw [beq_iff_eq]; omega
        have e2 : (L.length == 0) = true := by rw [beq_iff_eq]; exact h0
        have HR3 : Hid (R = some tk) := by show _ = _; rw [HR2.out, if_pos]; rw [← HL.out, List.eq_nil_of_length_eq_zero h0]; rfl
        clear HR2 h0
        go_wp2
        go_ret2
        rw [HR3.out]
        exact ⟨HB5.out, _, rfl, fun g h => by cases h; exact HSB.out.symm⟩
      · have e1 : ((L.length : Int) == 0) = false := by rw [beq_eq_false_iff_ne]; omega
        have e2 : (L.length == 0) = false := by rw [beq_eq_false_iff_ne]; exact h0
        have HR3 : Hid (R = none) := by
          show _ = _; rw [HR2.out, if_neg]; rw [← HL.out]; intro e; apply h0; rw [List.map_eq_nil_iff] at e; rw [e]; rfl
        clear HR2 h0
        go_wp2
        go_ret2
        rw [HR3.out]
        exact ⟨HB5.out, _, rfl, fun g h => by cases h⟩

end Go.Proofs.YtecffghcpknmjaaDoor
