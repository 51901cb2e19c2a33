/- The law's Light on trees, walked; its conditions stand in the theorems. -/
import Derived.Test.YtpchljiiappmnaaG20
import Derived.BigRegion
import Derived.Test.YtpchljiiappmnaaG7
namespace Go.Proofs.Ytpchljiiappmnaa
open Go Go.RowKit

mutual
/-- How many elements and texts a tree has. -/
def Tr.cnt : Tr → Nat
  | .mk _ _ ks _ => 1 + Tr.cntL ks
def Tr.cntL : List Tr → Nat
  | [] => 0
  | t :: l => t.cnt + Tr.cntL l
end
theorem Tr.cnt_eq (t : Tr) : t.cnt = 1 + Tr.cntL t.kids := by cases t; rw [Tr.cnt]; rfl
theorem cntL_append : ∀ (l m : List Tr), Tr.cntL (l ++ m) = Tr.cntL l + Tr.cntL m
  | [], m => by simp [Tr.cntL]
  | t :: l, m => by rw [List.cons_append, Tr.cntL, Tr.cntL, cntL_append l m]; omega
theorem cntL_take (l : List Tr) (k : Nat) (h : k < l.length) : Tr.cntL (l.take (k + 1)) = Tr.cntL (l.take k) + l[k].cnt := by
  rw [List.take_succ_eq_append_getElem h, cntL_append]; simp [Tr.cntL]

/-- A tree of small parts. -/
inductive LightT : Tr → Prop where
  | mk {n : Bs} {ats : List At2} {ks : List Tr} {x : Bs} (hn : n.length ≤ 1000) (hx : x.length ≤ 1000) (hal : ats.length ≤ 20) (ha : ∀ a ∈ ats, a.1.length ≤ 1000 ∧ a.2.length ≤ 1000) (hkl : ks.length ≤ 300) (hk : ∀ k ∈ ks, LightT k) : LightT (.mk n ats ks x)
theorem LightT.of {t : Tr} (hn : t.name.length ≤ 1000) (hx : t.text.length ≤ 1000) (hal : t.attrs.length ≤ 20) (ha : ∀ a ∈ t.attrs, a.1.length ≤ 1000 ∧ a.2.length ≤ 1000) (hkl : t.kids.length ≤ 300) (hk : ∀ k ∈ t.kids, LightT k) : LightT t := by
  cases t; exact .mk hn hx hal ha hkl hk
theorem LightT.name {t : Tr} (h : LightT t) : t.name.length ≤ 1000 := by cases h; assumption
theorem LightT.text {t : Tr} (h : LightT t) : t.text.length ≤ 1000 := by cases h; assumption
theorem LightT.attl {t : Tr} (h : LightT t) : t.attrs.length ≤ 20 := by cases h; assumption
theorem LightT.attrs {t : Tr} (h : LightT t) : ∀ a ∈ t.attrs, a.1.length ≤ 1000 ∧ a.2.length ≤ 1000 := by cases h; assumption
theorem LightT.kidl {t : Tr} (h : LightT t) : t.kids.length ≤ 300 := by cases h; assumption
theorem LightT.kids {t : Tr} (h : LightT t) : ∀ k ∈ t.kids, LightT k := by cases h; assumption

/-- What light returns and leaves. -/
def LightOut (p l : Nat) (t : Tr) (w : World) (e : Ending) (w' : World) : Prop :=
  ∃ (b : Bool) (l' : Int), e = .returned (.bool b) ∧ Box w' p [.int .i64 l'] ∧ w.grownBy w' (some p) ∧ (b = true → LightT t ∧ 0 ≤ l' ∧ (l : Int) = l' + t.cnt)

theorem NodeX.attX {X : Nat → Prop} {w : World} {t : Tr} {av kv : Value} (h : NodeX X w t av kv) : SliceX 2 atC X w av t.attrs := by
  obtain ⟨_, -, h1, -⟩ := h.parts
  exact h1
theorem NodeX.kid2 {X : Nat → Prop} {w : World} {t : Tr} {av kv : Value} (h : NodeX X w t av kv) : ∃ ao cap, kv = .slice ao t.kids.length cap ∧ t.kids.length ≤ maxLen ∧ ∀ k (hk : k < t.kids.length), ∃ g o a b, ao = some ⟨g, o, none⟩ ∧ g < w.heap.size ∧ ¬ X g ∧ w.cell? ⟨g, o + k * 4, none⟩ = some (.string (bs t.kids[k].name)) ∧ w.cell? ⟨g, o + k * 4 + 1, none⟩ = some a ∧ w.cell? ⟨g, o + k * 4 + 2, none⟩ = some b ∧ w.cell? ⟨g, o + k * 4 + 3, none⟩ = some (.string (bs t.kids[k].text)) ∧ NodeX X w t.kids[k] a b ∧ ∃ a1 a2 a3 a4, a = .slice a1 t.kids[k].attrs.length a2 ∧ b = .slice a3 t.kids[k].kids.length a4 := by
  obtain ⟨L, his, -, ho, hn⟩ := h.parts
  obtain ⟨ao, cap, h1, h2, h3, h4, h5⟩ := ho
  have hl : L.length = t.kids.length := by rw [← his]; simp
  refine ⟨ao, cap, by rw [h1, hl], by omega, fun k hk => ?_⟩
  have hkL : k < L.length := by omega
  obtain ⟨g, o, e1, e2, e2', e3⟩ := h5 k L[k] (List.getElem?_eq_getElem hkL)
  have hkid : t.kids[k] = L[k].1 := by
    have : (L.map (·.1))[k]'(by simpa using hkL) = L[k].1 := by simp
    rw [← this]
    congr 1
    exact his.symm
  have hnk := hn _ (List.getElem_mem hkL)
  refine ⟨g, o, L[k].2.1, L[k].2.2, e1, e2, e2', ?_, e3 1 _ rfl, e3 2 _ rfl, ?_, ?_, ?_⟩
  · rw [hkid]; simpa using e3 0 _ rfl
  · rw [hkid]; exact e3 3 _ rfl
  · rw [hkid]; exact hnk
  · rw [hkid]
    obtain ⟨a1, a2, e1⟩ := hnk.att.shape
    obtain ⟨a3, a4, e2, -⟩ := hnk.kid
    exact ⟨a1, a2, a3, a4, e1, e2⟩

set_option maxRecDepth 100000 in
set_option maxHeartbeats 16000000 in
theorem light_any : ∀ (n : Nat) (t : Tr) (w : World) (av kv : Value) (d l p : Nat), SizeOf.sizeOf t ≤ n → NodeX (fun k => k = p) w t av kv → Box w p [.int .i64 l] → l ≤ 300 → d ≤ 20 →
    Calls Try.prog 66 #[nodeV t av kv, .int .i64 d, .pointer (some ⟨p, 0, none⟩)] w (LightOut p l t w)
  | 0, t, w, av, kv, d, l, p, hn, _, _, _, _ => by
    obtain ⟨n, l, k, x⟩ := t
    simp only [Tr.mk.sizeOf_spec] at hn
    omega
  | n + 1, t, w, av, kv, d, l, p, hn, ht, hp, hl, hd => by
    obtain ⟨ao, ac, hav⟩ := ht.att.shape
    obtain ⟨ko, kc, hkv, hka, hks⟩ := ht.kid2
    obtain ⟨ao', ac', hav', -, hac', -, hat⟩ := ht.attX
    rw [hav] at hav'
    simp only [Value.slice.injEq, true_and] at hav'
    obtain ⟨e1, e2⟩ := hav'
    subst e1 e2
    subst hav hkv
    unfold maxLen at hka hac'
    have haL : t.attrs.length ≤ 9223372036854775807 := by have := ht.att; obtain ⟨_, _, e, h1, h2, -⟩ := this; simp only [Value.slice.injEq] at e; unfold maxLen at h2; omega
    have HKS := Lib.hid hks
    have HAT := Lib.hid hat
    have HT := Lib.hid ht
    have HP := Lib.hid hp
    have HI : Hid (∀ k (hk : k < t.kids.length) (W' : World) (v1 v2 : Value) (l' : Nat), NodeX (fun k => k = p) W' t.kids[k] v1 v2 → Box W' p [.int .i64 l'] → l' ≤ 300 → d ≠ 0 → Calls Try.prog 66 #[nodeV t.kids[k] v1 v2, .int .i64 (d - 1 : Nat), .pointer (some ⟨p, 0, none⟩)] W' (LightOut p l' t.kids[k] W')) := fun k hk W' v1 v2 l' h1 h2 h3 h4 => light_any n _ W' v1 v2 (d - 1) l' p (by have := kid_less hk; omega) h1 h2 h3 (by omega)
    have p0 := hp.cell 0 _ rfl
    have pf := hp.free 0
    have pl := hp.lt
    have hpw : p ≠ w.heap.size := by omega
    clear hks hat ht hn hp hac'
    unfold nodeV
    go_enter Try.func66, Try.ntmps66
    go_upto_region 2 with fail
    refine wp_world ?_
    intro W hW
    have hgW : w.grownBy W (some p) := by rw [hW]; exact (setCell_grown _ _ _ _).trans (World.grownBy_alloc _ _ _)
    have x0 : Box W w.heap.size [.string (bs t.name), .slice ao t.attrs.length ac, .slice ko t.kids.length kc, .string (bs t.text)] := by rw [hW]; exact Box.new _ _ _ _ (by simp)
    have hpW : Box W p [.int .i64 ((l : Int) - 1)] := by rw [hW]; exact (HP.out.set 0 _).alloc _
    clear hW
    have HW := Lib.hid hgW
    have HX := Lib.hid x0
    have HPW := Lib.hid hpW
    have p0 := hpW.cell 0 _ rfl
    have a0 := x0.cell 0 _ rfl
    have a1 := x0.cell 1 _ rfl
    have a2 := x0.cell 2 _ rfl
    have a3 := x0.cell 3 _ rfl
    have pl' := hpW.lt
    have al := x0.lt
    have hnz : (bs t.name : S).size = t.name.length := bs_size _
    have htz : (bs t.text : S).size = t.text.length := bs_size _
    by_cases hall : d ≠ 0 ∧ 1 ≤ l ∧ t.kids.length ≤ 300 ∧ t.attrs.length ≤ 20 ∧ (bs t.name : S).size ≤ 1000 ∧ (bs t.text : S).size ≤ 1000
    rotate_left
    · clear hgW x0 hpW pf hnz htz
      have HALL := Lib.hid hall
      clear hall
      go_wp2_with fail
      all_goals first
        | (go_ret; exact ⟨false, _, rfl, HPW.out, HW.out, fun h => absurd h Bool.false_ne_true⟩)
        | (exfalso; exact HALL.out (by refine ⟨?_, ?_, ?_, ?_, ?_, ?_⟩ <;> first | omega | (intro h0; subst h0; simp_all)))
    obtain ⟨hd0, hl1, hk3, ha2, hn1, hx1⟩ := hall
    have hdb : ((d : Int) == 0) = false := beq_eq_false_iff_ne.2 (by omega)
    have hlI : ¬ ((l : Int) - 1 < 0) := by omega
    have hkI : ¬ ((300 : Int) < (t.kids.length : Int)) := by omega
    have haI : ¬ ((20 : Int) < (t.attrs.length : Int)) := by omega
    have hnI : ¬ ((1000 : Int) < ((bs t.name : S).size : Int)) := by omega
    have hxI : ¬ ((1000 : Int) < ((bs t.text : S).size : Int)) := by omega
    clear hgW x0 hpW pf hnz htz
    have HNX : Hid (t.name.length ≤ 1000 ∧ t.text.length ≤ 1000) := by show _ ∧ _; rw [bs_size] at hn1 hx1; exact ⟨hn1, hx1⟩
    have HATX : Hid (∀ i (hi : i < t.attrs.length), ∃ b o, ao = some ⟨b, o, none⟩ ∧ b < w.heap.size ∧ b ≠ p ∧ w.cell? ⟨b, o + i * 2, none⟩ = some (.string (bs t.attrs[i].1)) ∧ w.cell? ⟨b, o + i * 2 + 1, none⟩ = some (.string (bs t.attrs[i].2))) := fun i hi => by
      obtain ⟨b, o, h1, h2, h3, h4⟩ := HAT.out i _ (List.getElem?_eq_getElem hi)
      exact ⟨b, o, h1, h2, h3, h4 0 _ rfl, h4 1 _ rfl⟩
    clear HAT
    go_wp2
    go_loopw [51] (fun i wr => ∃ k : Nat, k ≤ t.attrs.length ∧ i = .int .i64 k ∧ Hid (Below W.heap.size W wr ∧ ∀ q (h1 : q < t.attrs.length), q < k → t.attrs[q].1.length ≤ 1000 ∧ t.attrs[q].2.length ≤ 1000)) (fun i _ => t.attrs.length - (intOf i).toNat)
    case atStart => exact ⟨0, Nat.zero_le _, rfl, Below.refl _ _, fun q _ h => absurd h (Nat.not_lt_zero q)⟩
    case round =>
      obtain ⟨k, hk, rfl, HR⟩ := hrel
      have hbw : w.grownBy wr (some p) := HW.out.trans (grownOf HR.out.1 _)
      have HBW := Lib.hid hbw
      have x0 := HX.out.below HR.out.1 al
      clear hbw a0 a1 a2 a3 p0
      by_cases hlt : k < t.attrs.length
      · obtain ⟨g, o, rfl, hg, hgp, c0, c1⟩ := HATX.out k hlt
        have tr : ∀ {g j u}, g < w.heap.size → g ≠ p → w.cell? ⟨g, j, none⟩ = some u → wr.cell? ⟨g, j, none⟩ = some u := fun hg hp h => (HBW.out.cell_far _ (by exact hg) (by simpa using hp)).trans h
        have c0' := tr hg hgp c0
        have c1' := tr hg hgp c1
        have hgr : g < wr.heap.size := Nat.lt_of_lt_of_le hg HBW.out.size
        have hki : (k : Int) < (t.attrs.length : Int) := by omega
        obtain ⟨N, hN⟩ : ∃ N : S, N = bs t.attrs[k].1 := ⟨_, rfl⟩
        obtain ⟨V, hV⟩ : ∃ V : S, V = bs t.attrs[k].2 := ⟨_, rfl⟩
        rw [← hN] at c0'
        rw [← hV] at c1'
        have hnl : N.size = t.attrs[k].1.length := by rw [hN, bs_size]
        have hvl : V.size = t.attrs[k].2.length := by rw [hV, bs_size]
        have HNL := Lib.hid hnl
        have HVL := Lib.hid hvl
        have hbn : ∀ o, Below W.heap.size W (wr.alloc o) := fun o => HR.out.1.alloc HR.out.1.size o
        have HBN := Lib.hid hbn
        clear tr c0 c1 x0 hN hV hnl hvl hbn
        by_cases hs : N.size ≤ 1000 ∧ V.size ≤ 1000
        · obtain ⟨hs1, hs2⟩ := hs
          have hsI : ¬ ((1000 : Int) < (N.size : Int)) := by omega
          have hsJ : ¬ ((1000 : Int) < (V.size : Int)) := by omega
          go_wp2
          go_roundw
          case rel => exact ⟨k + 1, hlt, by go_num, HBN.out _, fun q h1 h3 => by
            rcases Nat.lt_succ_iff_lt_or_eq.1 h3 with h | rfl
            · exact HR.out.2 q h1 h
            · rw [← HNL.out, ← HVL.out]; exact ⟨hs1, hs2⟩⟩
          case measure => simp [intOf]; omega
        · have HS := Lib.hid hs
          clear hs
          have hpn : ∀ o, Box (wr.alloc o) p [.int .i64 ((l : Int) - 1)] := fun o => (HPW.out.below HR.out.1 HPW.out.lt).alloc o
          have HPN := Lib.hid hpn
          have hgn : ∀ o, w.grownBy (wr.alloc o) (some p) := fun o => HBW.out.trans (World.grownBy_alloc _ _ _)
          have HGN := Lib.hid hgn
          clear hpn hgn
          go_wp2_with fail
          all_goals first
            | (go_ret; exact ⟨false, _, rfl, HPN.out _, HGN.out _, fun h => absurd h Bool.false_ne_true⟩)
            | (exfalso; exact HS.out ⟨by omega, by omega⟩)
      · obtain rfl : k = t.attrs.length := by omega
        have HAA : Hid (∀ a ∈ t.attrs, a.1.length ≤ 1000 ∧ a.2.length ≤ 1000) := fun a ha => by
          obtain ⟨q, hq, rfl⟩ := List.mem_iff_getElem.1 ha
          exact HR.out.2 q hq hq
        have HPR := Lib.hid (HPW.out.below HR.out.1 HPW.out.lt)
        have HXR := Lib.hid x0
        have a2 := x0.cell 2 _ rfl
        have al' := x0.lt
        clear x0 HR HX HPW HW al HATX
        go_wp2
        obtain ⟨wo, hwo⟩ : ∃ wo : World, wo = wr := ⟨_, rfl⟩
        subst hwo
        have hdw : IntKind.i64.wrap ((d : Int) - 1) = ((d - 1 : Nat) : Int) := by rw [IntWalk.i64_in _ (by omega)]; omega
        go_loopw [69] (fun i wr => ∃ (k c : Nat), k ≤ t.kids.length ∧ i = .int .i64 k ∧ Hid (wo.grownBy wr (some p) ∧ Box wr p [.int .i64 c] ∧ l = 1 + c + Tr.cntL (t.kids.take k) ∧ ∀ q (h1 : q < t.kids.length), q < k → LightT t.kids[q])) (fun i _ => t.kids.length - (intOf i).toNat)
        case atStart => exact ⟨0, l - 1, Nat.zero_le _, rfl, World.grownBy.refl _ _, by have := HPR.out; rwa [show ((l : Int) - 1) = ((l - 1 : Nat) : Int) by omega] at this, by simp [Tr.cntL]; omega, fun q _ h => absurd h (Nat.not_lt_zero q)⟩
        case round =>
          obtain ⟨k, c, hk, rfl, HR⟩ := hrel
          have hbw : w.grownBy wr (some p) := HBW.out.trans HR.out.1
          have HBR := Lib.hid hbw
          have hxp : w.heap.size ≠ p := Ne.symm hpw
          have x0 := HXR.out.grownB HR.out.1 hxp
          have pl2 := HR.out.2.1.lt
          clear hbw a2
          by_cases hlt : k < t.kids.length
          · obtain ⟨g, o, v1, v2, rfl, hg, hgp, c0, c1, c2, c3, hn1, r1, r2, r3, r4, rfl, rfl⟩ := HKS.out k hlt
            have tr : ∀ {g j u}, g < w.heap.size → ¬ g = p → w.cell? ⟨g, j, none⟩ = some u → wr.cell? ⟨g, j, none⟩ = some u := fun hg hp h => (HBR.out.cell_far _ (by exact hg) (by simpa using hp)).trans h
            have c0' := tr hg hgp c0
            have c1' := tr hg hgp c1
            have c2' := tr hg hgp c2
            have c3' := tr hg hgp c3
            have hgr : g < wr.heap.size := Nat.lt_of_lt_of_le hg HBR.out.size
            have hn1' : NodeX (fun k => k = p) wr t.kids[k] (.slice r1 t.kids[k].attrs.length r2) (.slice r3 t.kids[k].kids.length r4) := hn1.keep (KeptX.grown HBR.out (fun g e => by cases e; rfl)) (fun _ _ h => h)
            have hki : (k : Int) < (t.kids.length : Int) := by omega
            have hcl : c ≤ 300 := by have := HR.out.2.2.1; omega
            have HC : Hid (∀ o, Calls Try.prog 66 #[nodeV t.kids[k] (.slice r1 t.kids[k].attrs.length r2) (.slice r3 t.kids[k].kids.length r4), .int .i64 (d - 1 : Nat), .pointer (some ⟨p, 0, none⟩)] (wr.alloc o) (LightOut p c t.kids[k] (wr.alloc o))) := fun o => HI.out k hlt (wr.alloc o) _ _ c (hn1'.later ((Below.refl _ _).alloc (Nat.le_refl _) _)) (HR.out.2.1.alloc _) hcl hd0
            unfold nodeV at HC
            clear tr c0 c1 c2 c3 hn1 hn1' x0
            go_wp2_with fail
            refine (HC.out _).mono ?_
            rintro e w4 ⟨b, l', rfl, hb4, hg4, hz4⟩
            have hgn : wo.grownBy w4 (some p) := (HR.out.1.trans (World.grownBy_alloc _ _ _)).trans hg4
            have HGN := Lib.hid hgn
            have HB4 := Lib.hid hb4
            have HZ4 := Lib.hid hz4
            clear hgn hb4 hg4 hz4 HC
            cases b with
            | false =>
              go_wp2
              go_ret
              exact ⟨false, _, rfl, HB4.out, HBW.out.trans HGN.out, fun h => absurd h Bool.false_ne_true⟩
            | true =>
              go_wp2
              go_roundw
              case rel =>
                obtain ⟨z1, z2, z3⟩ := HZ4.out (by trivial)
                exact ⟨k + 1, l'.toNat, hlt, by go_num, HGN.out, by have := HB4.out; rwa [show l' = ((l'.toNat : Nat) : Int) by omega] at this, by rw [cntL_take _ _ hlt]; have := HR.out.2.2.1; omega, fun q h1 h3 => by
                  rcases Nat.lt_succ_iff_lt_or_eq.1 h3 with h | rfl
                  · exact HR.out.2.2.2 q h1 h
                  · exact z1⟩
              case measure => simp [intOf]; omega
          · obtain rfl : k = t.kids.length := by omega
            have HLT : Hid (LightT t) := .of HNX.out.1 HNX.out.2 ha2 HAA.out hk3 (fun y hy => by
              obtain ⟨q, hq, rfl⟩ := List.mem_iff_getElem.1 hy
              exact HR.out.2.2.2 q hq hq)
            have HCN : Hid ((l : Int) = (c : Int) + t.cnt) := by
              show _ = _
              have := HR.out.2.2.1
              rw [List.take_length] at this
              rw [Tr.cnt_eq]; omega
            clear x0
            go_wp2
            go_ret
            exact ⟨true, c, rfl, HR.out.2.1, HBR.out, fun _ => ⟨HLT.out, by omega, HCN.out⟩⟩

end Go.Proofs.Ytpchljiiappmnaa

/- Walks of functions that go through a tree's kids: Light, both Counts, Depth; their conditions stand in the theorems. -/
namespace Go.Proofs.Ytpchljiiappmnaa
open Go Go.RowKit

/-- A kid's cells, its slices written out. -/
theorem NodeX.at {X : Nat → Prop} {w : World} {t : Tr} {av : Value} {ko : Option Addr} {m kc : Nat} (h : NodeX X w t av (.slice ko m kc)) (k : Nat) (hk : k < t.kids.length) : ∃ g o a1 a2 a3 a4, ko = some ⟨g, o, none⟩ ∧ g < w.heap.size ∧ ¬ X g ∧ w.cell? ⟨g, o + k * 4, none⟩ = some (.string (bs t.kids[k].name)) ∧ w.cell? ⟨g, o + k * 4 + 1, none⟩ = some (.slice a1 t.kids[k].attrs.length a2) ∧ w.cell? ⟨g, o + k * 4 + 2, none⟩ = some (.slice a3 t.kids[k].kids.length a4) ∧ w.cell? ⟨g, o + k * 4 + 3, none⟩ = some (.string (bs t.kids[k].text)) ∧ NodeX X w t.kids[k] (.slice a1 t.kids[k].attrs.length a2) (.slice a3 t.kids[k].kids.length a4) := by
  obtain ⟨ao, cap, e, -, h2⟩ := h.kid2
  simp only [Value.slice.injEq] at e
  obtain ⟨rfl, -, -⟩ := e
  obtain ⟨g, o, a, b, h3, h4, h5, h6, h7, h8, h9, h10, a1, a2, a3, a4, rfl, rfl⟩ := h2 k hk
  exact ⟨g, o, a1, a2, a3, a4, h3, h4, h5, h6, h7, h8, h9, h10⟩
theorem NodeX.shape {X : Nat → Prop} {w : World} {t : Tr} {av kv : Value} (h : NodeX X w t av kv) : ∃ ao ac ko kc, av = .slice ao t.attrs.length ac ∧ kv = .slice ko t.kids.length kc ∧ t.attrs.length ≤ 9223372036854775807 ∧ t.kids.length ≤ 9223372036854775807 := by
  obtain ⟨ao, ac, e1, h1, h2, -⟩ := h.att
  obtain ⟨ko, kc, e2, h3, -⟩ := h.kid2
  unfold maxLen at h2 h3
  exact ⟨ao, ac, ko, kc, e1, e2, by omega, by omega⟩
/-- An attribute's cells. -/
theorem NodeX.atA {X : Nat → Prop} {w : World} {t : Tr} {kv : Value} {ao : Option Addr} {m ac : Nat} (h : NodeX X w t (.slice ao m ac) kv) (k : Nat) (hk : k < t.attrs.length) : ∃ g o, ao = some ⟨g, o, none⟩ ∧ g < w.heap.size ∧ ¬ X g ∧ w.cell? ⟨g, o + k * 2, none⟩ = some (.string (bs t.attrs[k].1)) ∧ w.cell? ⟨g, o + k * 2 + 1, none⟩ = some (.string (bs t.attrs[k].2)) := by
  obtain ⟨ao', ac', e, -, -, -, h2⟩ := h.attX
  simp only [Value.slice.injEq] at e
  obtain ⟨rfl, -, -⟩ := e
  obtain ⟨b, o, h3, h4, h5, h6⟩ := h2 k _ (List.getElem?_eq_getElem hk)
  exact ⟨b, o, h3, h4, h5, h6 0 _ rfl, h6 1 _ rfl⟩
theorem bs_inj' {a b : Bs} : (bs a : S) = bs b ↔ a = b := ⟨fun h => by have := congrArg (fun s : S => s.data.toList) h; simpa [bs] using this, fun h => by rw [h]⟩
theorem cntL_mem : ∀ (l : List Tr) (k : Nat) (h : k < l.length), l[k].cnt ≤ Tr.cntL l
  | t :: l, 0, _ => by simp only [Tr.cntL, List.getElem_cons_zero]; omega
  | t :: l, k + 1, h => by have := cntL_mem l k (by simpa using h); simp only [Tr.cntL, List.getElem_cons_succ]; omega
theorem cntL_take_le : ∀ (l : List Tr) (k : Nat), Tr.cntL (l.take k) ≤ Tr.cntL l
  | [], k => by simp
  | t :: l, 0 => by simp [Tr.cntL]
  | t :: l, k + 1 => by have := cntL_take_le l k; simp only [List.take_succ_cons, Tr.cntL]; omega

mutual
/-- How many elements stand within one another. -/
def Tr.dep : Tr → Nat
  | .mk _ _ ks _ => Tr.depL ks + 1
def Tr.depL : List Tr → Nat
  | [] => 0
  | t :: l => max (if t.name = [] then 0 else t.dep) (Tr.depL l)
end
theorem Tr.dep_eq (t : Tr) : t.dep = Tr.depL t.kids + 1 := by cases t; rw [Tr.dep]; rfl
theorem depL_append : ∀ (l m : List Tr), Tr.depL (l ++ m) = max (Tr.depL l) (Tr.depL m)
  | [], m => by simp [Tr.depL]
  | t :: l, m => by rw [List.cons_append, Tr.depL, Tr.depL, depL_append l m, Nat.max_assoc]
theorem depL_take (l : List Tr) (k : Nat) (h : k < l.length) : Tr.depL (l.take (k + 1)) = max (Tr.depL (l.take k)) (if l[k].name = [] then 0 else l[k].dep) := by
  rw [List.take_succ_eq_append_getElem h, depL_append]; simp [Tr.depL]
mutual
theorem dep_le : ∀ t : Tr, t.dep ≤ t.cnt
  | .mk n a ks x => by rw [Tr.dep, Tr.cnt]; have := depL_le ks; omega
theorem depL_le : ∀ l : List Tr, Tr.depL l ≤ Tr.cntL l
  | [] => by simp [Tr.depL]
  | t :: l => by
    rw [Tr.depL, Tr.cntL]
    have h1 := depL_le l
    have h2 := dep_le t
    split <;> omega
end

set_option maxRecDepth 100000 in
set_option maxHeartbeats 4000000 in
theorem lightTop_any (t : Tr) (w : World) (av kv : Value) (h : NodeOf w t av kv) : Calls Try.prog 37 #[nodeV t av kv] w fun e w' => Below w.heap.size w w' ∧ ∃ b : Bool, e = .returned (.bool b) ∧ (b = true → LightT t ∧ t.cnt ≤ 300) := by
  obtain ⟨ao, ac, ko, kc, rfl, rfl, -, -⟩ := h.shape
  have HL : Hid (∀ W, Below w.heap.size w W → Box W (w.heap.size + 1) [.int .i64 300] → Calls Try.prog 66 #[nodeV t (.slice ao t.attrs.length ac) (.slice ko t.kids.length kc), .int .i64 20, .pointer (some ⟨w.heap.size + 1, 0, none⟩)] W (LightOut (w.heap.size + 1) 300 t W)) := fun W hb hx => light_any _ t W _ _ 20 300 _ (Nat.le_refl _) (h.keep (Y := fun k => k = w.heap.size + 1) (KeptX.below hb) (fun k h1 h2 => by omega)) hx (Nat.le_refl _) (Nat.le_refl _)
  clear h
  unfold nodeV at HL ⊢
  go_enter Try.func37, Try.ntmps37
  go_wp2_with fail
  have hb : Below w.heap.size w ((w.alloc (.cells #[.string (bs t.name), .slice ao t.attrs.length ac, .slice ko t.kids.length kc, .string (bs t.text)] 54)).alloc (.cells #[.int .i64 300] 3)) := ((Below.refl _ w).alloc (Nat.le_refl _) _).alloc (by simp) _
  have hx : Box ((w.alloc (.cells #[.string (bs t.name), .slice ao t.attrs.length ac, .slice ko t.kids.length kc, .string (bs t.text)] 54)).alloc (.cells #[.int .i64 300] 3)) (w.heap.size + 1) [.int .i64 300] := Box.new _ _ _ _ (by simp)
  refine (HL.out _ hb hx).mono ?_
  rintro e w4 ⟨b, l', rfl, hb4, hg4, hz4⟩
  have HB := Lib.hid (hb.trans ((below_grown hg4 (Nat.le_of_lt hx.lt)).mono (by omega)))
  have HZ := Lib.hid hz4
  clear hz4 hb hx hb4 hg4 HL
  go_wp2
  go_ret
  refine ⟨HB.out, b, rfl, fun h => ?_⟩
  obtain ⟨h1, h2, h3⟩ := HZ.out h
  exact ⟨h1, by omega⟩

set_option maxRecDepth 100000 in
set_option maxHeartbeats 8000000 in
theorem treeCount_any : ∀ (n : Nat) (t : Tr) (w : World) (av kv : Value), SizeOf.sizeOf t ≤ n → NodeOf w t av kv → t.cnt ≤ 1000000 →
    Calls Try.prog 50 #[nodeV t av kv] w fun e w' => e = .returned (.int .i64 t.cnt) ∧ Below w.heap.size w w'
  | 0, t, w, av, kv, hn, _, _ => by
    obtain ⟨n, l, k, x⟩ := t
    simp only [Tr.mk.sizeOf_spec] at hn
    omega
  | n + 1, t, w, av, kv, hn, ht, hc => by
    obtain ⟨ao, ac, ko, kc, rfl, rfl, -, hkl⟩ := ht.shape
    have HI : Hid (∀ k (hk : k < t.kids.length) (W' : World) (v1 v2 : Value), NodeOf W' t.kids[k] v1 v2 → Calls Try.prog 50 #[nodeV t.kids[k] v1 v2] W' fun e w' => e = .returned (.int .i64 t.kids[k].cnt) ∧ Below W'.heap.size W' w') := fun k hk W' v1 v2 h1 => treeCount_any n _ W' v1 v2 (by have := kid_less hk; omega) h1 (by have := cntL_mem t.kids k hk; rw [Tr.cnt_eq] at hc; omega)
    have HT := Lib.hid ht
    have HC := Lib.hid hc
    clear ht hn hc
    unfold nodeV
    go_enter Try.func50, Try.ntmps50
    go_wp2
    go_loopw [3, 9] (fun a i wr => ∃ (k c : Nat), k ≤ t.kids.length ∧ i = .int .i64 k ∧ a = .int .i64 c ∧ Hid (Below w.heap.size w wr ∧ c = 1 + Tr.cntL (t.kids.take k))) (fun _ i _ => t.kids.length - (intOf i).toNat)
    case atStart => exact ⟨0, 1, Nat.zero_le _, rfl, rfl, (Below.refl _ w).alloc (Nat.le_refl _) _, by simp [Tr.cntL]⟩
    case round =>
      obtain ⟨k, c, hk, rfl, rfl, HR⟩ := hrel
      by_cases hlt : k < t.kids.length
      · obtain ⟨g, o, a1, a2, a3, a4, rfl, hg, -, c0, c1, c2, c3, hn1⟩ := (HT.out.later HR.out.1).at k hlt
        have HN := Lib.hid (fun o => HI.out k hlt (wr.alloc o) _ _ (hn1.later ((Below.refl _ _).alloc (Nat.le_refl _) _)))
        have hki : (k : Int) < (t.kids.length : Int) := by omega
        have htk := cntL_take t.kids k hlt
        have hle := cntL_take_le t.kids (k + 1)
        have hce := Tr.cnt_eq t
        have hsum : c + t.kids[k].cnt ≤ 1000000 := by have := HC.out; have := HR.out.2; omega
        have HTK := Lib.hid htk
        unfold nodeV at HN
        clear htk hle hce hn1
        generalize t.kids[k].cnt = d at *
        go_wp2_with fail
        refine (HN.out _).mono ?_
        rintro e w4 ⟨rfl, hb4⟩
        have HB4 := Lib.hid ((HR.out.1.alloc HR.out.1.size _).trans (hb4.mono (by have := HR.out.1.size; simp; omega)))
        clear hb4 HN
        go_wp2
        go_roundw
        case rel => exact ⟨k + 1, c + d, hlt, by go_num, by go_num, HB4.out, by rw [HTK.out, HR.out.2]; omega⟩
        case measure => simp [intOf]; omega
      · obtain rfl : k = t.kids.length := by omega
        have HRT : Hid (c = t.cnt) := by show _ = _; rw [HR.out.2, List.take_length, Tr.cnt_eq]
        go_wp2
        go_ret
        exact ⟨by rw [HRT.out]; rfl, HR.out.1⟩

set_option maxRecDepth 100000 in
set_option maxHeartbeats 8000000 in
theorem refCount_any : ∀ (n : Nat) (t : Tr) (w : World) (av kv : Value), SizeOf.sizeOf t ≤ n → NodeOf w t av kv → t.cnt ≤ 1000000 →
    Calls Try.prog 41 #[nodeV t av kv] w fun e w' => e = .returned (.int .i64 t.cnt) ∧ Below w.heap.size w w'
  | 0, t, w, av, kv, hn, _, _ => by
    obtain ⟨n, l, k, x⟩ := t
    simp only [Tr.mk.sizeOf_spec] at hn
    omega
  | n + 1, t, w, av, kv, hn, ht, hc => by
    obtain ⟨ao, ac, ko, kc, rfl, rfl, -, hkl⟩ := ht.shape
    have HI : Hid (∀ k (hk : k < t.kids.length) (W' : World) (v1 v2 : Value), NodeOf W' t.kids[k] v1 v2 → Calls Try.prog 41 #[nodeV t.kids[k] v1 v2] W' fun e w' => e = .returned (.int .i64 t.kids[k].cnt) ∧ Below W'.heap.size W' w') := fun k hk W' v1 v2 h1 => refCount_any n _ W' v1 v2 (by have := kid_less hk; omega) h1 (by have := cntL_mem t.kids k hk; rw [Tr.cnt_eq] at hc; omega)
    have HT := Lib.hid ht
    have HC := Lib.hid hc
    clear ht hn hc
    unfold nodeV
    go_enter Try.func41, Try.ntmps41
    go_wp2
    go_loopw [3, 9] (fun a i wr => ∃ (k c : Nat), k ≤ t.kids.length ∧ i = .int .i64 k ∧ a = .int .i64 c ∧ Hid (Below w.heap.size w wr ∧ c = 1 + Tr.cntL (t.kids.take k))) (fun _ i _ => t.kids.length - (intOf i).toNat)
    case atStart => exact ⟨0, 1, Nat.zero_le _, rfl, rfl, (Below.refl _ w).alloc (Nat.le_refl _) _, by simp [Tr.cntL]⟩
    case round =>
      obtain ⟨k, c, hk, rfl, rfl, HR⟩ := hrel
      by_cases hlt : k < t.kids.length
      · obtain ⟨g, o, a1, a2, a3, a4, rfl, hg, -, c0, c1, c2, c3, hn1⟩ := (HT.out.later HR.out.1).at k hlt
        have HN := Lib.hid (fun o => HI.out k hlt (wr.alloc o) _ _ (hn1.later ((Below.refl _ _).alloc (Nat.le_refl _) _)))
        have hki : (k : Int) < (t.kids.length : Int) := by omega
        have htk := cntL_take t.kids k hlt
        have hle := cntL_take_le t.kids (k + 1)
        have hce := Tr.cnt_eq t
        have hsum : c + t.kids[k].cnt ≤ 1000000 := by have := HC.out; have := HR.out.2; omega
        have HTK := Lib.hid htk
        unfold nodeV at HN
        clear htk hle hce hn1
        generalize t.kids[k].cnt = d at *
        go_wp2_with fail
        refine (HN.out _).mono ?_
        rintro e w4 ⟨rfl, hb4⟩
        have HB4 := Lib.hid ((HR.out.1.alloc HR.out.1.size _).trans (hb4.mono (by have := HR.out.1.size; simp; omega)))
        clear hb4 HN
        go_wp2
        go_roundw
        case rel => exact ⟨k + 1, c + d, hlt, by go_num, by go_num, HB4.out, by rw [HTK.out, HR.out.2]; omega⟩
        case measure => simp [intOf]; omega
      · obtain rfl : k = t.kids.length := by omega
        have HRT : Hid (c = t.cnt) := by show _ = _; rw [HR.out.2, List.take_length, Tr.cnt_eq]
        go_wp2
        go_ret
        exact ⟨by rw [HRT.out]; rfl, HR.out.1⟩

set_option maxRecDepth 100000 in
set_option maxHeartbeats 8000000 in
theorem refDepth_any : ∀ (n : Nat) (t : Tr) (w : World) (av kv : Value), SizeOf.sizeOf t ≤ n → NodeOf w t av kv → t.cnt ≤ 1000000 →
    Calls Try.prog 40 #[nodeV t av kv] w fun e w' => e = .returned (.int .i64 t.dep) ∧ Below w.heap.size w w'
  | 0, t, w, av, kv, hn, _, _ => by
    obtain ⟨n, l, k, x⟩ := t
    simp only [Tr.mk.sizeOf_spec] at hn
    omega
  | n + 1, t, w, av, kv, hn, ht, hc => by
    obtain ⟨ao, ac, ko, kc, rfl, rfl, -, hkl⟩ := ht.shape
    have HI : Hid (∀ k (hk : k < t.kids.length) (W' : World) (v1 v2 : Value), NodeOf W' t.kids[k] v1 v2 → Calls Try.prog 40 #[nodeV t.kids[k] v1 v2] W' fun e w' => e = .returned (.int .i64 t.kids[k].dep) ∧ Below W'.heap.size W' w') := fun k hk W' v1 v2 h1 => refDepth_any n _ W' v1 v2 (by have := kid_less hk; omega) h1 (by have := cntL_mem t.kids k hk; rw [Tr.cnt_eq] at hc; omega)
    have HT := Lib.hid ht
    have HC := Lib.hid hc
    clear ht hn hc
    unfold nodeV
    go_enter Try.func40, Try.ntmps40
    go_wp2
    go_loopw [3, 9] (fun a i wr => ∃ (k c : Nat), k ≤ t.kids.length ∧ i = .int .i64 k ∧ a = .int .i64 c ∧ c ≤ 1000000 ∧ Hid (Below w.heap.size w wr ∧ c = Tr.depL (t.kids.take k))) (fun _ i _ => t.kids.length - (intOf i).toNat)
    case atStart => exact ⟨0, 0, Nat.zero_le _, rfl, rfl, by omega, (Below.refl _ w).alloc (Nat.le_refl _) _, by simp [Tr.depL]⟩
    case round =>
      obtain ⟨k, c, hk, rfl, rfl, hc1, HR⟩ := hrel
      by_cases hlt : k < t.kids.length
      · obtain ⟨g, o, a1, a2, a3, a4, rfl, hg, -, c0, c1, c2, c3, hn1⟩ := (HT.out.later HR.out.1).at k hlt
        have HN := Lib.hid (fun o => HI.out k hlt (wr.alloc o) _ _ (hn1.later ((Below.refl _ _).alloc (Nat.le_refl _) _)))
        have hki : (k : Int) < (t.kids.length : Int) := by omega
        have htk := depL_take t.kids k hlt
        have HTK := Lib.hid htk
        unfold nodeV at HN
        clear htk hn1
        have hd1 : t.kids[k].dep ≤ 1000000 := by
          have := HC.out
          have h1 := cntL_mem t.kids k hlt
          have h2 := dep_le t.kids[k]
          rw [Tr.cnt_eq] at this
          omega
        by_cases hne : t.kids[k].name = []
        · have he : (bs t.kids[k].name : S).toList.isEmpty = true := by rw [empty_data, bs_size, hne]; rfl
          have he2 : (!(bs t.kids[k].name : S).toList.isEmpty) = false := by rw [he]; rfl
          rw [if_pos hne] at HTK
          have HB4 := Lib.hid (fun o => HR.out.1.alloc HR.out.1.size o)
          clear hne
          go_wp2
          go_roundw
          case rel => exact ⟨k + 1, c, hlt, by go_num, rfl, hc1, HB4.out _, by rw [HTK.out, HR.out.2]; omega⟩
          case measure => simp [intOf]; omega
        · have he : (bs t.kids[k].name : S).toList.isEmpty = false := by rw [empty_data, bs_size]; simpa using hne
          have he2 : (!(bs t.kids[k].name : S).toList.isEmpty) = true := by rw [he]; rfl
          rw [if_neg hne] at HTK
          clear hne
          generalize t.kids[k].dep = d at *
          go_wp2_with fail
          refine (HN.out _).mono ?_
          rintro e w4 ⟨rfl, hb4⟩
          have HB4 := Lib.hid ((HR.out.1.alloc HR.out.1.size _).trans (hb4.mono (by have := HR.out.1.size; simp; omega)))
          clear hb4 HN
          by_cases hcd : c < d
          · have hcdI : (c : Int) < (d : Int) := by omega
            go_wp2
            go_roundw
            case rel => exact ⟨k + 1, d, hlt, by go_num, by go_num, hd1, HB4.out, by rw [HTK.out, ← HR.out.2]; omega⟩
            case measure => simp [intOf]; omega
          · have hcdI : ¬ (c : Int) < (d : Int) := by omega
            go_wp2
            go_roundw
            case rel => exact ⟨k + 1, c, hlt, by go_num, by go_num, hc1, HB4.out, by rw [HTK.out, ← HR.out.2]; omega⟩
            case measure => simp [intOf]; omega
      · obtain rfl : k = t.kids.length := by omega
        have HRT : Hid (c + 1 = t.dep) := by show _ = _; rw [HR.out.2, List.take_length, Tr.dep_eq]
        go_wp2
        go_ret
        exact ⟨by rw [← HRT.out]; first | go_num | rfl | (show Ending.returned _ = Ending.returned _; congr 2), HR.out.1⟩

end Go.Proofs.Ytpchljiiappmnaa

/- The document's element where there is too much; the conditions stand in the theorem. -/
namespace Go.Proofs.Ytpchljiiappmnaa
open Go Go.RowKit
variable {lo : Nat}

/-- What element returns and leaves. -/
def ElemOut (lo B : Nat) (lv : Value) (s : S) (st : BSt) (i : Nat) (acc : List (Tk × Bs)) (w : World) (e : Ending) (w' : World) : Prop :=
  ∃ t av kv, e = .returned (nodeV t av kv) ∧ NodeX (fun k => (B ≤ k ∨ k < lo) ∧ k < w.heap.size) w' t av kv ∧ w.grownBy w' (some B) ∧
   ((∃ (x : Int) (r : Bs) (i' c' : Nat), x ≠ 0 ∧ i < i' ∧ i' ≤ acc.length ∧ c' ≤ i' ∧ runB st (acc.drop i) = .bad x r ∧ RB w' B lv i' c' x (pos s r : Nat)) ∨
    (∃ (f : Fr) (i' c' : Nat) (o : Int), t = f.tree ∧ i < i' ∧ i' ≤ acc.length ∧ c' ≤ i' ∧ RB w' B lv i' c' 0 o ∧ runB st (acc.drop i) = runB (closeB f st.stack none c') (acc.drop i')))

/-- The result is stored. -/
def resN (W : World) (N : Nat) (a b c d : Value) : World := (((W.setCell ⟨N, 0, none⟩ a).setCell ⟨N, 1, none⟩ b).setCell ⟨N, 2, none⟩ c).setCell ⟨N, 3, none⟩ d
theorem elem_end {w W : World} {B : Nat} {t : Tr} {av kv u0 u1 u2 u3 lv : Value} {i c bad off : Int} (hB : B < w.heap.size) (hn : NodeX (fun k => (B ≤ k ∨ k < lo) ∧ k < w.heap.size + 1) W t av kv) (h0 : Box W w.heap.size [u0, u1, u2, u3]) (hg : w.grownBy W (some B)) (hR : RB W B lv i c bad off) (a b c' d : Value) :
    Box (resN W w.heap.size a b c' d) w.heap.size [a, b, c', d] ∧ NodeX (fun k => (B ≤ k ∨ k < lo) ∧ k < w.heap.size) (resN W w.heap.size a b c' d) t av kv ∧ w.grownBy (resN W w.heap.size a b c' d) (some B) ∧ RB (resN W w.heap.size a b c' d) B lv i c bad off := by
  have hX : (B ≤ w.heap.size ∨ w.heap.size < lo) ∧ w.heap.size < w.heap.size + 1 := ⟨.inl (Nat.le_of_lt hB), Nat.lt_succ_self _⟩
  refine ⟨(((h0.set 0 a).set 1 b).set 2 c').set 3 d, hn.keep ((((keptX_set _ _ 0 _ hX).trans (keptX_set _ _ 1 _ hX)).trans (keptX_set _ _ 2 _ hX)).trans (keptX_set _ _ 3 _ hX)) (fun k _ h => ⟨h.1, by omega⟩),
    grown_set (grown_set (grown_set (grown_set hg (Nat.le_refl _) 0 a) (Nat.le_refl _) 1 b) (Nat.le_refl _) 2 c') (Nat.le_refl _) 3 d, (((hR.grownB (setCell_grown _ _ _ _) (by omega)).grownB (setCell_grown _ _ _ _) (by omega)).grownB (setCell_grown _ _ _ _) (by omega)).grownB (setCell_grown _ _ _ _) (by omega)⟩
theorem attB_node {w W : World} {B : Nat} {av : Value} {n x : Bs} {l : List At2} (h : AttB lo B w av l) (hB : B ≤ w.heap.size) (hg : w.grownBy W (some B)) {X : Nat → Prop} (hX : ∀ k, X k → B ≤ k ∨ k < lo) : NodeX X W (.mk n l [] x) av (.slice none 0 0) :=
  .mk [] (h.x (below_grown hg hB) hX) rfl SliceX.nil (by simp)

theorem stepB_big {st : BSt} {t : Tk} (hk : t.kind = 1 ∨ t.kind = 2) (hr : st.root = none) (hb : 64 ≤ st.stack.length ∨ 4096 < st.count + 1) : stepB st t = .bad 2 := by
  have h1 : beginB st t = .bad 2 := by
    unfold beginB
    rw [hr, if_neg (by simp)]
    rcases hb with h | h
    · rw [if_pos h]
    · by_cases h2 : 64 ≤ st.stack.length
      · rw [if_pos h2]
      · rw [if_neg h2, if_pos h]
  unfold stepB
  rcases hk with e | e
  · rw [e, if_neg (by decide), if_pos rfl, h1]
  · rw [e, if_neg (by decide), if_neg (by decide), if_pos rfl, h1]
    rfl

set_option maxRecDepth 100000 in
set_option maxHeartbeats 16000000 in
theorem element_big (B : Nat) (s : S) (ao : Option Addr) (cap : Nat) (acc : List (Tk × Bs)) (w : World) (st : BSt) (i : Nat) (o : Int) (hRB : RB w B (.slice ao acc.length cap) i st.count 0 o) (hT : TokAt lo B w s (.slice ao acc.length cap) acc) (hi : i < acc.length) (hk : acc[i].1.kind = 1 ∨ acc[i].1.kind = 2)
    (hr : st.root = none) (hc : st.count ≤ i) (hlen : acc.length ≤ 100000) (hbig : 64 ≤ st.stack.length ∨ 4096 < st.count + 1) :
    Calls Try.prog 64 #[.pointer (some ⟨B, 0, none⟩), .int .i64 st.stack.length, .int .i64 s.size] w (ElemOut lo B (.slice ao acc.length cap) s st i acc w) := by
  have hstep : runB st (acc.drop i) = .bad 2 acc[i].2 := by
    rw [List.drop_eq_getElem_cons hi]
    simp only [runB, stepB_big hk hr hbig]
  have HST := Lib.hid hstep
  obtain ⟨g, oo, cap', av, e, hg, c0, c1, c2, c3, c4, c5, c6, ha⟩ := hT.2 i acc[i].1 acc[i].2 (List.getElem?_eq_getElem hi)
  simp only [Value.slice.injEq, true_and] at e
  obtain ⟨rfl, rfl⟩ := e
  clear hstep hT
  obtain ⟨ta, tc, hav⟩ := ha.shape
  subst hav
  have HAT := Lib.hid ha
  have hii : (i : Int) < (acc.length : Int) := by omega
  clear ha
  generalize acc[i].2 = r at *
  generalize hP : pos s r = P at *
  generalize (lineCol (s.data.toList.take P)).1 = li at *
  generalize (lineCol (s.data.toList.take P)).2 = co at *
  generalize acc[i].1 = t at *
  have HP := Lib.hid hP
  clear hP
  have hBl := hRB.lt
  have HRB := Lib.hid hRB
  go_enter Try.func64, Try.ntmps64
  go_wp2
  refine wp_world ?_
  intro W hW
  have hb : Below w.heap.size w W := by rw [hW]; exact (Below.refl _ w).alloc (Nat.le_refl _) _
  have x0 : Box W w.heap.size [.string ⟨#[]⟩, .slice none 0 0, .slice none 0 0, .string ⟨#[]⟩] := by rw [hW]; exact Box.new w _ _ _ rfl
  have hsz : W.heap.size = w.heap.size + 1 := by rw [hW]; simp
  clear hW
  have hR1 := hRB.below hb hBl
  have cc : ∀ j, W.cell? ⟨g, j, none⟩ = w.cell? ⟨g, j, none⟩ := fun j => hb.cell (p := ⟨g, j, none⟩) (by show g < w.heap.size; omega)
  rw [← cc] at c0 c1 c2 c3 c4 c5 c6
  have r0 := hR1.cell 0 _ rfl
  have r1 := hR1.cell 1 _ rfl
  have rl := hR1.lt
  have hgl : g < W.heap.size := by omega
  have HSZ := Lib.hid hsz
  have HB := Lib.hid hb
  have HX0 := Lib.hid x0
  have HR1 := Lib.hid hR1
  clear hb x0 hR1 hRB cc hsz
  go_region
  go_upto_region 2 with fail
  refine wp_world ?_
  intro W2 hW2
  have hb2 : Below W.heap.size W W2 := by rw [hW2]; exact belowN ((Below.refl _ W).alloc (Nat.le_refl _) _) 1
  have x1 : Box W2 W.heap.size [.int .i64 t.kind, .string (bs t.name), .slice ta t.attrs.length tc, .string (bs t.text), .int .i64 P, .int .i64 li, .int .i64 co] := by rw [hW2]; exact (Box.new W _ _ _ rfl).drew
  clear hW2
  have hR2 := HR1.out.below hb2 rl
  have x0 := HX0.out.below hb2 HX0.out.lt
  have hBw : Below w.heap.size w W2 := HB.out.trans (hb2.mono HB.out.size)
  have r2 := hR2.cell 2 _ rfl
  have r1' := hR2.cell 1 _ rfl
  have r3 := hR2.cell 3 _ rfl
  have rf2 := hR2.free 2
  have rl2 := hR2.lt
  have t0 := x1.cell 0 _ rfl
  have t1 := x1.cell 1 _ rfl
  have t2 := x1.cell 2 _ rfl
  have t4 := x1.cell 4 _ rfl
  have tl := x1.lt
  have hWB : B ≠ W.heap.size := by omega
  have HR2 := Lib.hid hR2
  have HX0' := Lib.hid x0
  have HX1 := Lib.hid x1
  have HBW := Lib.hid hBw
  have hcc : IntKind.i64.wrap ((st.count : Int) + 1) = (st.count : Int) + 1 := IntWalk.i64_in _ (by omega)
  have hci : IntKind.i64.wrap ((i : Int) + 1) = (i : Int) + 1 := IntWalk.i64_in _ (by omega)
  have HSZ2 := Lib.hid hb2.size
  have HREF := Lib.hid (fun (W3 : World) (h : RB W3 B (.slice (some ⟨g, oo, none⟩) acc.length cap) i ((st.count : Int) + 1) 0 o) => refFail_any W3 B _ _ _ _ 2 P h)
  have hRB2 : RB (W2.setCell ⟨B, 2, none⟩ (.int .i64 ((st.count : Int) + 1))) B (.slice (some ⟨g, oo, none⟩) acc.length cap) i ((st.count : Int) + 1) 0 o := hR2.set 2 _
  have HRB2 := Lib.hid hRB2
  clear hb2 x1 hR2 x0 hBw c0 c1 c2 c3 c4 c5 c6 r0 r1 hRB2
  generalize W.heap.size = b1 at *
  have HGW : Hid (w.grownBy W2 (some B)) := grownOf HBW.out _
  by_cases hd : 64 ≤ st.stack.length
  rotate_left
  have hcI : (4096 : Int) < (st.count : Int) + 1 := by omega
  have hdI : ¬ (64 : Int) ≤ (st.stack.length : Int) := by omega
  rotate_left
  have hdI : (64 : Int) ≤ (st.stack.length : Int) := by omega
  all_goals
    go_wp2_with fail
    refine (HREF.out _ HRB2.out).mono ?_
    rintro e W4 ⟨rfl, hR4, hg4⟩
    have hgW : W2.grownBy W4 (some B) := (setCell_grown W2 B 2 _).trans hg4
    have x0 := HX0'.out.grownB hgW (by omega)
    have x1 := HX1.out.grownB hgW (by omega)
    have hG4 : w.grownBy W4 (some B) := HGW.out.trans hgW
    clear r1' r2 r3 rf2 t0 t1 t2 t4 tl hgW hg4
    have r1' := hR4.cell 1 _ rfl
    have rf1 := hR4.free 1
    have rl4 := hR4.lt
    have t1 := x1.cell 1 _ rfl
    have t2 := x1.cell 2 _ rfl
    have tl := x1.lt
    have HX0 := Lib.hid x0
    have HX1' := Lib.hid x1
    have HR4 := Lib.hid hR4
    have HG4 := Lib.hid hG4
    clear x0 x1 hR4 hG4
    go_wp2
    refine wp_world ?_
    intro W5 hW5
    have hR5 : RB W5 B (.slice (some ⟨g, oo, none⟩) acc.length cap) ((i : Int) + 1) ((st.count : Int) + 1) 2 P := by rw [hW5]; exact (HR4.out.set 1 _).alloc _
    have x0 : Box W5 w.heap.size [.string ⟨#[]⟩, .slice none 0 0, .slice none 0 0, .string ⟨#[]⟩] := by rw [hW5]; exact (HX0.out.grownB (setCell_grown _ B 1 _) (by omega)).alloc _
    have x1 : Box W5 b1 [.int .i64 t.kind, .string (bs t.name), .slice ta t.attrs.length tc, .string (bs t.text), .int .i64 P, .int .i64 li, .int .i64 co] := by rw [hW5]; exact (HX1'.out.grownB (setCell_grown _ B 1 _) (by omega)).alloc _
    have x2 : Box W5 W4.heap.size [.string (bs t.name), .slice ta t.attrs.length tc, .slice none 0 0, .string ⟨#[]⟩] := by rw [hW5]; exact Box.new _ _ _ _ (by simp)
    have hG5 : w.grownBy W5 (some B) := by rw [hW5]; exact (HG4.out.trans (setCell_grown _ _ _ _)).trans (World.grownBy_alloc _ _ _)
    have hne : w.heap.size ≠ W4.heap.size := by have := HX0.out.lt; omega
    clear hW5 HX0 HX1' HR4 HG4 r1' rf1 t1 t2
    have r3 := hR5.cell 3 _ rfl
    have rl5 := hR5.lt
    have t0 := x1.cell 0 _ rfl
    have tl5 := x1.lt
    have y0 := x0.cell 0 _ rfl
    have y1 := x0.cell 1 _ rfl
    have y2 := x0.cell 2 _ rfl
    have y3 := x0.cell 3 _ rfl
    have yf0 := x0.free 0
    have yf1 := x0.free 1
    have yf2 := x0.free 2
    have yf3 := x0.free 3
    have yl := x0.lt
    have z0 := x2.cell 0 _ rfl
    have z1 := x2.cell 1 _ rfl
    have z2 := x2.cell 2 _ rfl
    have z3 := x2.cell 3 _ rfl
    have zl := x2.lt
    have HR5 := Lib.hid hR5
    have HX0 := Lib.hid x0
    have HG5 := Lib.hid hG5
    clear hR5 x0 x1 x2 hG5
    generalize W4.heap.size = b2 at *
    go_loopw [9, 10] (fun _ _ wr => wr = W5) (fun _ _ _ => 0)
    case atStart => rfl
    case round =>
      obtain rfl : wr = W5 := hrel
      have hkk : (t.kind == 1) = true ∨ (t.kind == 1) = false := by cases (t.kind == 1) <;> simp
      rcases hkk with hkk | hkk
      all_goals
        go_wp2
        have hnd : NodeX (fun k => (B ≤ k ∨ k < lo) ∧ k < w.heap.size + 1) wr (.mk t.name t.attrs [] []) (.slice ta t.attrs.length tc) (.slice none 0 0) := attB_node HAT.out (Nat.le_of_lt hBl) HG5.out (fun _ h => h.1)
        obtain ⟨e0, e1, e2, e3⟩ := elem_end hBl hnd HX0.out HG5.out HR5.out (.string (bs t.name)) (.slice ta t.attrs.length tc) (.slice none 0 0) (.string ⟨#[]⟩)
        unfold resN at e0 e1 e2 e3
        clear y0 y1 y2 y3 yf0 yf1 yf2 yf3 z0 z1 z2 z3 hnd
        generalize (((wr.setCell ⟨w.heap.size, 0, none⟩ (.string (bs t.name))).setCell ⟨w.heap.size, 1, none⟩ (.slice ta t.attrs.length tc)).setCell ⟨w.heap.size, 2, none⟩ (.slice none 0 0)).setCell ⟨w.heap.size, 3, none⟩ (.string ⟨#[]⟩) = W6 at *
        have d0 := e0.cell 0 _ rfl
        have d1 := e0.cell 1 _ rfl
        have d2 := e0.cell 2 _ rfl
        have d3 := e0.cell 3 _ rfl
        refine bodyPost_ret (v := .agg #[.string (bs t.name), .slice ta t.attrs.length tc, .slice none 0 0, .string ⟨#[]⟩]) (by simp [results, Try.results64, go_sem, d0, d1, d2, d3]) rfl ?_
        exact ⟨.mk t.name t.attrs [] [], _, _, rfl, e1, e2, .inl ⟨2, r, i + 1, st.count + 1, by decide, by omega, by omega, by omega, HST.out, by rw [HP.out]; simpa using e3⟩⟩

end Go.Proofs.Ytpchljiiappmnaa

/- Walks of the tree's Attr, Kids and Text; their conditions stand in the theorems. -/
namespace Go.Proofs.Ytpchljiiappmnaa
open Go Go.RowKit

/-- The first attribute of a name. -/
def attrF (m : Bs) : List At2 → Option Bs
  | [] => none
  | a :: l => if a.1 = m then some a.2 else attrF m l
/-- Is this a kid that is asked for? -/
def isKid (m : Bs) (t : Tr) : Bool := !t.name.isEmpty && (m.isEmpty || decide (t.name = m))
def kidsF (m : Bs) (l : List Tr) : List Tr := l.filter (isKid m)
/-- The texts' letters. -/
def textF : List Tr → Bs
  | [] => []
  | t :: l => (if t.name.isEmpty then t.text else []) ++ textF l
theorem attrF_drop {m : Bs} {l : List At2} {k : Nat} (h : k < l.length) : attrF m (l.drop k) = if l[k].1 = m then some l[k].2 else attrF m (l.drop (k + 1)) := by
  rw [List.drop_eq_getElem_cons h]; rfl
theorem kidsF_take {m : Bs} {l : List Tr} {k : Nat} (h : k < l.length) : kidsF m (l.take (k + 1)) = kidsF m (l.take k) ++ if isKid m l[k] then [l[k]] else [] := by
  unfold kidsF
  rw [List.take_succ_eq_append_getElem h, List.filter_append]
  congr 1
  by_cases hk : isKid m l[k] = true
  · simp [hk]
  · simp [hk]
theorem textF_append : ∀ (l r : List Tr), textF (l ++ r) = textF l ++ textF r
  | [], r => by simp [textF]
  | t :: l, r => by rw [List.cons_append, textF, textF, textF_append l r, List.append_assoc]
theorem textF_take {l : List Tr} {k : Nat} (h : k < l.length) : textF (l.take (k + 1)) = textF (l.take k) ++ if l[k].name.isEmpty then l[k].text else [] := by
  rw [List.take_succ_eq_append_getElem h, textF_append]; simp [textF]
theorem textF_take_le : ∀ (l : List Tr) (k : Nat), (textF (l.take k)).length ≤ (textF l).length
  | [], k => by simp
  | t :: l, 0 => by simp [textF]
  | t :: l, k + 1 => by have := textF_take_le l k; simp only [List.take_succ_cons, textF, List.length_append]; omega

set_option maxRecDepth 100000 in
set_option maxHeartbeats 8000000 in
theorem attr_any (t : Tr) (m : Bs) (w : World) (av kv : Value) (ht : NodeOf w t av kv) :
    Calls Try.prog 42 #[nodeV t av kv, .string (bs m)] w fun e w' => e = .returned (.tuple #[.string (bs ((attrF m t.attrs).getD [])), .bool (attrF m t.attrs).isSome]) ∧ Below w.heap.size w w' := by
  obtain ⟨ao, ac, ko, kc, rfl, rfl, hal, -⟩ := ht.shape
  have HT := Lib.hid ht
  clear ht
  unfold nodeV
  go_enter Try.func42, Try.ntmps42
  go_wp2
  go_loopw [11] (fun i wr => ∃ k : Nat, k ≤ t.attrs.length ∧ i = .int .i64 k ∧ Hid (Below w.heap.size w wr ∧ attrF m t.attrs = attrF m (t.attrs.drop k))) (fun i _ => t.attrs.length - (intOf i).toNat)
  case atStart => exact ⟨0, Nat.zero_le _, rfl, (Below.refl _ w).alloc (Nat.le_refl _) _, rfl⟩
  case round =>
    obtain ⟨k, hk, rfl, HR⟩ := hrel
    by_cases hlt : k < t.attrs.length
    · obtain ⟨g, o, rfl, hg, -, c0, c1⟩ := (HT.out.later HR.out.1).atA k hlt
      have hki : (k : Int) < (t.attrs.length : Int) := by omega
      have HD := Lib.hid (attrF_drop (m := m) hlt)
      have HB := Lib.hid (fun o => HR.out.1.alloc HR.out.1.size o)
      have hE := bs_beq2 t.attrs[k].1 m
      by_cases he : t.attrs[k].1 = m
      · rw [decide_eq_true he] at hE
        rw [if_pos he] at HD
        have HF : Hid (attrF m t.attrs = some t.attrs[k].2) := HR.out.2.trans HD.out
        clear he HD
        generalize t.attrs[k].2 = v at *
        go_wp2
        go_ret2
        exact ⟨by rw [HF.out]; rfl, HB.out _⟩
      · rw [decide_eq_false he] at hE
        rw [if_neg he] at HD
        clear he
        go_wp2
        go_roundw
        case rel => exact ⟨k + 1, hlt, by go_num, HB.out _, HR.out.2.trans HD.out⟩
        case measure => simp [intOf]; omega
    · obtain rfl : k = t.attrs.length := by omega
      have HF : Hid (attrF m t.attrs = none) := by show _ = _; rw [HR.out.2, List.drop_length]; rfl
      go_wp2
      go_ret2
      exact ⟨by rw [HF.out]; rfl, HR.out.1⟩

/-- A list of nodes that a call has collected. -/
structure Coll (B : Nat) (w wr : World) (v : Value) (L : List TrV) : Prop where
  below : Below B w wr
  own : Owns B 54 4 trC wr v L
  nodes : ∀ y ∈ L, NodeX (fun j => B ≤ j) wr y.1 y.2.1 y.2.2
theorem Coll.alloc {B : Nat} {w wr : World} {v : Value} {L : List TrV} (h : Coll B w wr v L) (hB : B ≤ wr.heap.size) (o : Obj) : Coll B w (wr.alloc o) v L :=
  ⟨h.below.alloc hB o, h.own.alloc o, fun y hy => (h.nodes y hy).later ((Below.refl _ _).alloc (Nat.le_refl _) _)⟩
theorem Coll.push {B : Nat} {w wr w8 : World} {v v8 : Value} {L : List TrV} {y : TrV} (h : Coll B w wr v L) (hy : NodeX (fun j => B ≤ j) wr y.1 y.2.1 y.2.2) (ho : Owns B 54 4 trC w8 v8 (L ++ [y])) (hg : wr.grownBy w8 v.ownBlock) (hB : B ≤ wr.heap.size) : Coll B w w8 v8 (L ++ [y]) := by
  have hX : ∀ g, v.ownBlock = some g → B ≤ g := fun g e => (h.own.rowOf e).1
  have hk : KeptX (fun j => B ≤ j) wr w8 := KeptX.grown hg hX
  have hb : Below B wr w8 := ⟨hg.os, hg.tape, hg.output, by have := hg.size; omega, fun k hk => hg.block k (by omega) (fun e => by have := hX k e.symm; omega)⟩
  refine ⟨h.below.trans hb, ho, fun z hz => ?_⟩
  rcases List.mem_append.1 hz with hz | hz
  · exact (h.nodes z hz).keep hk (fun _ _ h => h)
  · obtain rfl := List.mem_singleton.1 hz
    exact hy.keep hk (fun _ _ h => h)
/-- The literal of one node. -/
theorem lit_one (y : TrV) (W : World) (H : Nat) (hH : W.heap.size = H) : SliceOf 4 trC (W.alloc (.cells (trC y).toArray 54)) (.slice (some ⟨H, 0, none⟩) 1 1) [y] := by
  have h := sliceLit trC_len W [y] 54 H 1 hH rfl (by unfold maxLen; simp)
  simpa using h
theorem one_one (t : Tr) (a1 a3 : Option Addr) (l1 l3 a2 a4 : Nat) : ∀ y ∈ [((t, .slice a1 l1 a2, .slice a3 l3 a4) : TrV)], ∀ u ∈ trC y, u.oneCell' = true := by
  intro y hy u hu
  obtain rfl := List.mem_singleton.1 hy
  simp only [trC, nodeC, List.mem_cons, List.not_mem_nil, or_false] at hu
  rcases hu with rfl | rfl | rfl | rfl <;> rfl
theorem filter_len (m : Bs) (l : List Tr) (k : Nat) : (kidsF m (l.take k)).length ≤ k := by
  have h1 := List.length_filter_le (isKid m) (l.take k)
  have h2 : (l.take k).length ≤ k := List.length_take_le _ _
  unfold kidsF; omega

set_option maxRecDepth 100000 in
set_option maxHeartbeats 8000000 in
theorem kids_any (t : Tr) (m : Bs) (w : World) (av kv : Value) (ht : NodeOf w t av kv) (hkl : t.kids.length ≤ 100000) :
    Calls Try.prog 43 #[nodeV t av kv, .string (bs m)] w fun e w' => ∃ v L, e = .returned v ∧ L.map (·.1) = kidsF m t.kids ∧ Coll w.heap.size w w' v L := by
  obtain ⟨ao, ac, ko, kc, rfl, rfl, hal, -⟩ := ht.shape
  have HT := Lib.hid ht
  clear ht
  unfold nodeV
  go_enter Try.func43, Try.ntmps43
  go_wp2
  go_loopw [4, 10] (fun v i wr => ∃ (k : Nat) (L : List TrV) (v' : Value), k ≤ t.kids.length ∧ i = .int .i64 k ∧ v = v' ∧ Hid (w.heap.size < wr.heap.size ∧ Coll w.heap.size w wr v' L ∧ L.map (·.1) = kidsF m (t.kids.take k))) (fun _ i _ => t.kids.length - (intOf i).toNat)
  case atStart => exact ⟨0, [], _, Nat.zero_le _, rfl, rfl, by simp, ⟨(Below.refl _ w).alloc (Nat.le_refl _) _, Owns.nil, by simp⟩, by simp [kidsF]⟩
  case round =>
    obtain ⟨k, L, v, hk, rfl, rfl, HR⟩ := hrel
    obtain ⟨la, lc, hlv⟩ := HR.out.2.1.own.shape
    subst hlv
    by_cases hlt : k < t.kids.length
    · obtain ⟨g, o, a1, a2, a3, a4, rfl, hg, -, c0, c1, c2, c3, hn1⟩ := (HT.out.later HR.out.2.1.below).at k hlt
      have hnX : NodeX (fun j => w.heap.size ≤ j) w t (.slice ao t.attrs.length ac) (.slice (some ⟨g, o, none⟩) t.kids.length kc) := HT.out.keep (KeptX.refl _ _) (fun k h1 h2 => by omega)
      obtain ⟨g', o', b1, b2, b3, b4, e1, -, -, d0, d1, d2, d3, hn2⟩ := (hnX.keep (KeptX.below HR.out.2.1.below) (fun _ _ h => h)).at k hlt
      simp only [Option.some.injEq, Addr.mk.injEq, and_true] at e1
      obtain ⟨rfl, rfl⟩ := e1
      rw [c1] at d1
      rw [c2] at d2
      simp only [Option.some.injEq, Value.slice.injEq, true_and] at d1 d2
      obtain ⟨rfl, rfl⟩ := d1
      obtain ⟨rfl, rfl⟩ := d2
      have hki : (k : Int) < (t.kids.length : Int) := by omega
      have HD := Lib.hid (kidsF_take (m := m) hlt)
      have HC := Lib.hid (fun o => HR.out.2.1.alloc (Nat.le_of_lt HR.out.1) o)
      have HZ := Lib.hid (fun o => (show w.heap.size < (wr.alloc o).heap.size by have := HR.out.1; simp; omega))
      have HN := Lib.hid hn2
      have hE := bs_beq2 t.kids[k].name m
      have hLl : L.length ≤ k := by
        have h1 := filter_len m t.kids k
        rw [← HR.out.2.2] at h1
        simpa using h1
      clear d0 d3 hn1 hn2 hnX
      by_cases hne : t.kids[k].name = []
      · have he : (bs t.kids[k].name : S).toList.isEmpty = true := by rw [empty_data, bs_size, hne]; rfl
        have he2 : (!(bs t.kids[k].name : S).toList.isEmpty) = false := by rw [he]; rfl
        have hik : isKid m t.kids[k] = false := by unfold isKid; rw [hne]; rfl
        rw [hik] at HD
        clear hne hE hik
        go_wp2
        go_roundw
        case rel => exact ⟨k + 1, L, _, hlt, by go_num, rfl, HZ.out _, HC.out _, by rw [HD.out, HR.out.2.2]; simp⟩
        case measure => simp [intOf]; omega
      · have he : (bs t.kids[k].name : S).toList.isEmpty = false := by rw [empty_data, bs_size]; simpa using hne
        have he2 : (!(bs t.kids[k].name : S).toList.isEmpty) = true := by rw [he]; rfl
        have hkE : t.kids[k].name.isEmpty = false := by simpa using hne
        have hmE : (bs m : S).toList.isEmpty = m.isEmpty := by rw [empty_data, bs_size]; cases m <;> simp
        have hik : isKid m t.kids[k] = (m.isEmpty || decide (t.kids[k].name = m)) := by unfold isKid; rw [hkE]; rfl
        clear hne
        have hcs : (isKid m t.kids[k] = false ∧ (bs m : S).toList.isEmpty = false ∧ ((bs t.kids[k].name : S).toList == (bs m : S).toList) = false) ∨ (isKid m t.kids[k] = true ∧ (bs m : S).toList.isEmpty = true) ∨ (isKid m t.kids[k] = true ∧ (bs m : S).toList.isEmpty = false ∧ ((bs t.kids[k].name : S).toList == (bs m : S).toList) = true) := by
          rw [hik, hmE, hE]
          cases m.isEmpty <;> cases decide (t.kids[k].name = m) <;> simp
        clear hik hmE hE hkE
        rcases hcs with ⟨hik, hm1, hE⟩ | hcs
        · rw [hik] at HD
          clear hik
          go_wp2
          go_roundw
          case rel => exact ⟨k + 1, L, _, hlt, by go_num, rfl, HZ.out _, HC.out _, by rw [HD.out, HR.out.2.2]; simp⟩
          case measure => simp [intOf]; omega
        · have hikt : isKid m t.kids[k] = true := by rcases hcs with ⟨h, -⟩ | ⟨h, -⟩ <;> exact h
          rw [hikt] at HD
          have HOO : Hid (∀ o o2, Owns w.heap.size 54 4 trC ((wr.alloc o).alloc o2) (.slice la L.length lc) L) := fun o o2 => ((HC.out o).own).alloc o2
          have HFI : Hid (∀ o o2 v8 w8, Owns w.heap.size 54 4 trC w8 v8 (L ++ [(t.kids[k], .slice a1 t.kids[k].attrs.length a2, .slice a3 t.kids[k].kids.length a4)]) → ((wr.alloc o).alloc o2).grownBy w8 (Value.slice la L.length lc).ownBlock → w.heap.size < w8.heap.size ∧ Coll w.heap.size w w8 v8 (L ++ [(t.kids[k], .slice a1 t.kids[k].attrs.length a2, .slice a3 t.kids[k].kids.length a4)])) := fun o o2 v8 w8 h1 h2 =>
            ⟨by have := h2.size; have := HZ.out o; simp at *; omega, ((HC.out o).alloc (Nat.le_of_lt (HZ.out o)) o2).push ((HN.out.later ((Below.refl _ _).alloc (Nat.le_refl _) _)).later ((Below.refl _ _).alloc (Nat.le_refl _) _)) h1 h2 (by have := HZ.out o; simp at *; omega)⟩
          have HSZ2 : Hid (∀ o o2, w.heap.size ≤ ((wr.alloc o).alloc o2).heap.size) := fun o o2 => by have := HZ.out o; simp at *; omega
          have HBY : Hid (∀ y : TrV, (L.length + [y].length) * 80 ≤ 140737488355328) := fun y => by simp only [List.length_cons, List.length_nil]; omega
          have HLL := Lib.hid hLl
          have HIS := Lib.hid HR.out.2.2
          have hCS : ((bs m : S).toList.isEmpty = true) ∨ ((bs m : S).toList.isEmpty = false ∧ ((bs t.kids[k].name : S).toList == (bs m : S).toList) = true) := by
            rcases hcs with ⟨-, h⟩ | ⟨-, h⟩
            · exact .inl h
            · exact .inr h
          clear hcs hikt HR HT HN HC HZ hLl
          generalize hkk : t.kids[k] = y at *
          obtain ⟨yn, ya, yk, yx⟩ := y
          simp only [Tr.name, Tr.attrs, Tr.kids, Tr.text] at *
          rcases hCS with hm1 | ⟨hm1, hE⟩
          all_goals
            go_wp2_with (at_builtin; go_loud ((refine wpList_append_slice _ rfl _ _ 52 rfl w.heap.size 54 Try.underlying52 info_node rfl (by decide) trC_len (.slice la L.length lc) L rfl (HOO.out _ _) _ [((.mk yn ya yk yx, .slice a1 ya.length a2, .slice a3 yk.length a4) : TrV)] rfl (lit_one (.mk yn ya yk yx, .slice a1 ya.length a2, .slice a3 yk.length a4) _ _ (by simp)) (one_one _ _ _ _ _ _ _) (HBY.out _) (by decide) (HSZ2.out _ _) ?_; intro v8 w8 hown8 hgrow8 hloc8; have HP8 := Lib.hid (HFI.out _ _ _ _ hown8 hgrow8); clear hown8 hgrow8 hloc8)))
            go_wp2
            go_roundw
            case rel => exact ⟨k + 1, _, _, hlt, by go_num, rfl, HP8.out.1, HP8.out.2, by rw [HD.out, List.map_append, HIS.out]; rfl⟩
            case measure => simp [intOf]; omega
    · obtain rfl : k = t.kids.length := by omega
      have HF : Hid (L.map (·.1) = kidsF m t.kids) := by show _ = _; rw [HR.out.2.2, List.take_length]
      go_wp2
      go_ret
      exact ⟨_, L, rfl, HF.out, HR.out.2.1⟩

set_option maxRecDepth 100000 in
set_option maxHeartbeats 8000000 in
theorem text_any (t : Tr) (w : World) (av kv : Value) (ht : NodeOf w t av kv) (hx : (textF t.kids).length ≤ 1000000000) :
    Calls Try.prog 44 #[nodeV t av kv] w fun e w' => e = .returned (.string (bs (trimB (textF t.kids)))) ∧ Below w.heap.size w w' := by
  obtain ⟨ao, ac, ko, kc, rfl, rfl, -, hkl⟩ := ht.shape
  have HT := Lib.hid ht
  have HX := Lib.hid hx
  clear ht hx
  unfold nodeV
  go_enter Try.func44, Try.ntmps44
  go_wp2
  go_loopw [3, 9] (fun a i wr => ∃ (k : Nat) (s : S), k ≤ t.kids.length ∧ i = .int .i64 k ∧ a = .string s ∧ Hid (Below w.heap.size w wr ∧ s = bs (textF (t.kids.take k)))) (fun _ i _ => t.kids.length - (intOf i).toNat)
  case atStart => exact ⟨0, ⟨#[]⟩, Nat.zero_le _, rfl, rfl, (Below.refl _ w).alloc (Nat.le_refl _) _, by simp [textF]; rfl⟩
  case round =>
    obtain ⟨k, s, hk, rfl, rfl, HR⟩ := hrel
    by_cases hlt : k < t.kids.length
    · obtain ⟨g, o, a1, a2, a3, a4, rfl, hg, -, c0, c1, c2, c3, -⟩ := (HT.out.later HR.out.1).at k hlt
      have hki : (k : Int) < (t.kids.length : Int) := by omega
      have HD := Lib.hid (textF_take hlt)
      have HB := Lib.hid (fun o => HR.out.1.alloc HR.out.1.size o)
      by_cases hne : t.kids[k].name = []
      · have he : (bs t.kids[k].name : S).toList.isEmpty = true := by rw [empty_data, bs_size, hne]; rfl
        have hkE : t.kids[k].name.isEmpty = true := by rw [hne]; rfl
        rw [hkE] at HD
        obtain ⟨X, hX⟩ : ∃ X : S, X = bs t.kids[k].text := ⟨_, rfl⟩
        rw [← hX] at c3
        have HS : Hid (s ++ X = bs (textF (t.kids.take (k + 1)))) := by show _ = _; rw [HR.out.2, hX, bs_append, HD.out]; rfl
        have hsz : ¬ 9223372036854775807 < s.size + X.size := by
          have h1 := textF_take_le t.kids (k + 1)
          have h2 := HX.out
          have h3 : (s ++ X).size = (textF (t.kids.take (k + 1))).length := by rw [HS.out, bs_size]
          have h4 : (s ++ X).size = s.size + X.size := by simp
          omega
        clear hne hX hkE HD
        go_wp2
        go_roundw
        case rel => exact ⟨k + 1, s ++ X, hlt, by go_num, rfl, HB.out _, HS.out⟩
        case measure => simp [intOf]; omega
      · have he : (bs t.kids[k].name : S).toList.isEmpty = false := by rw [empty_data, bs_size]; simpa using hne
        have hkE : t.kids[k].name.isEmpty = false := by simpa using hne
        rw [hkE] at HD
        have HS : Hid (s = bs (textF (t.kids.take (k + 1)))) := by show _ = _; rw [HD.out, HR.out.2]; simp
        clear hne hkE HD
        go_wp2
        go_roundw
        case rel => exact ⟨k + 1, s, hlt, by go_num, rfl, HB.out _, HS.out⟩
        case measure => simp [intOf]; omega
    · obtain rfl : k = t.kids.length := by omega
      have hs : s = bs (textF t.kids) := by have := HR.out.2; rwa [List.take_length] at this
      have HTR := Lib.hid (trim_any s wr (by rw [hs, bs_size]; exact HX.out))
      have HS : Hid (s.data.toList = textF t.kids) := by show _ = _; rw [hs]; rfl
      clear hs
      go_wp2_with fail
      refine HTR.out.mono ?_
      rintro e w4 ⟨x, rfl, hx, rfl⟩
      have HX : Hid (x = bs (trimB (textF t.kids))) := by show _ = _; rw [← HS.out, ← hx, data_bs]
      clear hx
      go_wp2
      go_ret
      exact ⟨by rw [← HX.out]; rfl, HR.out.1⟩

end Go.Proofs.Ytpchljiiappmnaa
