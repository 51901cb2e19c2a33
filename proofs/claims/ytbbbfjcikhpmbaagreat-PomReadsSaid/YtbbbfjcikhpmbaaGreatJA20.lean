/- The document's reader of projects: text, word; the conditions stand in the theorems. -/
import Derived.Test.YtbbbfjcikhpmbaaGreatJA19
import Derived.Test.YtbbbfjcikhpmbaaGreatJA13
import Derived.Test.YtbbbfjcikhpmbaaGreatJA14
import Derived.IntWalk

namespace Go.Proofs.YtbbbfjcikhpmbaaGreat
open Go Go.RowKit

theorem textE_nz (t : Tr) (wh : Bs) (b : Bool) : Nz (textE t wh b) := Nz.ite (.some (by show (20 : Int) ≠ 0; decide)) .none
set_option maxRecDepth 100000 in
set_option maxHeartbeats 8000000 in
theorem textR_any (R : Nat) (s : St) (X : Nat → Prop) (t : Tr) (wh : Bs) (b : Bool) (w : World) (av kv : Value) (ht : NodeX X w t av kv) (hB : Box w R [.int .i64 s.1, .string s.2]) (hkl : t.kids.length ≤ 100000) (hx : (textF t.kids).length ≤ 1000000000) :
    Calls Tryz.prog 46 #[.pointer (some ⟨R, 0, none⟩), nodeV t av kv, .string (bs wh), .bool b] w (RdP R (stp s (textE t wh b)) (.string (bs (textV t))) w) := by
 obtain ⟨ao, ac, ko, kc, rfl, rfl, hal, -⟩ := ht.shape
 have HT := Lib.hid ht.node
 have HX := Lib.hid hx
 obtain ⟨st, hst⟩ : ∃ st : St, st = s := ⟨_, rfl⟩
 have HB : Hid (Box w R [.int .i64 st.1, .string st.2]) := by rw [hst]; exact hB
 have HRL : Hid (R < w.heap.size) := hB.lt
 rw [← hst]
 obtain ⟨q, hq⟩ : ∃ q : Bool, q = (kidsF [] t.kids).isEmpty := ⟨_, rfl⟩
 obtain ⟨N, hN⟩ : ∃ N : Bs, N = textV t := ⟨_, rfl⟩
 have HE : Hid (textE t wh b = if !q || decide (1024 < N.length) || (N.isEmpty && !b) then some (20, wh) else none) := by show _ = _; rw [hq, hN]; rfl
 have HNV : Hid (N = trimB (textF t.kids)) := hN
 have HC : Hid (∀ W, Below w.heap.size w W → Calls Tryz.prog 45 #[.agg #[.string (bs t.name), .slice ao t.attrs.length ac, .slice ko t.kids.length kc, .string (bs t.text)], .string ⟨#[]⟩] W fun e w' => ∃ a n c, e = .returned (.slice a n c) ∧ (q = false → 0 < n) ∧ (q = true → n = 0) ∧ Below W.heap.size W w') := fun W h =>
  (refKids_x t [] W _ _ (ht.later h) hkl).mono fun _ _ ⟨v, L, h1, h2, h3⟩ => by
   obtain ⟨la, lc, rfl⟩ := h3.own.shape
   exact ⟨la, L.length, lc, h1, fun e => by rw [hq] at e; exact (kidsX_empty h2).1 e, fun e => by rw [hq] at e; exact (kidsX_empty h2).2 e, h3.below⟩
 rw [← hN]
 obtain ⟨r, hr⟩ : ∃ r, r = textE t wh b := ⟨_, rfl⟩
 rw [← hr] at HE ⊢
 obtain ⟨U, hU⟩ : ∃ U : S, U = bs wh := ⟨_, rfl⟩
 have HU := Lib.hid hU
 rw [← hU]
 unfold nodeV
 clear ht hx hB hq hN hr hU hst
 go_enter Tryz.func46, Tryz.ntmps46
 go_upto_region 1 with fail
 refine wp_world ?_
 intro W hW
 have x1 : Box W w.heap.size [.string (bs t.name), .slice ao t.attrs.length ac, .slice ko t.kids.length kc, .string (bs t.text)] := by rw [hW]; exact Box.new w [.string (bs t.name), .slice ao t.attrs.length ac, .slice ko t.kids.length kc, .string (bs t.text)] _ _ rfl
 have hb : Below w.heap.size w W := by rw [hW]; exact (Below.refl _ w).alloc (Nat.le_refl _) _
 clear hW
 have HX1 := Lib.hid x1
 have HBW := Lib.hid hb
 clear x1 hb
 obtain ⟨b0, b1, b2, b3⟩ := bxc4 HX1.out
 have bl := HX1.out.lt
 have HTW := Lib.hid (HT.out.later HBW.out)
 clear HT
 have HT := HTW
 clear HTW
 go_wp2
 clear b0 b1 b2 b3 bl
 go_loopw [9, 15] (fun a i wr => ∃ (k : Nat) (s : S), k ≤ t.kids.length ∧ i = .int .i64 k ∧ a = .string s ∧ Hid (Below W.heap.size W wr ∧ s = bs (textF (t.kids.take k)))) (fun _ i _ => t.kids.length - (intOf i).toNat)
 case atStart => exact ⟨0, ⟨#[]⟩, Nat.zero_le _, rfl, rfl, Below.refl _ _, by simp [textF]; rfl⟩
 case round =>
  obtain ⟨k, s, hk, rfl, rfl, HR⟩ := hrel
  by_cases hlt : k < t.kids.length
  · obtain ⟨g, o, a1, a2, a3, a4, rfl, hg, -, c0, c1, c2, c3, -⟩ := (HT.out.later HR.out.1).at k hlt
    have hki : (k : Int) < (t.kids.length : Int) := by omega
    have HD := Lib.hid (textF_take hlt)
    have HB := Lib.hid (fun o => HR.out.1.alloc HR.out.1.size o)
    by_cases hne : t.kids[k].name = []
    · have he : (bs t.kids[k].name : S).toList.isEmpty = true := by rw [empty_data, bs_size, hne]; rfl
      have hkE : t.kids[k].name.isEmpty = true := by rw [hne]; rfl
      rw [hkE] at HD
      obtain ⟨X, hX⟩ : ∃ X : S, X = bs t.kids[k].text := ⟨_, rfl⟩
      rw [← hX] at c3
      have HS : Hid (s ++ X = bs (textF (t.kids.take (k + 1)))) := by show _ = _; rw [HR.out.2, hX, bs_append, HD.out]; rfl
      have hsz : ¬ 9223372036854775807 < s.size + X.size := by
       have h1 := textF_take_le t.kids (k + 1)
       have h2 := HX.out
       have h3 : (s ++ X).size = (textF (t.kids.take (k + 1))).length := by rw [HS.out, bs_size]
       have h4 : (s ++ X).size = s.size + X.size := by simp
       omega
      clear hne hX hkE HD
      go_wp2
      go_roundw
      case rel => exact ⟨k + 1, s ++ X, hlt, by go_num, rfl, HB.out _, HS.out⟩
      case measure => simp [intOf]; omega
    · have he : (bs t.kids[k].name : S).toList.isEmpty = false := by rw [empty_data, bs_size]; simpa using hne
      have hkE : t.kids[k].name.isEmpty = false := by simpa using hne
      rw [hkE] at HD
      have HS : Hid (s = bs (textF (t.kids.take (k + 1)))) := by show _ = _; rw [HD.out, HR.out.2]; simp
      clear hne hkE HD
      go_wp2
      go_roundw
      case rel => exact ⟨k + 1, s, hlt, by go_num, rfl, HB.out _, HS.out⟩
      case measure => simp [intOf]; omega
  · obtain rfl : k = t.kids.length := by omega
    have hs : s = bs (textF t.kids) := by have := HR.out.2; rwa [List.take_length] at this
    have HTR := Lib.hid (refTrim_any s wr (by rw [hs, bs_size]; exact HX.out))
    have HS : Hid (s.data.toList = textF t.kids) := by show _ = _; rw [hs]; rfl
    clear hs
    go_wp2_with fail
    refine HTR.out.mono ?_
    rintro e w4 ⟨x, rfl, hx, rfl⟩
    have HXN : Hid (x = bs N) := by show _ = _; rw [HNV.out, ← HS.out, ← hx, data_bs]
    have HBR := Lib.hid (HBW.out.trans (HR.out.1.mono HBW.out.size))
    have HXR := Lib.hid (HX1.out.below HR.out.1 HX1.out.lt)
    clear hx HR HTR HS HX
    obtain ⟨b0, b1, b2, b3⟩ := bxc4 HXR.out
    have bl := HXR.out.lt
    have hbz : (bs N : S).size = N.length := bs_size _
    have hne : (bs N : S).toList.isEmpty = N.isEmpty := by rw [empty_data, bs_size]; cases N <;> simp
    obtain ⟨lg, hlg⟩ : ∃ lg, lg = decide (1024 < N.length) := ⟨_, rfl⟩
    obtain ⟨em, hem⟩ : ∃ em, em = N.isEmpty := ⟨_, rfl⟩
    rw [← hlg, ← hem] at HE
    have hL : decide ((1024 : Int) < ((x.size : Nat) : Int)) = lg := by rw [HXN.out, hlg, hbz]; exact decide_eq_decide.2 (by omega)
    have hM : x.toList.isEmpty = em := by rw [HXN.out, hem]; exact hne
    clear hlg hem hne hbz
    cases q with
    | false =>
     have HR : Hid (r = some (20, wh)) := HE.out
     clear HE hL hM
     go_wp2_with fail
     refine (HC.out _ HBR.out).mono ?_
     rintro e w2 ⟨la, n, lc, rfl, hn1, hn2, hb2⟩
     have hn := hn1 (by trivial)
     have hnI : (0 : Int) < (n : Int) := by omega
     have HB2 := Lib.hid (HBR.out.trans (hb2.mono HBR.out.size))
     have HR2 := Lib.hid (HB.out.below HB2.out HRL.out)
     clear b0 b1 b2 b3 bl hb2 HC hn1 hn2
     go_wp2_with fail
     refine (failR_some R st (20, wh) U w2 HR2.out HU.out).mono ?_
     rintro e w3 ⟨rfl, hR3, hg3⟩
     have HR3 := Lib.hid hR3
     have HG3 := Lib.hid ((below_gr HB2.out).trans hg3)
     clear hR3 hg3
     go_wp2
     go_ret
     exact ⟨by rw [HXN.out]; rfl, by rw [HR.out]; exact HR3.out, HG3.out⟩
    | true =>
     cases lg with
     | true =>
      have HR : Hid (r = some (20, wh)) := HE.out
      clear HE hM
      go_wp2_with fail
      refine (HC.out _ HBR.out).mono ?_
      rintro e w2 ⟨la, n, lc, rfl, hn1, hn2, hb2⟩
      obtain rfl := hn2 (by trivial)
      have HB2 := Lib.hid (HBR.out.trans (hb2.mono HBR.out.size))
      have HR2 := Lib.hid (HB.out.below HB2.out HRL.out)
      clear b0 b1 b2 b3 bl hb2 HC hn1 hn2
      go_wp2_with fail
      refine (failR_some R st (20, wh) U w2 HR2.out HU.out).mono ?_
      rintro e w3 ⟨rfl, hR3, hg3⟩
      have HR3 := Lib.hid hR3
      have HG3 := Lib.hid ((below_gr HB2.out).trans hg3)
      clear hR3 hg3
      go_wp2
      go_ret
      exact ⟨by rw [HXN.out]; rfl, by rw [HR.out]; exact HR3.out, HG3.out⟩
     | false =>
      cases em with
      | false =>
       have HR : Hid (r = none) := HE.out
       clear HE
       go_wp2_with fail
       refine (HC.out _ HBR.out).mono ?_
       rintro e w2 ⟨la, n, lc, rfl, hn1, hn2, hb2⟩
       obtain rfl := hn2 (by trivial)
       have HB2 := Lib.hid (HBR.out.trans (hb2.mono HBR.out.size))
       have HR2 := Lib.hid (HB.out.below HB2.out HRL.out)
       clear b0 b1 b2 b3 bl hb2 HC hn1 hn2
       go_wp2
       go_ret
       exact ⟨by rw [HXN.out]; rfl, by rw [HR.out]; exact HR2.out, below_gr HB2.out⟩
      | true =>
       cases b with
       | false =>
        have HR : Hid (r = some (20, wh)) := HE.out
        clear HE
        go_wp2_with fail
        refine (HC.out _ HBR.out).mono ?_
        rintro e w2 ⟨la, n, lc, rfl, hn1, hn2, hb2⟩
        obtain rfl := hn2 (by trivial)
        have HB2 := Lib.hid (HBR.out.trans (hb2.mono HBR.out.size))
        have HR2 := Lib.hid (HB.out.below HB2.out HRL.out)
        clear b0 b1 b2 b3 bl hb2 HC hn1 hn2
        go_wp2_with fail
        refine (failR_some R st (20, wh) U w2 HR2.out HU.out).mono ?_
        rintro e w3 ⟨rfl, hR3, hg3⟩
        have HR3 := Lib.hid hR3
        have HG3 := Lib.hid ((below_gr HB2.out).trans hg3)
        clear hR3 hg3
        go_wp2
        go_ret
        exact ⟨by rw [HXN.out]; rfl, by rw [HR.out]; exact HR3.out, HG3.out⟩
       | true =>
        have HR : Hid (r = none) := HE.out
        clear HE
        go_wp2_with fail
        refine (HC.out _ HBR.out).mono ?_
        rintro e w2 ⟨la, n, lc, rfl, hn1, hn2, hb2⟩
        obtain rfl := hn2 (by trivial)
        have HB2 := Lib.hid (HBR.out.trans (hb2.mono HBR.out.size))
        have HR2 := Lib.hid (HB.out.below HB2.out HRL.out)
        clear b0 b1 b2 b3 bl hb2 HC hn1 hn2
        go_wp2
        go_ret
        exact ⟨by rw [HXN.out]; rfl, by rw [HR.out]; exact HR2.out, below_gr HB2.out⟩
theorem bs_lit (a l : Bs) : ((bs a).toList == l) = decide (a = l) := by
 rw [ByteArray.toList_eq, bs_data, Bool.eq_iff_iff]; simp
def scB (s : Bs) : Bool := !s.isEmpty && (decide (s = [99, 111, 109, 112, 105, 108, 101]) || (decide (s = [114, 117, 110, 116, 105, 109, 101]) || (decide (s = [112, 114, 111, 118, 105, 100, 101, 100]) || (decide (s = [115, 121, 115, 116, 101, 109]) || (decide (s = [116, 101, 115, 116]))))))
theorem scope_ref (s : Bs) : isScopeQ false s = scB s ∧ isScopeQ true s = (scB s || decide (s = [105, 109, 112, 111, 114, 116])) := by
 by_cases h1 : s = [99, 111, 109, 112, 105, 108, 101]
 · subst h1; decide
 by_cases h2 : s = [114, 117, 110, 116, 105, 109, 101]
 · subst h2; decide
 by_cases h3 : s = [112, 114, 111, 118, 105, 100, 101, 100]
 · subst h3; decide
 by_cases h4 : s = [115, 121, 115, 116, 101, 109]
 · subst h4; decide
 by_cases h5 : s = [116, 101, 115, 116]
 · subst h5; decide
 by_cases h6 : s = [105, 109, 112, 111, 114, 116]
 · subst h6; decide
 have hn : scopeN s = 0 := by unfold scopeN; rw [if_neg h1, if_neg h2, if_neg h3, if_neg h4, if_neg h5]
 have hw : scopeW s = 0 := by unfold scopeW; rw [hn, if_neg (by simp), if_neg h6]
 unfold isScopeQ scB
 rw [hw, decide_eq_false h1, decide_eq_false h2, decide_eq_false h3, decide_eq_false h4, decide_eq_false h5, decide_eq_false h6]
 simp
/-- What a field's text must be, by its kind. -/
inductive KindIs : Int → (Bs → Bool) → Prop where
 | k0 : KindIs 0 freeB
 | k1 : KindIs 1 isIdQ
 | k2 : KindIs 2 verQ
 | k3 : KindIs 3 (isScopeQ false)
 | k4 : KindIs 4 (isScopeQ true)
 | k5 : KindIs 5 isTruthB
 | k6 : KindIs 6 isPartQ
theorem manyE_nz (t : Tr) (wh m : Bs) : Nz (manyE t wh m) := Nz.ite (.some (by show (20 : Int) ≠ 0; decide)) .none
theorem wordE_nz (t : Tr) (wh m : Bs) (must : Bool) (r : Bs → Bool) : Nz (wordE t wh m must r) := by
 unfold wordE
 refine (manyE_nz _ _ _).or ?_
 cases oneV t m with
 | none => exact Nz.ite (.some (by show (20 : Int) ≠ 0; decide)) .none
 | some k => exact (textE_nz _ _ _).or (Nz.ite .none (.some (by show (20 : Int) ≠ 0; decide)))
theorem trimB_le (l : Bs) : (trimB l).length ≤ l.length := by
 have h1 : ∀ m : Bs, (m.dropWhile cBlank).length ≤ m.length := fun m => (List.dropWhile_sublist _).length_le
 rw [trimB_eq]
 unfold dropBack
 rw [List.length_reverse]
 refine Nat.le_trans (h1 _) ?_
 rw [List.length_reverse]
 exact h1 _
set_option maxRecDepth 100000 in
set_option maxHeartbeats 16000000 in
theorem wordR_any (R : Nat) (s : St) (X : Nat → Prop) (c : Int) (r : Bs → Bool) (hr : KindIs c r) (t : Tr) (wh m : Bs) (must : Bool) (w : World) (av kv : Value) (ht : NodeX X w t av kv) (hm : MildW t) (hR : X R) (hB : Box w R [.int .i64 s.1, .string s.2]) (hl : wh.length + m.length ≤ 1000000000000) :
    Calls Tryz.prog 44 #[.pointer (some ⟨R, 0, none⟩), nodeV t av kv, .string (bs wh), .string (bs m), .bool must, .int .i64 c] w (RdP R (stp s (wordE t wh m must r)) (.string (bs (wordV t m))) w) := by
 obtain ⟨ao, ac, ko, kc, rfl, rfl, hal, -⟩ := ht.shape
 have HE : Hid (wordE t wh m must r = (manyE t wh m).or (match oneV t m with
  | none => if must then some (20, sl wh m) else none
  | some k => (textE k (sl wh m) false).or (if r (textV k) then none else some (20, sl wh m)))) := rfl
 have HV : Hid (wordV t m = match oneV t m with
  | none => []
  | some k => textV k) := rfl
 have HMY : Hid (manyE t wh m = if 1 < (kidsF m t.kids).length then some (20, two (sl wh m)) else none) := rfl
 have HO : Hid (oneV t m = (kidsF m t.kids).head?) := rfl
 have HNZ := Lib.hid (manyE_nz t wh m)
 have HRL : Hid (R < w.heap.size) := hB.lt
 obtain ⟨E, hE⟩ : ∃ E, E = wordE t wh m must r := ⟨_, rfl⟩
 obtain ⟨V, hV⟩ : ∃ V, V = wordV t m := ⟨_, rfl⟩
 rw [← hE] at HE ⊢
 rw [← hV] at HV ⊢
 obtain ⟨U, hU⟩ : ∃ U : S, U = bs wh := ⟨_, rfl⟩
 obtain ⟨M, hM⟩ : ∃ M : S, M = bs m := ⟨_, rfl⟩
 obtain ⟨Y, hY⟩ : ∃ Y : S, Y = bs (sl wh m) := ⟨_, rfl⟩
 have HYY := Lib.hid hY
 have hUY : U ++ (⟨#[47]⟩ ++ M) = Y := by rw [hU, hM, hY]; show bs wh ++ (bs [47] ++ bs m) = _; rw [bs_append, bs_append]; rfl
 have hzX : U.size = wh.length := by rw [hU, bs_size]
 have hzM : M.size = m.length := by rw [hM, bs_size]
 have hs1 : ¬ 9223372036854775807 < 1 + M.size := by omega
 have hs2 : ¬ 9223372036854775807 < U.size + (1 + M.size) := by omega
 have hzY : Y.size = U.size + (1 + M.size) := by rw [← hUY, ByteArray.size_append, ByteArray.size_append]; rfl
 have hs3 : ¬ 9223372036854775807 < Y.size + 3 := by omega
 have HC : Hid (∀ W, Below w.heap.size w W → Calls Tryz.prog 45 #[.agg #[.string (bs t.name), .slice ao t.attrs.length ac, .slice ko t.kids.length kc, .string (bs t.text)], .string M] W fun e w' => ∃ v L, e = .returned v ∧ L.map (·.1) = kidsF m t.kids ∧ CollX (fun j => X j ∨ w.heap.size ≤ j) W.heap.size W w' v L) := fun W h => by rw [hM]; exact refKids_x t m W _ _ (ht.freshX.later h) hm.kl
 have HB := Lib.hid hB
 have HRX : Hid (X R) := hR
 have HMD := Lib.hid hm
 have HKD := Lib.hid hr
 have HUS := Lib.hid hUY
 rw [← hU, ← hM]
 unfold nodeV
 clear ht hB hR hm hr hU hM hY hE hV hzX hzM hzY
 go_enter Tryz.func44, Tryz.ntmps44
 go_upto_region 1 with fail
 refine wp_world ?_
 intro W hW
 have x1 : Box W w.heap.size [.string (bs t.name), .slice ao t.attrs.length ac, .slice ko t.kids.length kc, .string (bs t.text)] := by rw [hW]; exact Box.new w [.string (bs t.name), .slice ao t.attrs.length ac, .slice ko t.kids.length kc, .string (bs t.text)] _ _ rfl
 have hb : Below w.heap.size w W := by rw [hW]; exact (Below.refl _ w).alloc (Nat.le_refl _) _
 clear hW
 have HX1 := Lib.hid x1
 have HBW := Lib.hid hb
 clear x1 hb
 obtain ⟨b0, b1, b2, b3⟩ := bxc4 HX1.out
 have bl := HX1.out.lt
 go_wp2_with fail
 refine (HC.out _ HBW.out).mono ?_
 rintro e w1 ⟨v, L, rfl, hL, hco⟩
 obtain ⟨la, lc, rfl⟩ := hco.own.shape
 have hb1 := hco.below
 have HB1 := Lib.hid (HBW.out.trans (hb1.mono HBW.out.size))
 have HR1 := Lib.hid (HB.out.below HB1.out HRL.out)
 have HOW := Lib.hid hco.own
 have HND := Lib.hid hco.nodes
 have HLE := Lib.hid hL
 have HBS : Hid (R < W.heap.size) := by have := HRL.out; have := HBW.out.size; show _ < _; omega
 obtain ⟨n, hn⟩ : ∃ n, n = L.length := ⟨_, rfl⟩
 have HNL := Lib.hid hn
 rw [← hn] at HOW ⊢
 clear b0 b1 b2 b3 bl hb1 hco HX1 hL hn HB HC
 have HOE : Hid (n = 0 → oneV t m = none ∧ manyE t wh m = none) := fun h => by
  have h2 : L = [] := List.eq_nil_of_length_eq_zero (by rw [← HNL.out]; exact h)
  refine ⟨?_, ?_⟩
  · rw [HO.out, ← HLE.out, h2]; rfl
  · rw [HMY.out, ← HLE.out, h2]; rfl
 have HYO : Hid (∀ h : 0 < L.length, oneV t m = some (L[0]'h).1) := fun h => by
  rw [HO.out, ← HLE.out, List.head?_map]
  cases L with
  | nil => cases h
  | cons y l => rfl
 have HME : Hid (manyE t wh m = if 1 < n then some (20, two (sl wh m)) else none) := by
  show _ = _
  rw [HMY.out, ← HLE.out, List.length_map, ← HNL.out]
 clear HMY HO
 rcases (by omega : n = 0 ∨ 1 ≤ n) with h0 | h1
 · subst h0
   obtain ⟨ho, hme⟩ := HOE.out rfl
   have HE0 : Hid (E = if must then some (20, sl wh m) else none) := by
    show _ = _
    rw [HE.out, ho, hme]; rfl
   have HV0 : Hid (V = []) := by show _ = _; rw [HV.out, ho]
   clear ho hme HE HV HOE HYO HME
   cases must with
   | true =>
    have HER : Hid (E = some (20, sl wh m)) := HE0.out
    clear HE0
    go_wp2_with fail
    refine (failR_some R s (20, sl wh m) Y w1 HR1.out HYY.out).mono ?_
    rintro e w2 ⟨rfl, hR2, hg2⟩
    have HR2 := Lib.hid hR2
    have HG2 := Lib.hid ((below_gr HB1.out).trans hg2)
    clear hR2 hg2
    go_wp2
    go_ret
    refine ⟨by rw [HV0.out]; rfl, by rw [HER.out]; exact HR2.out, HG2.out⟩
   | false =>
    have HER : Hid (E = none) := HE0.out
    clear HE0
    go_wp2
    go_ret
    refine ⟨by rw [HV0.out]; rfl, by rw [HER.out]; exact HR1.out, below_gr HB1.out⟩
 · have hn0 : ((n : Int) == 0) = false := by rw [beq_eq_false_iff_ne]; omega
   have hni : (0 : Int) < (n : Int) := by omega
   have HL0 : Hid (0 < L.length) := by have := HNL.out; show _ < _; omega
   obtain ⟨y, hy⟩ : ∃ y, y = L[0]'HL0.out := ⟨_, rfl⟩
   have HYK : Hid (oneV t m = some y.1) := by show _ = _; rw [hy]; exact HYO.out HL0.out
   have HMK : Hid (MildW y.1) := HMD.out.one HYK.out
   have HVK : Hid (V = textV y.1) := by show _ = _; rw [HV.out, HYK.out]
   have HEK : Hid (E = (manyE t wh m).or ((textE y.1 (sl wh m) false).or (if r V then none else some (20, sl wh m)))) := by show _ = _; rw [HE.out, HYK.out, HVK.out]
   have HCZ : Hid (∀ wz, Hid (w1.grownBy wz (some R)) → ∃ g o, la = some ⟨g, o, none⟩ ∧ g < wz.heap.size ∧ ∃ p1 p2 p3 p4, wz.cell? ⟨g, o, none⟩ = some (.string (bs y.1.name)) ∧ wz.cell? ⟨g, o + 1, none⟩ = some (.slice p1 y.1.attrs.length p2) ∧ wz.cell? ⟨g, o + 2, none⟩ = some (.slice p3 y.1.kids.length p4) ∧ wz.cell? ⟨g, o + 3, none⟩ = some (.string (bs y.1.text)) ∧ NodeX X wz y.1 (.slice p1 y.1.attrs.length p2) (.slice p3 y.1.kids.length p4) ∧ w.grownBy wz (some R)) := fun wz hz => by
    obtain ⟨g, o1, p1, p2, p3, p4, hla, hg, c0, c1, c2, c3, hn⟩ := nodesQ (n := n) (L := L) ((HOW.out.keptR hz.out HBS.out).slice trC_len) (fun y hy => (HND.out y hy).gr hz.out (.inl (.inl HRX.out))) 0 HL0.out
    simp only [Nat.zero_mul, Nat.add_zero] at c0 c1 c2 c3 hn
    rw [← hy] at c0 c1 c2 c3 hn
    exact ⟨g, o1, hla, hg, p1, p2, p3, p4, c0, c1, c2, c3, hn.keep (KeptX.refl _ _) (fun _ _ h => .inl (.inl h)), (below_gr HB1.out).trans hz.out⟩
   have HME2 := HME
   clear HE HV HOE HYO HME HLE HOW HND hy HNL HL0 HB1
   go_upto_if 26 with fail
   go_cut [] from 24 to 30 (fun wx => Hid (Box wx R [.int .i64 (stp s (manyE t wh m)).1, .string (stp s (manyE t wh m)).2] ∧ w1.grownBy wx (some R)))
   case first =>
    by_cases hb : 1 < n
    · have hbI : (1 : Int) < (n : Int) := by omega
      have HER : Hid (manyE t wh m = some (20, two (sl wh m))) := by show _ = _; rw [HME2.out, if_pos hb]
      have HYT : Hid (Y ++ ⟨#[91, 50, 93]⟩ = bs (two (sl wh m))) := by
       show _ = _; rw [HYY.out]; show bs (sl wh m) ++ bs [91, 50, 93] = _; rw [bs_append]; rfl
      clear hb h1
      go_wp2_with fail
      refine (failR_some R s (20, two (sl wh m)) _ w1 HR1.out HYT.out).mono ?_
      rintro e w2 ⟨rfl, hR2, hg2⟩
      have HR2 := Lib.hid hR2
      have HG2 := Lib.hid hg2
      clear hR2 hg2
      go_wp2
      go_meet
      case rel => exact ⟨by rw [HER.out]; exact HR2.out, HG2.out⟩
    · have hbI : ¬ (1 : Int) < (n : Int) := by omega
      have HER : Hid (manyE t wh m = none) := by show _ = _; rw [HME2.out, if_neg hb]
      clear hb h1
      go_wp2
      go_meet
      case rel => exact ⟨by rw [HER.out]; exact HR1.out, World.grownBy.refl _ _⟩
   case rest =>
    have HR2 := Lib.hid hcut.out.1
    have hcz := HCZ.out _ (Lib.hid hcut.out.2)
    clear hcut HCZ HME2 HR1
    obtain ⟨g, o, rfl, hg, p1, p2, p3, p4, c0, c1, c2, c3, hn, hgw⟩ := hcz
    have HN := Lib.hid hn
    have HGW := Lib.hid hgw
    clear hn hgw
    have HTX : Hid (Calls Tryz.prog 46 #[.pointer (some ⟨R, 0, none⟩), .agg #[.string (bs y.1.name), .slice p1 y.1.attrs.length p2, .slice p3 y.1.kids.length p4, .string (bs y.1.text)], .string Y, .bool false] wc (RdP R (stp (stp s (manyE t wh m)) (textE y.1 (sl wh m) false)) (.string (bs V)) wc)) := by
     rw [HYY.out, HVK.out]
     exact textR_any R _ X y.1 (sl wh m) false wc _ _ HN.out HR2.out HMK.out.kl HMK.out.txt
    have HZ2 := Lib.hid ((stp_or (s := s) (b := textE y.1 (sl wh m) false) HNZ.out).symm)
    obtain ⟨s3, hs3⟩ : ∃ s3 : St, s3 = stp (stp s (manyE t wh m)) (textE y.1 (sl wh m) false) := ⟨_, rfl⟩
    rw [← hs3] at HTX
    have HS3 : Hid (stp s E = stp s3 (if r V then none else some (20, sl wh m))) := by
     show _ = _
     rw [HEK.out, hs3, ← stp_or HNZ.out, ← stp_or (textE_nz _ _ _)]
    have HVS : Hid ((bs V : S).size ≤ 9223372036854775807) := by
     show _ ≤ _
     rw [bs_size, HVK.out]
     have h1 := HMK.out.txt
     have h2 : (textV y.1).length ≤ (textF y.1.kids).length := by unfold textV; exact trimB_le _
     omega
    clear hs3 HEK HNZ HN HMK HR2 HZ2 HVK HYK HMD
    generalize bs y.1.name = yn at *
    generalize bs y.1.text = yx at *
    generalize y.1.attrs.length = l1 at *
    generalize y.1.kids.length = l3 at *
    go_wp2_with fail
    refine HTX.out.mono ?_
    rintro e w3 ⟨rfl, hR3, hg3⟩
    have HR3 := Lib.hid hR3
    have HG3 := Lib.hid (HGW.out.trans hg3)
    clear hR3 hg3 HTX HGW c0 c1 c2 c3 hg
    have HSR := Lib.hid (scope_ref V)
    obtain ⟨sc, hsc⟩ : ∃ sc, sc = scB V := ⟨_, rfl⟩
    rw [← hsc] at HSR
    have HSC : Hid (sc = (!V.isEmpty && (decide (V = [99, 111, 109, 112, 105, 108, 101]) || (decide (V = [114, 117, 110, 116, 105, 109, 101]) || (decide (V = [112, 114, 111, 118, 105, 100, 101, 100]) || (decide (V = [115, 121, 115, 116, 101, 109]) || (decide (V = [116, 101, 115, 116])))))))) := hsc
    clear hsc
    go_upto_region 10 with fail
    go_cut [15] from 44 to 65 (fun b wx => b = .bool sc ∧ wx = w3)
    case first =>
     have hem : (bs V : S).toList.isEmpty = V.isEmpty := by rw [empty_data, bs_size]; cases V <;> simp
     have hq0 := bs_lit V [99, 111, 109, 112, 105, 108, 101]
     have hq1 := bs_lit V [114, 117, 110, 116, 105, 109, 101]
     have hq2 := bs_lit V [112, 114, 111, 118, 105, 100, 101, 100]
     have hq3 := bs_lit V [115, 121, 115, 116, 101, 109]
     have hq4 := bs_lit V [116, 101, 115, 116]
     generalize V.isEmpty = em at *
     generalize decide (V = [99, 111, 109, 112, 105, 108, 101]) = q0 at *
     generalize decide (V = [114, 117, 110, 116, 105, 109, 101]) = q1 at *
     generalize decide (V = [112, 114, 111, 118, 105, 100, 101, 100]) = q2 at *
     generalize decide (V = [115, 121, 115, 116, 101, 109]) = q3 at *
     generalize decide (V = [116, 101, 115, 116]) = q4 at *
     have hemn : (!(bs V : S).toList.isEmpty) = !em := by rw [hem]
     generalize (bs V : S) = vs at *
     cases em
     · cases q0
       · cases q1
         · cases q2
           · cases q3
             · cases q4
               all_goals
                have HSV := Lib.hid HSC.out
                simp only [Bool.not_false, Bool.false_or, Bool.true_and] at HSV
                go_wp2
                go_meet
                case rel => exact ⟨by rw [HSV.out], rfl⟩
             · go_wp2
               go_meet
               case rel => exact ⟨by rw [HSC.out]; rfl, rfl⟩
           · go_wp2
             go_meet
             case rel => exact ⟨by rw [HSC.out]; rfl, rfl⟩
         · go_wp2
           go_meet
           case rel => exact ⟨by rw [HSC.out]; rfl, rfl⟩
       · go_wp2
         go_meet
         case rel => exact ⟨by rw [HSC.out]; rfl, rfl⟩
     · go_wp2
       go_meet
       case rel => exact ⟨by rw [HSC.out]; rfl, rfl⟩
    case rest =>
     obtain ⟨rfl, hwx⟩ := hcut
     subst hwx
     clear HSC
     go_upto_region 11 with fail
     obtain ⟨rv, hrv⟩ : ∃ rv, rv = r V := ⟨_, rfl⟩
     have HRV := Lib.hid hrv
     rw [← hrv] at HS3
     clear hrv
     go_cut [16] from 66 to 125 (fun b wx => b = .bool rv ∧ wx = wc)
     case first =>
      have HI : Hid (Calls Tryz.prog 92 #[.string (bs V)] wc fun e w' => e = .returned (.bool (isIdQ V)) ∧ wc = w') := refIsId_any (bs V) wc HVS.out
      have HVR : Hid (Calls Tryz.prog 93 #[.string (bs V)] wc fun e w' => e = .returned (.bool (verQ V)) ∧ wc = w') := refVer_any (bs V) wc HVS.out
      have hqi := bs_lit V [105, 109, 112, 111, 114, 116]
      have hqt := bs_lit V [116, 114, 117, 101]
      have hqf := bs_lit V [102, 97, 108, 115, 101]
      have hqs := bs_lit V [42]
      have HTR : Hid (isTruthB V = (decide (V = [116, 114, 117, 101]) || decide (V = [102, 97, 108, 115, 101]))) := rfl
      have HPT : Hid (isPartQ V = (decide (V = [42]) || isIdQ V)) := rfl
      generalize decide (V = [105, 109, 112, 111, 114, 116]) = qi at *
      generalize decide (V = [116, 114, 117, 101]) = qt at *
      generalize decide (V = [102, 97, 108, 115, 101]) = qf at *
      generalize decide (V = [42]) = qs at *
      cases HKD.out with
      | k0 =>
       have HRF : Hid (rv = true) := HRV.out
       go_wp2
       go_meet
       case rel => exact ⟨by rw [HRF.out], rfl⟩
      | k1 =>
       have HRF : Hid (rv = isIdQ V) := HRV.out
       clear HTR HPT HRV HSR HS3
       generalize isIdQ V = qd at *
       cases qd
       all_goals
        go_wp2_with fail
        refine HI.out.mono ?_
        rintro e w9 ⟨rfl, rfl⟩
        go_wp2
        go_meet
        case rel => exact ⟨by rw [HRF.out], rfl⟩
      | k2 =>
       have HRF : Hid (rv = verQ V) := HRV.out
       clear HTR HPT HRV HSR HS3
       generalize verQ V = qe at *
       cases qe
       all_goals
        go_wp2_with fail
        refine HVR.out.mono ?_
        rintro e w9 ⟨rfl, rfl⟩
        go_wp2
        go_meet
        case rel => exact ⟨by rw [HRF.out], rfl⟩
      | k3 =>
       have HRF : Hid (rv = sc) := by show _ = _; rw [HRV.out, HSR.out.1]
       cases sc
       all_goals
        go_wp2
        go_meet
        case rel => exact ⟨by rw [HRF.out], rfl⟩
      | k4 =>
       have HRF : Hid (rv = (sc || qi)) := by show _ = _; rw [HRV.out, HSR.out.2]
       cases sc
       · cases qi
         all_goals
          go_wp2
          go_meet
          case rel => exact ⟨by rw [HRF.out]; rfl, rfl⟩
       · go_wp2
         go_meet
         case rel => exact ⟨by rw [HRF.out]; rfl, rfl⟩
      | k5 =>
       have HRF : Hid (rv = (qt || qf)) := by show _ = _; rw [HRV.out, HTR.out]
       cases qt
       · cases qf
         all_goals
          go_wp2
          go_meet
          case rel => exact ⟨by rw [HRF.out]; rfl, rfl⟩
       · go_wp2
         go_meet
         case rel => exact ⟨by rw [HRF.out]; rfl, rfl⟩
      | k6 =>
       have HRF : Hid (rv = (qs || isIdQ V)) := by show _ = _; rw [HRV.out, HPT.out]
       clear HTR HPT HRV HSR HS3
       generalize isIdQ V = qd at *
       cases qs
       · cases qd
         all_goals
          go_wp2_with fail
          refine HI.out.mono ?_
          rintro e w9 ⟨rfl, rfl⟩
          go_wp2
          go_meet
          case rel => exact ⟨by rw [HRF.out]; rfl, rfl⟩
       · go_wp2
         go_meet
         case rel => exact ⟨by rw [HRF.out]; rfl, rfl⟩
     case rest =>
      obtain ⟨rfl, hwx⟩ := hcut
      subst hwx
      have HR4 := HR3
      have HG4 := HG3
      clear HR3 HG3 HRV HSR
      have HVS2 := HVS
      cases rv with
      | false =>
       have HSF : Hid (stp s E = stp s3 (some (20, sl wh m))) := HS3.out
       go_wp2_with fail
       refine (failR_some R s3 (20, sl wh m) Y _ HR4.out HYY.out).mono ?_
       rintro e w5 ⟨rfl, hR5, hg5⟩
       have HR5 := Lib.hid hR5
       have HG5 := Lib.hid (HG4.out.trans hg5)
       clear hR5 hg5
       go_wp2
       go_ret
       exact ⟨rfl, by rw [HSF.out]; exact HR5.out, HG5.out⟩
      | true =>
       have HSF : Hid (stp s E = s3) := HS3.out
       go_wp2
       go_ret
       exact ⟨rfl, by rw [HSF.out]; exact HR4.out, HG4.out⟩

end Go.Proofs.YtbbbfjcikhpmbaaGreat

/- Lists just up to their limit, and beyond it: which projects may be, and what is read: plain laws; no program in sight. -/

namespace Go.Proofs.YtbbbfjcikhpmbaaGreat
open Go Go.RowKit

theorem digQ_nat {d : Nat} (h : d < 10) : (digQ d).toNat = 48 + d := by
 rcases (by omega : d = 0 ∨ d = 1 ∨ d = 2 ∨ d = 3 ∨ d = 4 ∨ d = 5 ∨ d = 6 ∨ d = 7 ∨ d = 8 ∨ d = 9) with rfl | rfl | rfl | rfl | rfl | rfl | rfl | rfl | rfl | rfl <;> rfl

end Go.Proofs.YtbbbfjcikhpmbaaGreat

/- The document's number's text; the conditions stand in the theorem. -/
namespace Go.Proofs.YtbbbfjcikhpmbaaGreat
open Go Go.RowKit

def nmUpd (n : Nat) (x0 x1 x3 x4 x5 x6 x7 x8 x9 : Value) (f0 f1 f2 f3 f4 f5 f6 f7 f8 f9 f10 : Bool) (H : Nat) : Act :=
 ⟨#[x0, x1, cond f10 (.string (bs (numP n))) (.string ⟨#[]⟩), x3, x4, x5, x6, x7, x8, x9, cond f0 (.int .i64 (n : Nat)) undef, cond f1 (.int .i64 ((n : Int) / 10)) undef, cond f2 (.string (bs (numP (n / 10)))) undef, cond f3 (.int .i64 (n : Nat)) undef, cond f4 (.int .i64 ((n : Int) % 10)) undef, cond f5 (.int .i64 (48 + (n : Int) % 10)) undef, cond f6 (.int .u8 (48 + (n : Int) % 10)) undef, cond f7 (.slice (some ⟨H, 0, none⟩) 1 1) undef, cond f8 (.string (bs [digQ (n % 10)])) undef, cond f9 (.string (bs (numP n))) undef], []⟩
def nmJ (n : Nat) (V : World) (x0 x1 x3 x4 x5 x6 x7 x8 x9 : Value) (listed : Array Bool) (atx : Act) (w' : World) : Prop :=
 ∃ (f0 f1 f2 f3 f4 f5 f6 f7 f8 f9 f10 : Bool) (H : Nat), listed = #[f0, f1, f2, f3, f4, f5, f6, f7, f8, f9, f10] ∧ atx = nmUpd n x0 x1 x3 x4 x5 x6 x7 x8 x9 f0 f1 f2 f3 f4 f5 f6 f7 f8 f9 f10 H ∧ Hid (f8 = true → f7 = true) ∧ Below V.heap.size V w' ∧ (f7 = true → H < w'.heap.size ∧ w'.cell? ⟨H, 0, none⟩ = some (.int .u8 (48 + (n : Int) % 10)))
theorem nm_cell (w : World) (x : Value) (T : TypeId) (fz : Nat × Nat) : (w.alloc (.cells #[x] T fz)).cell? ⟨w.heap.size, 0, none⟩ = some x := by
 rw [cell_of_row _ w.heap.size 0 _ T fz (heap_alloc_new w _)]; rfl
theorem nm_conv (w : World) (H d : Nat) (hd : d < 10) (hc : w.cell? ⟨H, 0, none⟩ = some (.int .u8 ((48 + d : Nat) : Int))) : (convert 106 9 (.slice (some ⟨H, 0, none⟩) 1 1)).run Tryz.prog w = .ok (.string (bs [digQ d])) w :=
 run_convert_bytes_back (P := Tryz.prog) w 106 9 5 ⟨H, 0, none⟩ 1 [digQ d] Tryz.underlying106 Tryz.underlying5 Tryz.underlying9 (fun j hj => by
  obtain rfl : j = 0 := by simp at hj; omega
  have h1 : (digQ d).toNat = 48 + d := digQ_nat hd
  simpa [Lib.byteCells, h1, Addr.add] using hc)
set_option maxRecDepth 100000 in
set_option maxHeartbeats 8000000 in
theorem refNumber_any (n : Nat) (hn : n ≤ 1000000) : ∀ (w : World), Calls Tryz.prog 28 #[.int .i64 (n : Nat)] w fun e w' => e = .returned (.string (bs (numP n))) ∧ Below w.heap.size w w' := by
 induction n using Nat.strongRecOn with
 | ind n ih =>
  intro w
  have hHn : w.heap.size = w.heap.size := rfl
  by_cases h10 : n < 10
  · have hi : (n : Int) < 10 := by omega
    have hd : numP n = [digQ n] := by rw [numP, if_pos h10]; rfl
    have hw8 : IntKind.u8.wrap (48 + (n : Int)) = 48 + (n : Int) := by unfold IntKind.wrap; simp [IntKind.bits, IntKind.signed]; omega
    have HV := Lib.hid (nm_conv (w.alloc (.cells #[.int .u8 (48 + (n : Int))] 5)) w.heap.size n h10 (by rw [nm_cell]; rfl))
    rw [hd]
    clear hd ih hHn
    go_enter Tryz.func28, Tryz.ntmps28
    go_upto_region 2 with fail
    have hv := HV.out
    go_wp2
    go_ret
    exact ⟨rfl, (Below.refl _ _).alloc (Nat.le_refl _) _⟩
  · have hi : ¬ ((n : Int) < 10) := by omega
    have hr10 : n % 10 < 10 := by omega
    have hq : (n : Int).tdiv 10 = (n : Int) / 10 := Int.tdiv_eq_ediv_of_nonneg (by omega)
    have hm : (n : Int).tmod 10 = (n : Int) % 10 := Int.tmod_eq_emod_of_nonneg (by omega)
    have hw1 : IntKind.i64.wrap ((n : Int) / 10) = (n : Int) / 10 := IntWalk.i64_in _ (by omega)
    have hw2 : IntKind.i64.wrap ((n : Int) % 10) = (n : Int) % 10 := IntWalk.i64_in _ (by omega)
    have hw3 : IntKind.i64.wrap (48 + (n : Int) % 10) = 48 + (n : Int) % 10 := IntWalk.i64_in _ (by omega)
    have hw4 : IntKind.u8.wrap (48 + (n : Int) % 10) = 48 + (n : Int) % 10 := by unfold IntKind.wrap; simp [IntKind.bits, IntKind.signed]; omega
    have hw0 : IntKind.i64.wrap (n : Int) = (n : Int) := IntWalk.i64_in _ (by omega)
    have HC : Hid (∀ W : World, Calls Tryz.prog 28 #[.int .i64 ((n : Int) / 10)] W fun e w' => e = .returned (.string (bs (numP (n / 10)))) ∧ Below W.heap.size W w') := Lib.hid (by rw [show ((n : Int) / 10) = ((n / 10 : Nat) : Int) from by omega]; exact ih (n / 10) (by omega) (by omega))
    have hN : numP n = numP (n / 10) ++ [digQ (n % 10)] := by rw [numP, if_neg h10]; rfl
    have HNZ : Hid ((numP n).length ≤ n + 1) := Lib.hid (numP_len n)
    have HPS : Hid (¬ 9223372036854775807 < (bs (numP (n / 10))).size + (bs [digQ (n % 10)]).size) := by show ¬ _; rw [bs_size, bs_size]; have := numP_len (n / 10); simp only [List.length_cons, List.length_nil]; omega
    have HN2 : Hid (bs (numP (n / 10)) ++ bs [digQ (n % 10)] = bs (numP n)) := by show _ = _; rw [hN]; exact bs_append _ _
    clear hN ih hHn
    go_enter Tryz.func28, Tryz.ntmps28
    go_upto_region 3 with fail
    refine wp_region_flags0 (nmJ n w _ _ _ _ _ _ _ _ _) (by kernel_rfl) 11 rfl (by kernel_rfl) ⟨false, false, false, false, false, false, false, false, false, false, false, w.heap.size, rfl, rfl, Lib.hid (by simp), belowN (Below.refl _ _) 1, by simp⟩ ?fin ?step
    case fin =>
     rintro a' w' ⟨f0, f1, f2, f3, f4, f5, f6, f7, f8, f9, f10, H, hl, rfl, a8, hB, h7⟩
     have hl' : [true, true, true, true, true, true, true, true, true, true, true] = [f0, f1, f2, f3, f4, f5, f6, f7, f8, f9, f10] := congrArg Array.toList hl
     simp only [List.cons.injEq, and_true] at hl'
     obtain ⟨rfl, rfl, rfl, rfl, rfl, rfl, rfl, rfl, rfl, rfl, rfl⟩ := hl'
     unfold nmUpd
     simp only [cond_true]
     go_wp2
     go_ret
     exact ⟨rfl, hB⟩
    case step =>
     rintro listed a' w' ⟨f0, f1, f2, f3, f4, f5, f6, f7, f8, f9, f10, H, rfl, rfl, a8, hB, h7⟩ i hi
     rw [mem_ready] at hi
     obtain ⟨hu, o, ho, ha⟩ := hi
     have hi8 : i < 11 := (Array.getElem?_eq_some_iff.1 ho).1
     rcases (by omega : i = 0 ∨ i = 1 ∨ i = 2 ∨ i = 3 ∨ i = 4 ∨ i = 5 ∨ i = 6 ∨ i = 7 ∨ i = 8 ∨ i = 9 ∨ i = 10) with rfl | rfl | rfl | rfl | rfl | rfl | rfl | rfl | rfl | rfl | rfl
     · have ho' := ho
       simp at hu ho
       subst hu ho
       clear ha
       have hS := hB.size
       refine .inl ?_
       unfold nmUpd Oper.wp
       go_simp
       exact ⟨true, f1, f2, f3, f4, f5, f6, f7, f8, f9, f10, H, rfl, rfl, a8, hB, h7⟩
     · have ho' := ho
       simp at hu ho
       subst hu ho
       simp [Region.binds] at ha
       obtain rfl : f0 = true := by simp only [ha]
       clear ha
       have hS := hB.size
       refine .inl ?_
       unfold nmUpd Oper.wp
       go_simp
       exact ⟨true, true, f2, f3, f4, f5, f6, f7, f8, f9, f10, H, rfl, rfl, a8, hB, h7⟩
     · have ho' := ho
       simp at hu ho
       subst hu ho
       simp [Region.binds] at ha
       obtain rfl : f1 = true := by simp only [ha]
       clear ha
       have hS := hB.size
       refine .inl ?_
       unfold nmUpd Oper.wp
       go_simp
       refine (HC.out w').mono ?_
       rintro e w1 ⟨rfl, hb⟩
       exact ⟨f0, true, true, f3, f4, f5, f6, f7, f8, f9, f10, H, rfl, rfl, a8, hB.trans (hb.mono hS), fun h => ⟨Nat.lt_of_lt_of_le (h7 h).1 hb.size, (hb.cell (by exact (h7 h).1)).trans (h7 h).2⟩⟩
     · have ho' := ho
       simp at hu ho
       subst hu ho
       clear ha
       have hS := hB.size
       refine .inl ?_
       unfold nmUpd Oper.wp
       go_simp
       exact ⟨f0, f1, f2, true, f4, f5, f6, f7, f8, f9, f10, H, rfl, rfl, a8, hB, h7⟩
     · have ho' := ho
       simp at hu ho
       subst hu ho
       simp [Region.binds] at ha
       obtain rfl : f3 = true := by simp only [ha]
       clear ha
       have hS := hB.size
       refine .inl ?_
       unfold nmUpd Oper.wp
       go_simp
       exact ⟨f0, f1, f2, true, true, f5, f6, f7, f8, f9, f10, H, rfl, rfl, a8, hB, h7⟩
     · have ho' := ho
       simp at hu ho
       subst hu ho
       simp [Region.binds] at ha
       obtain rfl : f4 = true := by simp only [ha]
       clear ha
       have hS := hB.size
       refine .inl ?_
       unfold nmUpd Oper.wp
       go_simp
       exact ⟨f0, f1, f2, f3, true, true, f6, f7, f8, f9, f10, H, rfl, rfl, a8, hB, h7⟩
     · have ho' := ho
       simp at hu ho
       subst hu ho
       simp [Region.binds] at ha
       obtain rfl : f5 = true := by simp only [ha]
       clear ha
       have hS := hB.size
       refine .inl ?_
       unfold nmUpd Oper.wp
       go_simp
       exact ⟨f0, f1, f2, f3, f4, true, true, f7, f8, f9, f10, H, rfl, rfl, a8, hB, h7⟩
     · have ho' := ho
       simp at hu ho
       subst hu ho
       simp [Region.binds] at ha
       obtain rfl : f6 = true := by simp only [ha]
       clear ha
       have hS := hB.size
       have e8 : f8 = false := Bool.eq_false_iff.2 fun h => Bool.false_ne_true (a8.out h)
       subst e8
       refine .inl ?_
       unfold nmUpd Oper.wp
       go_simp
       exact ⟨f0, f1, f2, f3, f4, f5, true, true, false, f9, f10, w'.heap.size, rfl, rfl, Lib.hid (by simp), hB.alloc hS _, fun _ => ⟨by simp, nm_cell w' _ _ _⟩⟩
     · have ho' := ho
       simp at hu ho
       subst hu ho
       simp [Region.binds] at ha
       obtain rfl : f7 = true := by simp only [ha]
       clear ha
       have hS := hB.size
       have kc := nm_conv w' H (n % 10) hr10 ((h7 rfl).2.trans (by rw [show (48 + (n : Int) % 10) = ((48 + n % 10 : Nat) : Int) from by omega]))
       refine .inl ?_
       unfold nmUpd Oper.wp
       go_simp
       exact ⟨f0, f1, f2, f3, f4, f5, f6, true, true, f9, f10, H, rfl, rfl, Lib.hid (by simp), hB, h7⟩
     · have ho' := ho
       simp at hu ho
       subst hu ho
       simp [Region.binds] at ha
       obtain rfl : f2 = true := by simp only [ha]
       obtain rfl : f8 = true := by simp only [ha]
       clear ha
       have hS := hB.size
       have hpn := HN2.out
       have hps := HPS.out
       refine .inl ?_
       unfold nmUpd Oper.wp
       go_simp
       exact ⟨f0, f1, true, f3, f4, f5, f6, f7, true, true, f10, H, rfl, rfl, a8, hB, h7⟩
     · have ho' := ho
       simp at hu ho
       subst hu ho
       simp [Region.binds] at ha
       obtain rfl : f9 = true := by simp only [ha]
       clear ha
       have hS := hB.size
       refine .inl ?_
       unfold nmUpd Oper.wp
       go_simp
       exact ⟨f0, f1, f2, f3, f4, f5, f6, f7, f8, true, true, H, rfl, rfl, a8, hB, h7⟩

end Go.Proofs.YtbbbfjcikhpmbaaGreat
