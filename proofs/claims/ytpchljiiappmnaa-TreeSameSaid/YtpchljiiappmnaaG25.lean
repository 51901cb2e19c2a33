/- Walks of the program's Same on trees, and of what it calls; their conditions stand in the theorems. -/
import Derived.Test.YtpchljiiappmnaaG21
import Derived.Test.YtpchljiiappmnaaG16
import Derived.Test.YtpchljiiappmnaaG23
import Derived.Deep.RegionHeld3
import Derived.Deep.DrawnRows
namespace Go.Proofs.Ytpchljiiappmnaa
open Go Go.RowKit

attribute [local go_sem ↓] eqg_attr neq_attr in
set_option maxRecDepth 100000 in
set_option maxHeartbeats 2000000 in
theorem equalAttrs_any (v1 v2 : Value) (a b : List At2) (w : World) (h1 : SliceOf 2 atC w v1 a) (h2 : SliceOf 2 atC w v2 b) :
    Calls Try.prog 69 #[v1, v2] w (Qt (.bool (decide (a = b))) w) := by
  obtain ⟨ao1, cap1, rfl, hl1, hm1, -⟩ := id h1
  obtain ⟨ao2, cap2, rfl, hl2, hm2, -⟩ := id h2
  have hla : a.length ≤ 9223372036854775807 := by unfold maxLen at hm1; omega
  have hlb : b.length ≤ 9223372036854775807 := by unfold maxLen at hm2; omega
  have H1 := Lib.hid h1
  have H2 := Lib.hid h2
  clear h1 h2 hl1 hl2 hm1 hm2
  by_cases hlen : a.length = b.length
  · have hne : ((a.length : Int) != (b.length : Int)) = false := by rw [hlen]; simp
    have HL := Lib.hid hlen
    clear hlen
    go_enter Try.func69, Try.ntmps69
    go_wp2_with fail
    clear hne
    go_loopw [5, 13] (fun _ i wr => ∃ k n : Nat, wr = w.drewN n ∧ k ≤ a.length ∧ i = .int .i64 k ∧ Hid (a.take k = b.take k)) (fun _ i _ => a.length - (intOf i).toNat)
    case atStart => exact ⟨0, 0, rfl, Nat.zero_le _, rfl, rfl⟩
    case round =>
      obtain ⟨k, n, rfl, hk, rfl, HT⟩ := hrel
      by_cases hlt : k < a.length
      · have hlt2 : k < b.length := by have := HL.out; omega
        obtain ⟨g1, o1, rfl, hg1, c1⟩ := H1.out.at hlt
        obtain ⟨g2, o2, rfl, hg2, c2⟩ := H2.out.at hlt2
        have d10 := c1 0 _ rfl
        have d11 := c1 1 _ rfl
        have d20 := c2 0 _ rfl
        have d21 := c2 1 _ rfl
        rw [Nat.add_zero] at d10 d20
        have hi1 : (k : Int) < (a.length : Int) := by omega
        have hi2 : (k : Int) < (b.length : Int) := by omega
        clear c1 c2
        go_wp2
        go_quiet (fail)
        go_wp2
        · rename_i hx
          go_ret
          refine ⟨ret_bool ?_, n + nq, by simp⟩
          symm
          rw [decide_eq_false_iff_not]
          intro e
          subst e
          simp at hx
        · rename_i hx
          go_roundw
          case rel =>
            refine ⟨k + 1, n + nq, rfl, hlt, by go_num, ?_⟩
            show _ = _
            rw [List.take_succ_eq_append_getElem hlt, List.take_succ_eq_append_getElem hlt2, HT.out]
            have : a[k] = b[k] := by
              simp at hx
              exact Prod.ext hx.1 hx.2
            rw [this]
          case measure => simp [intOf]; omega
      · obtain rfl : k = a.length := by omega
        go_wp2
        go_ret
        refine ⟨ret_bool ?_, n, rfl⟩
        symm
        rw [decide_eq_true_iff]
        have := HT.out
        rwa [List.take_length, HL.out, List.take_length] at this
  · have hne : ((a.length : Int) != (b.length : Int)) = true := by rw [bne_iff_ne]; omega
    have HL := Lib.hid hlen
    clear hlen
    go_enter Try.func69, Try.ntmps69
    go_wp2
    go_ret
    refine ⟨ret_bool ?_, 0, rfl⟩
    symm
    rw [decide_eq_false_iff_not]
    intro e
    exact HL.out (by rw [e])


/-- The function Same as a value. -/
def sameV : Value := .func (.func 46) #[] #[]
theorem kids_eq {a b : Tr} : a.kids = b.kids ↔ a.kids.length = b.kids.length ∧ ∀ k (h1 : k < a.kids.length) (h2 : k < b.kids.length), a.kids[k] = b.kids[k] :=
  ⟨fun h => ⟨by rw [h], fun k h1 h2 => by simp only [h]⟩, fun h => List.ext_getElem h.1 h.2⟩

set_option maxRecDepth 100000 in
set_option maxHeartbeats 8000000 in
theorem equalFunc_any (a b : Tr) (w : World) (av bv : Value) (ko lo' : Option Addr) (kc lc : Nat) (ha : NodeOf w a av (.slice ko a.kids.length kc)) (hb : NodeOf w b bv (.slice lo' b.kids.length lc))
    (HI : ∀ k (hk : k < a.kids.length) (hk2 : k < b.kids.length) (W' : World) (v1 v2 v3 v4 : Value), NodeOf W' a.kids[k] v1 v2 → NodeOf W' b.kids[k] v3 v4 → Calls Try.prog 46 #[nodeV a.kids[k] v1 v2, nodeV b.kids[k] v3 v4] W' (Says (a.kids[k] = b.kids[k]) W')) :
    Calls Try.prog 70 #[.slice ko a.kids.length kc, .slice lo' b.kids.length lc, sameV] w (Says (a.kids = b.kids) w) := by
  obtain ⟨_, _, _, _, -, -, -, hka⟩ := ha.shape
  obtain ⟨_, _, _, _, -, -, -, hkb⟩ := hb.shape
  have HA := Lib.hid ha
  have HB := Lib.hid hb
  have HII := Lib.hid HI
  have HKE : Hid (a.kids = b.kids ↔ a.kids.length = b.kids.length ∧ ∀ k (h1 : k < a.kids.length) (h2 : k < b.kids.length), a.kids[k] = b.kids[k]) := kids_eq
  clear ha hb HI
  unfold sameV
  by_cases h4 : a.kids.length = b.kids.length
  rotate_left
  · have h4I : ((a.kids.length : Int) == (b.kids.length : Int)) = false := beq_eq_false_iff_ne.2 (by omega)
    have h4J : ((a.kids.length : Int) != (b.kids.length : Int)) = true := by rw [bne, h4I]; rfl
    have H4 := Lib.hid h4
    clear h4
    go_enter Try.func70, Try.ntmps70
    go_wp2
    go_ret
    exact ⟨false, rfl, ⟨fun e => absurd e Bool.false_ne_true, fun e => absurd (HKE.out.1 e).1 H4.out⟩, Below.refl _ _⟩
  have h4I : ((a.kids.length : Int) == (b.kids.length : Int)) = true := by rw [h4]; simp
  have h4J : ((a.kids.length : Int) != (b.kids.length : Int)) = false := by rw [h4]; simp
  have H4 := Lib.hid h4
  clear h4
  go_enter Try.func70, Try.ntmps70
  go_wp2
  clear h4I h4J
  go_loopw [7, 17] (fun _ i wr => ∃ k : Nat, k ≤ a.kids.length ∧ i = .int .i64 k ∧ Hid (Below w.heap.size w wr ∧ ∀ q (h1 : q < a.kids.length) (h2 : q < b.kids.length), q < k → a.kids[q] = b.kids[q])) (fun _ i _ => a.kids.length - (intOf i).toNat)
  case atStart => exact ⟨0, Nat.zero_le _, rfl, Below.refl _ _, fun q _ _ h => absurd h (Nat.not_lt_zero q)⟩
  case round =>
    obtain ⟨k, hk, rfl, HR⟩ := hrel
    by_cases hlt : k < a.kids.length
    · have hlt2 : k < b.kids.length := by have := H4.out; omega
      obtain ⟨g, o, r1, r2, s1, s2, rfl, hg, -, c0, c1, c2, c3, hn1⟩ := (HA.out.later HR.out.1).at k hlt
      obtain ⟨g2, o2, r3, r4, s3, s4, rfl, hg2, -, d0, d1, d2, d3, hn2⟩ := (HB.out.later HR.out.1).at k hlt2
      have hki : (k : Int) < (a.kids.length : Int) := by omega
      have hki2 : (k : Int) < (b.kids.length : Int) := by omega
      have hk0 : (0 : Int) ≤ (k : Int) := by omega
      have HC : Hid (∀ o1 o2, Calls Try.prog 46 #[nodeV a.kids[k] (.slice r1 a.kids[k].attrs.length r2) (.slice s1 a.kids[k].kids.length s2), nodeV b.kids[k] (.slice r3 b.kids[k].attrs.length r4) (.slice s3 b.kids[k].kids.length s4)] ((wr.alloc o1).alloc o2) (Says (a.kids[k] = b.kids[k]) ((wr.alloc o1).alloc o2))) := fun o1 o2 =>
        HII.out k hlt hlt2 _ _ _ _ _ (hn1.later (((Below.refl _ _).alloc (Nat.le_refl _) _).alloc (by simp) _)) (hn2.later (((Below.refl _ _).alloc (Nat.le_refl _) _).alloc (by simp) _))
      have HBN : Hid (∀ o1 o2, Below w.heap.size w ((wr.alloc o1).alloc o2)) := fun o1 o2 => (HR.out.1.alloc HR.out.1.size _).alloc (by have := HR.out.1.size; simp; omega) _
      unfold nodeV at HC
      clear hn1 hn2
      generalize hya : a.kids[k] = ya at *
      generalize hyb : b.kids[k] = yb at *
      have HYA := Lib.hid hya
      have HYB := Lib.hid hyb
      clear hya hyb
      go_wp2_with fail
      refine (HC.out _ _).mono ?_
      rintro e w4 ⟨z, rfl, hz, hb4⟩
      have HBW := Lib.hid ((HBN.out _ _).trans (hb4.mono (HBN.out _ _).size))
      have HZ := Lib.hid hz
      clear hz hb4 HC HBN
      cases z with
      | false =>
        have HNE : Hid (¬ ya = yb) := fun e => by have := HZ.out.2 e; cases this
        go_wp2
        go_ret
        refine ⟨false, rfl, ⟨fun e => absurd e Bool.false_ne_true, fun e => ?_⟩, HBW.out⟩
        exact absurd (by rw [← HYA.out, ← HYB.out]; exact (HKE.out.1 e).2 k hlt hlt2) HNE.out
      | true =>
        have HE : Hid (ya = yb) := HZ.out.1 (by trivial)
        go_wp2
        go_roundw
        case rel => exact ⟨k + 1, hlt, by go_num, HBW.out, fun q h1 h2 h3 => by
          rcases Nat.lt_succ_iff_lt_or_eq.1 h3 with h | rfl
          · exact HR.out.2 q h1 h2 h
          · rw [HYA.out, HYB.out]; exact HE.out⟩
        case measure => simp [intOf]; omega
    · obtain rfl : k = a.kids.length := by omega
      go_wp2
      go_ret
      exact ⟨true, rfl, ⟨fun _ => HKE.out.2 ⟨H4.out, fun q h1 h2 => HR.out.2 q h1 h2 h1⟩, fun _ => rfl⟩, HR.out.1⟩

set_option maxRecDepth 100000 in
set_option maxHeartbeats 8000000 in
theorem treeSame_go : ∀ (n : Nat) (a b : Tr) (w : World) (av kv bv lv : Value), SizeOf.sizeOf a ≤ n → NodeOf w a av kv → NodeOf w b bv lv →
    Calls Try.prog 46 #[nodeV a av kv, nodeV b bv lv] w (Says (a = b) w)
  | 0, a, b, w, av, kv, bv, lv, hn, _, _ => by
    obtain ⟨n, l, k, x⟩ := a
    simp only [Tr.mk.sizeOf_spec] at hn
    omega
  | n + 1, a, b, w, av, kv, bv, lv, hn, ha, hb => by
    obtain ⟨ao, ac, ko, kc, rfl, rfl, -, -⟩ := ha.shape
    obtain ⟨bo, bc, lo', lc, rfl, rfl, -, -⟩ := hb.shape
    have hN := bs_beq2 a.name b.name
    have hT := bs_beq2 a.text b.text
    have HEQ : Hid (a = b ↔ a.name = b.name ∧ a.text = b.text ∧ a.attrs = b.attrs ∧ a.kids = b.kids) := tr_eq
    have HAB : Hid (∀ o1 o2, Below w.heap.size w ((w.alloc o1).alloc o2)) := fun o1 o2 => ((Below.refl _ w).alloc (Nat.le_refl _) _).alloc (by simp) _
    have HSA : Hid (∀ W, Below w.heap.size w W → Calls Try.prog 69 #[.slice ao a.attrs.length ac, .slice bo b.attrs.length bc] W (Qt (.bool (decide (a.attrs = b.attrs))) W)) := fun W hW => equalAttrs_any _ _ a.attrs b.attrs W (ha.att.below hW) (hb.att.below hW)
    have HEF : Hid (∀ W, Below w.heap.size w W → Calls Try.prog 70 #[.slice ko a.kids.length kc, .slice lo' b.kids.length lc, .func (.func 46) #[] #[]] W (Says (a.kids = b.kids) W)) := fun W hW => equalFunc_any a b W _ _ ko lo' kc lc (ha.later hW) (hb.later hW) (fun k hk hk2 W' v1 v2 v3 v4 h1 h2 => treeSame_go n _ _ W' v1 v2 v3 v4 (by have := kid_less hk; omega) h1 h2)
    clear ha hb hn
    unfold nodeV
    by_cases h1 : a.name = b.name
    rotate_left
    · rw [decide_eq_false h1] at hN
      have H1 := Lib.hid h1
      clear h1
      go_enter Try.func46, Try.ntmps46
      go_wp2
      go_ret
      exact ⟨false, rfl, by rw [HEQ.out]; exact ⟨fun e => absurd e Bool.false_ne_true, fun e => absurd e.1 H1.out⟩, HAB.out _ _⟩
    rw [decide_eq_true h1] at hN
    have H1 := Lib.hid h1
    clear h1
    by_cases h2 : a.text = b.text
    rotate_left
    · rw [decide_eq_false h2] at hT
      have H2 := Lib.hid h2
      clear h2
      go_enter Try.func46, Try.ntmps46
      go_wp2
      go_ret
      exact ⟨false, rfl, by rw [HEQ.out]; exact ⟨fun e => absurd e Bool.false_ne_true, fun e => absurd e.2.1 H2.out⟩, HAB.out _ _⟩
    rw [decide_eq_true h2] at hT
    have H2 := Lib.hid h2
    clear h2
    go_enter Try.func46, Try.ntmps46
    go_wp2_with fail
    refine (HSA.out _ (HAB.out _ _)).mono ?_
    rintro e w1 ⟨rfl, q, rfl⟩
    have hWb := belowN (HAB.out (.cells #[.string (bs a.name), .slice ao a.attrs.length ac, .slice ko a.kids.length kc, .string (bs a.text)] 54) (.cells #[.string (bs b.name), .slice bo b.attrs.length bc, .slice lo' b.kids.length lc, .string (bs b.text)] 54)) q
    have x0 : Box (((w.alloc (.cells #[.string (bs a.name), .slice ao a.attrs.length ac, .slice ko a.kids.length kc, .string (bs a.text)] 54)).alloc (.cells #[.string (bs b.name), .slice bo b.attrs.length bc, .slice lo' b.kids.length lc, .string (bs b.text)] 54)).drewN q) w.heap.size [.string (bs a.name), .slice ao a.attrs.length ac, .slice ko a.kids.length kc, .string (bs a.text)] := ((Box.new w _ _ _ rfl).alloc _).drewN q
    have x1 : Box (((w.alloc (.cells #[.string (bs a.name), .slice ao a.attrs.length ac, .slice ko a.kids.length kc, .string (bs a.text)] 54)).alloc (.cells #[.string (bs b.name), .slice bo b.attrs.length bc, .slice lo' b.kids.length lc, .string (bs b.text)] 54)).drewN q) (w.heap.size + 1) [.string (bs b.name), .slice bo b.attrs.length bc, .slice lo' b.kids.length lc, .string (bs b.text)] := (Box.new _ _ _ _ (by simp)).drewN q
    generalize (((w.alloc (.cells #[.string (bs a.name), .slice ao a.attrs.length ac, .slice ko a.kids.length kc, .string (bs a.text)] 54)).alloc (.cells #[.string (bs b.name), .slice bo b.attrs.length bc, .slice lo' b.kids.length lc, .string (bs b.text)] 54)).drewN q) = W at *
    have HW := Lib.hid hWb
    have a2 := x0.cell 2 _ rfl
    have b2 := x1.cell 2 _ rfl
    have al := x0.lt
    have bl := x1.lt
    clear hWb x0 x1 HAB HSA hN hT
    by_cases h3 : a.attrs = b.attrs
    rotate_left
    · have hd : decide (a.attrs = b.attrs) = false := decide_eq_false h3
      have H3 := Lib.hid h3
      clear h3
      rw [hd]
      go_wp2
      go_ret
      exact ⟨false, rfl, by rw [HEQ.out]; exact ⟨fun e => absurd e Bool.false_ne_true, fun e => absurd e.2.2.1 H3.out⟩, HW.out⟩
    have hd : decide (a.attrs = b.attrs) = true := decide_eq_true h3
    have H3 := Lib.hid h3
    clear h3
    rw [hd]
    clear hd
    go_wp2_with fail
    refine (HEF.out _ HW.out).mono ?_
    rintro e w2 ⟨z, rfl, hz, hb2⟩
    have HB2 := Lib.hid (HW.out.trans (hb2.mono HW.out.size))
    have HZ : Hid (z = true ↔ a = b) := by
      show _ ↔ _
      rw [HEQ.out, hz]
      exact ⟨fun h => ⟨H1.out, H2.out, H3.out, h⟩, fun h => h.2.2.2⟩
    clear hz hb2
    go_wp2
    go_ret
    exact ⟨z, rfl, HZ.out, HB2.out⟩
theorem treeSame_any (a b : Tr) (w : World) (av kv bv lv : Value) (ha : NodeOf w a av kv) (hb : NodeOf w b bv lv) : Calls Try.prog 46 #[nodeV a av kv, nodeV b bv lv] w (Says (a = b) w) := treeSame_go _ a b w av kv bv lv (Nat.le_refl _) ha hb

end Go.Proofs.Ytpchljiiappmnaa

/- The law TreeSame, walked; the conditions stand in the theorem. -/
namespace Go.Proofs.Ytpchljiiappmnaa
open Go Go.RowKit
attribute [local go_sem ↓] Go.wp_at_zero Go.wp_at_succ

theorem below_of_drew2 {w w' : World} (h : Below w.drew.heap.size w.drew w') : Below w.heap.size w w' := ⟨h.os, h.tape, h.output, h.size, fun k hk => h.block k hk⟩
theorem Says.q {p : Prop} {q : Bool} (hq : q = true ↔ p) {w : World} {e : Ending} {w' : World} (h : Says p w e w') : e = .returned (.bool q) ∧ Below w.heap.size w w' := by
  obtain ⟨z, rfl, hz, hb⟩ := h
  have : z = q := by
    cases z <;> cases q
    · rfl
    · have := hz.2 (hq.1 rfl); cases this
    · have := hq.2 (hz.1 rfl); cases this
    · rfl
  exact ⟨by rw [this], hb⟩

set_option maxRecDepth 100000 in
set_option maxHeartbeats 16000000 in
theorem treeSameLaw_any (a b : Tr) (mx : Int) (w : World) (av kv bv lv : Value) (ha : NodeOf w a av kv) (hb : NodeOf w b bv lv) (hm : w.cell? ⟨0, 0, none⟩ = some (.int .i64 mx)) :
    Calls Try.prog 15 #[nodeV a av kv, nodeV b bv lv] w fun e w' => e = .returned (.bool true) ∧ Below w.heap.size w w' := by
  have hw0 : 0 < w.heap.size := World.block_lt_of_cell? w _ hm
  obtain ⟨ao, ac, ak, al, rfl, rfl, -, -⟩ := ha.shape
  obtain ⟨bo, bc, bk, bl, rfl, rfl, -, -⟩ := hb.shape
  have HLV : Hid (∀ W, Below w.heap.size w W → Calls Try.prog 36 #[] W fun e w' => e = .returned (.bool true) ∧ Below W.heap.size W w') := fun W h => treeLives_any mx W ((h.cell (by exact hw0)).trans hm)
  have HLA : Hid (∀ W, Below w.heap.size w W → Calls Try.prog 37 #[.agg #[.string (bs a.name), .slice ao a.attrs.length ac, .slice ak a.kids.length al, .string (bs a.text)]] W fun e w' => Below W.heap.size W w' ∧ ∃ b : Bool, e = .returned (.bool b) ∧ (b = true → LightT a ∧ a.cnt ≤ 300)) := fun W h => lightTop_any a W _ _ (ha.later h)
  have HLB : Hid (∀ W, Below w.heap.size w W → Calls Try.prog 37 #[.agg #[.string (bs b.name), .slice bo b.attrs.length bc, .slice bk b.kids.length bl, .string (bs b.text)]] W fun e w' => Below W.heap.size W w' ∧ ∃ z : Bool, e = .returned (.bool z) ∧ (z = true → LightT b ∧ b.cnt ≤ 300)) := fun W h => lightTop_any b W _ _ (hb.later h)
  have hq : ∃ q : Bool, q = true ↔ a = b := by
    by_cases h : a = b
    · exact ⟨true, fun _ => h, fun _ => rfl⟩
    · exact ⟨false, fun e => absurd e Bool.false_ne_true, fun e => absurd e h⟩
  obtain ⟨q, hq⟩ := hq
  have H1 : Hid (∀ V, Below w.heap.size w V → (Calls Try.prog 46 #[.agg #[.string (bs a.name), .slice ao a.attrs.length ac, .slice ak a.kids.length al, .string (bs a.text)], .agg #[.string (bs b.name), .slice bo b.attrs.length bc, .slice bk b.kids.length bl, .string (bs b.text)]] V fun e w' => e = .returned (.bool q) ∧ Below V.heap.size V w')) := fun V h => (treeSame_any a b V _ _ _ _ (ha.later h) (hb.later h)).mono fun e w' h => h.q hq
  have H2 : Hid (∀ V, Below w.heap.size w V → (Calls Try.prog 35 #[.agg #[.string (bs a.name), .slice ao a.attrs.length ac, .slice ak a.kids.length al, .string (bs a.text)], .agg #[.string (bs b.name), .slice bo b.attrs.length bc, .slice bk b.kids.length bl, .string (bs b.text)]] V fun e w' => e = .returned (.bool q) ∧ Below V.heap.size V w')) := fun V h => (refSame_any _ a b V _ _ _ _ (Nat.le_refl _) (ha.later h) (hb.later h)).mono fun e w' h => h.q hq
  have H3 : Hid (∀ V, Below w.heap.size w V → (Calls Try.prog 46 #[.agg #[.string (bs a.name), .slice ao a.attrs.length ac, .slice ak a.kids.length al, .string (bs a.text)], .agg #[.string (bs a.name), .slice ao a.attrs.length ac, .slice ak a.kids.length al, .string (bs a.text)]] V fun e w' => e = .returned (.bool true) ∧ Below V.heap.size V w')) := fun V h => (treeSame_any a a V _ _ _ _ (ha.later h) (ha.later h)).mono fun e w' h => h.q (q := true) ⟨fun _ => rfl, fun _ => rfl⟩
  have H4 : Hid (∀ V, Below w.heap.size w V → (Calls Try.prog 46 #[.agg #[.string (bs b.name), .slice bo b.attrs.length bc, .slice bk b.kids.length bl, .string (bs b.text)], .agg #[.string (bs a.name), .slice ao a.attrs.length ac, .slice ak a.kids.length al, .string (bs a.text)]] V fun e w' => e = .returned (.bool q) ∧ Below V.heap.size V w')) := fun V h => (treeSame_any b a V _ _ _ _ (hb.later h) (ha.later h)).mono fun e w' h => h.q (q := q) (hq.trans ⟨Eq.symm, Eq.symm⟩)
  clear ha hb hm hq
  unfold nodeV
  go_enter Try.func15, Try.ntmps15
  go_wp2_with fail
  refine Calls.world ?_
  intro W0 hW0
  have hb0 : Below w.heap.size w W0 := by rw [hW0]; exact ((Below.refl _ w).alloc (Nat.le_refl _) _).alloc (by simp) _
  have xa : Box W0 w.heap.size [.string (bs a.name), .slice ao a.attrs.length ac, .slice ak a.kids.length al, .string (bs a.text)] := by rw [hW0]; exact (Box.new w _ _ _ rfl).alloc _
  have xb : Box W0 (w.heap.size + 1) [.string (bs b.name), .slice bo b.attrs.length bc, .slice bk b.kids.length bl, .string (bs b.text)] := by rw [hW0]; exact Box.new _ _ _ _ (by simp)
  clear hW0
  refine (HLA.out _ hb0).mono ?_
  rintro e w1 ⟨hb1, z, rfl, hz⟩
  have hB1 := hb0.trans (hb1.mono hb0.size)
  have xb1 := xb.below hb1 xb.lt
  have HXA := Lib.hid (xa.below hb1 xa.lt)
  have HXB := Lib.hid xb1
  have HB1 := Lib.hid hB1
  clear hz hb0 hb1 xa xb hB1
  have y0 := xb1.cell 0 _ rfl
  have y1 := xb1.cell 1 _ rfl
  have y2 := xb1.cell 2 _ rfl
  have y3 := xb1.cell 3 _ rfl
  have yl := xb1.lt
  clear xb1
  cases z with
  | false =>
    go_wp2_with fail
    refine (HLV.out _ HB1.out).mono ?_
    rintro e w2 ⟨rfl, hb2⟩
    have HB2 := Lib.hid (HB1.out.trans (hb2.mono HB1.out.size))
    clear hb2
    go_wp2
    go_ret
    exact ⟨rfl, HB2.out⟩
  | true =>
    go_wp2_with fail
    refine (HLB.out _ HB1.out).mono ?_
    rintro e w2 ⟨hb2, z2, rfl, -⟩
    have HB2 := Lib.hid (HB1.out.trans (hb2.mono HB1.out.size))
    have xa := HXA.out.below hb2 HXA.out.lt
    have xb := HXB.out.below hb2 HXB.out.lt
    clear hb2 y0 y1 y2 y3 yl HXA HXB HB1
    cases z2 with
    | false =>
      clear xa xb
      go_wp2_with fail
      refine (HLV.out _ HB2.out).mono ?_
      rintro e w3 ⟨rfl, hb3⟩
      have HB3 := Lib.hid (HB2.out.trans (hb3.mono HB2.out.size))
      clear hb3
      go_wp2
      go_ret
      exact ⟨rfl, HB3.out⟩
    | true =>
      have hB2 := HB2.out
      have y0 := xa.cell 0 _ rfl
      have y1 := xa.cell 1 _ rfl
      have y2 := xa.cell 2 _ rfl
      have y3 := xa.cell 3 _ rfl
      have yl := xa.lt
      have z0 := xb.cell 0 _ rfl
      have z1 := xb.cell 1 _ rfl
      have z2 := xb.cell 2 _ rfl
      have z3 := xb.cell 3 _ rfl
      have zl := xb.lt
      clear xa xb HB2 HLA HLB
      have HBD : Hid (Below w.heap.size w w2.drew) := belowN hB2 1
      have HBB := Lib.hid hB2
      clear hB2
      cases q
      all_goals
        go_wp2
        go_region_held3 (fun w' => ∀ b o, b < w2.heap.size → w'.cell? ⟨b, o, none⟩ = w2.cell? ⟨b, o, none⟩) (first | (intro b o h; rfl) | exact fun b o h => hb3.cell h | exact fun b o h => hb4.cell h | exact fun b o h => hb5.cell h | exact fun b o h => hb6.cell h | exact fun b o h => hb7.cell h | exact fun b o h => hb8.cell h) (first | (have _x := hb7; go_at_call 36; refine (HLV.out _ hB7).mono ?_; rintro e w8 ⟨rfl, hb8'⟩; have hb8 := hb7.trans (hb8'.mono hb7.size); have hB8 := hB7.trans (hb8'.mono hB7.size)) | (have _x := hb6; go_at_call 46; refine (H1.out _ hB6).mono ?_; rintro e w7 ⟨rfl, hb7'⟩; have hb7 := hb6.trans (hb7'.mono hb6.size); have hB7 := hB6.trans (hb7'.mono hB6.size)) | (have _x := hb5; go_at_call 46; refine (H4.out _ hB5).mono ?_; rintro e w6 ⟨rfl, hb6'⟩; have hb6 := hb5.trans (hb6'.mono hb5.size); have hB6 := hB5.trans (hb6'.mono hB5.size)) | (have _x := hb4; go_at_call 46; refine (H3.out _ hB4).mono ?_; rintro e w5 ⟨rfl, hb5'⟩; have hb5 := hb4.trans (hb5'.mono hb4.size); have hB5 := hB4.trans (hb5'.mono hB4.size)) | (have _x := hb3; go_at_call 35; refine (H2.out _ hB3).mono ?_; rintro e w4 ⟨rfl, hb4'⟩; have hb4 := hb3.trans (hb4'.mono hb3.size); have hB4 := hB3.trans (hb4'.mono hB3.size)) | (go_at_call 46; refine (H1.out _ HBD.out).mono ?_; rintro e w3 ⟨rfl, hb3'⟩; have hb3 := below_of_drew2 hb3'; have hB3 := HBB.out.trans (hb3.mono HBB.out.size)))
        go_wp2
        go_ret
        exact ⟨rfl, hB8⟩

end Go.Proofs.Ytpchljiiappmnaa
