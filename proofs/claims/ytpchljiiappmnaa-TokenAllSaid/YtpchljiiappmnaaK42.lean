/- Walks of the document's SameAttrs and Same; the conditions stand in the theorems. -/
import Derived.Test.YtpchljiiappmnaaK19
namespace Go.Proofs.Ytpchljiiappmnaa
open Go Go.RowKit

theorem SliceOf.drewN {α : Type} {n : Nat} {C : α → List Value} {w : World} {v : Value} {l : List α} (h : SliceOf n C w v l) (k : Nat) : SliceOf n C (w.drewN k) v l :=
  h.below (belowN (Below.refl _ _) k)

/-- A slice value that reads as a list of tokens, their places aside. -/
def TksOf (w : World) (v : Value) (ts : List Tk) : Prop := ∃ L : List TkM, SliceOf 7 tkC w v L ∧ (∀ x ∈ L, SliceOf 2 atC w x.av x.t.attrs) ∧ L.map (·.t) = ts
theorem TksOf.below {w w' : World} {v : Value} {ts : List Tk} (h : TksOf w v ts) (hb : Below w.heap.size w w') : TksOf w' v ts := by
  obtain ⟨L, h1, h2, h3⟩ := h
  exact ⟨L, h1.below hb, fun x hx => (h2 x hx).below hb, h3⟩
theorem TksOf.drewN {w : World} {v : Value} {ts : List Tk} (h : TksOf w v ts) (k : Nat) : TksOf (w.drewN k) v ts := h.below (belowN (Below.refl _ _) k)
theorem TksOf.shape {w : World} {v : Value} {ts : List Tk} (h : TksOf w v ts) : ∃ ao cap, v = .slice ao ts.length cap ∧ ts.length ≤ maxLen := by
  obtain ⟨L, h1, h2, rfl⟩ := h
  obtain ⟨ao, cap, h3, h4, h5, -⟩ := h1
  exact ⟨ao, cap, by simpa using h3, by simpa using Nat.le_trans h4 h5⟩
theorem TksOf.at {w : World} {ao : Option Addr} {len cap : Nat} {ts : List Tk} (h : TksOf w (.slice ao len cap) ts) {k : Nat} (hk : k < ts.length) :
    ∃ g o av, ao = some ⟨g, o, none⟩ ∧ g < w.heap.size ∧ w.cell? ⟨g, o + k * 7, none⟩ = some (.int .i64 ts[k].kind) ∧ w.cell? ⟨g, o + k * 7 + 1, none⟩ = some (.string (bs ts[k].name)) ∧ w.cell? ⟨g, o + k * 7 + 2, none⟩ = some av ∧ w.cell? ⟨g, o + k * 7 + 3, none⟩ = some (.string (bs ts[k].text)) ∧ SliceOf 2 atC w av ts[k].attrs := by
  obtain ⟨L, h1, h2, rfl⟩ := h
  have hk' : k < L.length := by simpa using hk
  obtain ⟨g, o, ha, hg, hc⟩ := h1.at hk'
  have e : (L.map (·.t))[k] = L[k].t := by simp
  refine ⟨g, o, L[k].av, ha, hg, ?_, ?_, hc 2 _ rfl, ?_, ?_⟩
  · rw [e]; simpa using hc 0 _ rfl
  · rw [e]; exact hc 1 _ rfl
  · rw [e]; exact hc 3 _ rfl
  · rw [e]; exact h2 _ (List.getElem_mem hk')

theorem bs_beq (a b : Bs) : ((bs a).toList == (bs b).toList) = decide (a = b) := by
  rw [ByteArray.toList_eq, ByteArray.toList_eq, bs_data, bs_data, Bool.eq_iff_iff]; simp
theorem eqg_attr : Try.prog.eqGuardType Try.prog.depth 43 = false := by kernel_rfl
theorem eqs_attr : Try.prog.stoodInHeld 43 = false := by kernel_rfl
theorem neq_attr (a0 a1 b0 b1 : Bs) (w : World) : (binOp .neq 43 (.agg #[.string (bs a0), .string (bs a1)]) (.agg #[.string (bs b0), .string (bs b1)])).run Try.prog w = .ok (.bool (!decide ((a0, a1) = (b0, b1)))) w := by
  have h := eqs_attr
  by_cases h0 : a0 = b0 <;> by_cases h1 : a1 = b1 <;> simp [go_sem, h, h0, h1, bs_beq]

attribute [local go_sem ↓] eqg_attr neq_attr in
set_option maxRecDepth 100000 in
set_option maxHeartbeats 2000000 in
theorem sameAttrs_any (v1 v2 : Value) (a b : List At2) (w : World) (h1 : SliceOf 2 atC w v1 a) (h2 : SliceOf 2 atC w v2 b) :
    Calls Try.prog 57 #[v1, v2] w (Qt (.bool (decide (a = b))) w) := by
  obtain ⟨ao1, cap1, rfl, hl1, hm1, -⟩ := id h1
  obtain ⟨ao2, cap2, rfl, hl2, hm2, -⟩ := id h2
  have hla : a.length ≤ 9223372036854775807 := by unfold maxLen at hm1; omega
  have hlb : b.length ≤ 9223372036854775807 := by unfold maxLen at hm2; omega
  have H1 := Lib.hid h1
  have H2 := Lib.hid h2
  clear h1 h2 hl1 hl2 hm1 hm2
  by_cases hlen : a.length = b.length
  · have hne : ((a.length : Int) != (b.length : Int)) = false := by rw [hlen]; simp
    have HL := Lib.hid hlen
    clear hlen
    go_enter Try.func57, Try.ntmps57
    go_wp2_with fail
    clear hne
    go_loopw [5, 13] (fun _ i wr => ∃ k n : Nat, wr = w.drewN n ∧ k ≤ a.length ∧ i = .int .i64 k ∧ Hid (a.take k = b.take k)) (fun _ i _ => a.length - (intOf i).toNat)
    case atStart => exact ⟨0, 0, rfl, Nat.zero_le _, rfl, rfl⟩
    case round =>
      obtain ⟨k, n, rfl, hk, rfl, HT⟩ := hrel
      by_cases hlt : k < a.length
      · have hlt2 : k < b.length := by have := HL.out; omega
        obtain ⟨g1, o1, rfl, hg1, c1⟩ := H1.out.at hlt
        obtain ⟨g2, o2, rfl, hg2, c2⟩ := H2.out.at hlt2
        have d10 := c1 0 _ rfl
        have d11 := c1 1 _ rfl
        have d20 := c2 0 _ rfl
        have d21 := c2 1 _ rfl
        rw [Nat.add_zero] at d10 d20
        have hi1 : (k : Int) < (a.length : Int) := by omega
        have hi2 : (k : Int) < (b.length : Int) := by omega
        clear c1 c2
        go_wp2
        go_quiet (fail)
        go_wp2
        · rename_i hx
          go_ret
          refine ⟨ret_bool ?_, n + nq, by simp⟩
          symm
          rw [decide_eq_false_iff_not]
          intro e
          subst e
          simp at hx
        · rename_i hx
          go_roundw
          case rel =>
            refine ⟨k + 1, n + nq, rfl, hlt, by go_num, ?_⟩
            show _ = _
            rw [List.take_succ_eq_append_getElem hlt, List.take_succ_eq_append_getElem hlt2, HT.out]
            have : a[k] = b[k] := by
              simp at hx
              exact Prod.ext hx.1 hx.2
            rw [this]
          case measure => simp [intOf]; omega
      · obtain rfl : k = a.length := by omega
        go_wp2
        go_ret
        refine ⟨ret_bool ?_, n, rfl⟩
        symm
        rw [decide_eq_true_iff]
        have := HT.out
        rwa [List.take_length, HL.out, List.take_length] at this
  · have hne : ((a.length : Int) != (b.length : Int)) = true := by rw [bne_iff_ne]; omega
    have HL := Lib.hid hlen
    clear hlen
    go_enter Try.func57, Try.ntmps57
    go_wp2
    go_ret
    refine ⟨ret_bool ?_, 0, rfl⟩
    symm
    rw [decide_eq_false_iff_not]
    intro e
    exact HL.out (by rw [e])

/-- Are two tokens the same, their places aside? In the order in which the document asks. -/
theorem tk_ne {x y : Tk} (h : x ≠ y) : x.kind ≠ y.kind ∨ (x.kind = y.kind ∧ x.name ≠ y.name) ∨ (x.kind = y.kind ∧ x.name = y.name ∧ x.text ≠ y.text) ∨ (x.kind = y.kind ∧ x.name = y.name ∧ x.text = y.text ∧ x.attrs ≠ y.attrs) := by
  by_cases h1 : x.kind = y.kind
  · by_cases h2 : x.name = y.name
    · by_cases h3 : x.text = y.text
      · by_cases h4 : x.attrs = y.attrs
        · exact absurd (by cases x; cases y; simp_all) h
        · exact .inr (.inr (.inr ⟨h1, h2, h3, h4⟩))
      · exact .inr (.inr (.inl ⟨h1, h2, h3⟩))
    · exact .inr (.inl ⟨h1, h2⟩)
  · exact .inl h1
theorem bs_bne (a b : Bs) : ((bs a).toList != (bs b).toList) = !decide (a = b) := by rw [bne, bs_beq]

set_option maxRecDepth 100000 in
set_option maxHeartbeats 4000000 in
theorem same_any (v1 v2 : Value) (ts us : List Tk) (w : World) (h1 : TksOf w v1 ts) (h2 : TksOf w v2 us) :
    Calls Try.prog 22 #[v1, v2] w (Qt (.bool (decide (ts = us))) w) := by
  obtain ⟨ao1, cap1, rfl, hm1⟩ := h1.shape
  obtain ⟨ao2, cap2, rfl, hm2⟩ := h2.shape
  have hla : ts.length ≤ 9223372036854775807 := by unfold maxLen at hm1; omega
  have hlb : us.length ≤ 9223372036854775807 := by unfold maxLen at hm2; omega
  have H1 := Lib.hid h1
  have H2 := Lib.hid h2
  clear h1 h2 hm1 hm2
  by_cases hlen : ts.length = us.length
  · have hne : ((ts.length : Int) != (us.length : Int)) = false := by rw [hlen]; simp
    have HL := Lib.hid hlen
    clear hlen
    go_enter Try.func22, Try.ntmps22
    go_wp2_with fail
    clear hne
    go_loopw [5, 13] (fun _ i wr => ∃ k n : Nat, wr = w.drewN n ∧ k ≤ ts.length ∧ i = .int .i64 k ∧ Hid (ts.take k = us.take k)) (fun _ i _ => ts.length - (intOf i).toNat)
    case atStart => exact ⟨0, 0, rfl, Nat.zero_le _, rfl, rfl⟩
    case round =>
      obtain ⟨k, n, hwr, hk, rfl, HT⟩ := hrel
      have HW := Lib.hid hwr
      have h1r : TksOf wr (.slice ao1 ts.length cap1) ts := by rw [hwr]; exact H1.out.drewN n
      have h2r : TksOf wr (.slice ao2 us.length cap2) us := by rw [hwr]; exact H2.out.drewN n
      clear hwr
      by_cases hlt : k < ts.length
      · have hlt2 : k < us.length := by have := HL.out; omega
        obtain ⟨g1, o1, av1, rfl, hg1, c10, c11, c12, c13, hA1⟩ := h1r.at hlt
        obtain ⟨g2, o2, av2, rfl, hg2, c20, c21, c22, c23, hA2⟩ := h2r.at hlt2
        clear h1r h2r
        have hi1 : (k : Int) < (ts.length : Int) := by omega
        have hi2 : (k : Int) < (us.length : Int) := by omega
        obtain ⟨aa1, ca1, rfl⟩ := hA1.shape
        obtain ⟨aa2, ca2, rfl⟩ := hA2.shape
        have HSA : Hid (∀ j, Calls Try.prog 57 #[.slice aa1 ts[k].attrs.length ca1, .slice aa2 us[k].attrs.length ca2] (wr.drewN j) fun e w'' => e = .returned (.bool (decide (ts[k].attrs = us[k].attrs))) ∧ ∃ m, w'' = wr.drewN m) := fun j => Qt.quiet (sameAttrs_any _ _ _ _ (wr.drewN j) (hA1.drewN j) (hA2.drewN j))
        have HTS : Hid (∀ e : ts[k] = us[k], ts.take (k + 1) = us.take (k + 1)) := fun e => by
          rw [List.take_succ_eq_append_getElem hlt, List.take_succ_eq_append_getElem hlt2, HT.out, e]
        have HNE : Hid (ts[k] ≠ us[k] → ts ≠ us) := fun h e => h (by subst e; rfl)
        clear hA1 hA2
        generalize ts[k] = x at *
        generalize us[k] = y at *
        by_cases he : x = y
        · subst he
          have HSB : Hid (∀ j, Calls Try.prog 57 #[.slice aa1 x.attrs.length ca1, .slice aa2 x.attrs.length ca2] (wr.drewN j) fun e w'' => e = .returned (.bool true) ∧ ∃ m, w'' = wr.drewN m) := fun j => by rw [← decide_eq_true (show x.attrs = x.attrs from rfl)]; exact HSA.out j
          clear HSA
          go_wp2
          go_quiet ((go_at_call 57; exact HSB.out _))
          go_wp2
          go_roundw
          case rel => exact ⟨k + 1, n + nq, by rw [HW.out]; simp, hlt, by go_num, HTS.out (by simp)⟩
          case measure => simp [intOf]; omega
        · have HN := Lib.hid (HNE.out he)
          have hcs := tk_ne he
          clear he HTS HNE
          rcases hcs with h | ⟨h0, h⟩ | ⟨h0, h1, h⟩ | ⟨h0, h1, h2, h⟩
          · have e0 : (x.kind != y.kind) = true := by rw [bne_iff_ne]; exact h
            clear h HSA
            go_wp2
            go_quiet (fail)
            go_wp2
            go_ret
            exact ⟨ret_bool (decide_eq_false HN.out).symm, n + nq, by rw [HW.out]; simp⟩
          · have e0 : (x.kind != y.kind) = false := by rw [h0]; simp
            have e1 : ((bs x.name).toList == (bs y.name).toList) = false := by rw [bs_beq]; simpa using h
            clear h h0 HSA
            go_wp2
            go_quiet (fail)
            go_wp2
            go_ret
            exact ⟨ret_bool (decide_eq_false HN.out).symm, n + nq, by rw [HW.out]; simp⟩
          · have e0 : (x.kind != y.kind) = false := by rw [h0]; simp
            have e1 : ((bs x.name).toList == (bs y.name).toList) = true := by rw [bs_beq]; simpa using h1
            have e2 : ((bs x.text).toList == (bs y.text).toList) = false := by rw [bs_beq]; simpa using h
            clear h h0 h1 HSA
            go_wp2
            go_quiet (fail)
            go_wp2
            go_ret
            exact ⟨ret_bool (decide_eq_false HN.out).symm, n + nq, by rw [HW.out]; simp⟩
          · have e0 : (x.kind != y.kind) = false := by rw [h0]; simp
            have e1 : ((bs x.name).toList == (bs y.name).toList) = true := by rw [bs_beq]; simpa using h1
            have e2 : ((bs x.text).toList == (bs y.text).toList) = true := by rw [bs_beq]; simpa using h2
            have HSB : Hid (∀ j, Calls Try.prog 57 #[.slice aa1 x.attrs.length ca1, .slice aa2 y.attrs.length ca2] (wr.drewN j) fun e w'' => e = .returned (.bool false) ∧ ∃ m, w'' = wr.drewN m) := fun j => by rw [← decide_eq_false h]; exact HSA.out j
            clear h h0 h1 h2 HSA
            go_wp2
            go_quiet ((go_at_call 57; exact HSB.out _))
            go_wp2
            go_ret
            exact ⟨ret_bool (decide_eq_false HN.out).symm, n + nq, by rw [HW.out]; simp⟩
      · obtain rfl : k = ts.length := by omega
        go_wp2
        go_ret
        refine ⟨ret_bool ?_, n, HW.out⟩
        symm
        rw [decide_eq_true_iff]
        have := HT.out
        rwa [List.take_length, HL.out, List.take_length] at this
  · have hne : ((ts.length : Int) != (us.length : Int)) = true := by rw [bne_iff_ne]; omega
    have HL := Lib.hid hlen
    clear hlen
    go_enter Try.func22, Try.ntmps22
    go_wp2
    go_ret
    refine ⟨ret_bool ?_, 0, rfl⟩
    symm
    rw [decide_eq_false_iff_not]
    intro e
    exact HL.out (by rw [e])

end Go.Proofs.Ytpchljiiappmnaa
