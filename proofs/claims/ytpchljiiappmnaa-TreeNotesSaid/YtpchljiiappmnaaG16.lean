/- Walks of the document's SameAttrs and Same; the conditions stand in the theorems. -/
import Derived.Test.YtpchljiiappmnaaG9
import Derived.Test.YtpchljiiappmnaaG14
namespace Go.Proofs.Ytpchljiiappmnaa
open Go Go.RowKit

theorem SliceOf.drewN {α : Type} {n : Nat} {C : α → List Value} {w : World} {v : Value} {l : List α} (h : SliceOf n C w v l) (k : Nat) : SliceOf n C (w.drewN k) v l :=
  h.below (belowN (Below.refl _ _) k)

/-- A slice value that reads as a list of tokens, their places aside. -/
def TksOf (w : World) (v : Value) (ts : List Tk) : Prop := ∃ L : List TkM, SliceOf 7 tkC w v L ∧ (∀ x ∈ L, SliceOf 2 atC w x.av x.t.attrs) ∧ L.map (·.t) = ts
theorem TksOf.below {w w' : World} {v : Value} {ts : List Tk} (h : TksOf w v ts) (hb : Below w.heap.size w w') : TksOf w' v ts := by
  obtain ⟨L, h1, h2, h3⟩ := h
  exact ⟨L, h1.below hb, fun x hx => (h2 x hx).below hb, h3⟩
theorem TksOf.drewN {w : World} {v : Value} {ts : List Tk} (h : TksOf w v ts) (k : Nat) : TksOf (w.drewN k) v ts := h.below (belowN (Below.refl _ _) k)
theorem TksOf.shape {w : World} {v : Value} {ts : List Tk} (h : TksOf w v ts) : ∃ ao cap, v = .slice ao ts.length cap ∧ ts.length ≤ maxLen := by
  obtain ⟨L, h1, h2, rfl⟩ := h
  obtain ⟨ao, cap, h3, h4, h5, -⟩ := h1
  exact ⟨ao, cap, by simpa using h3, by simpa using Nat.le_trans h4 h5⟩
theorem TksOf.at {w : World} {ao : Option Addr} {len cap : Nat} {ts : List Tk} (h : TksOf w (.slice ao len cap) ts) {k : Nat} (hk : k < ts.length) :
    ∃ g o av, ao = some ⟨g, o, none⟩ ∧ g < w.heap.size ∧ w.cell? ⟨g, o + k * 7, none⟩ = some (.int .i64 ts[k].kind) ∧ w.cell? ⟨g, o + k * 7 + 1, none⟩ = some (.string (bs ts[k].name)) ∧ w.cell? ⟨g, o + k * 7 + 2, none⟩ = some av ∧ w.cell? ⟨g, o + k * 7 + 3, none⟩ = some (.string (bs ts[k].text)) ∧ SliceOf 2 atC w av ts[k].attrs := by
  obtain ⟨L, h1, h2, rfl⟩ := h
  have hk' : k < L.length := by simpa using hk
  obtain ⟨g, o, ha, hg, hc⟩ := h1.at hk'
  have e : (L.map (·.t))[k] = L[k].t := by simp
  refine ⟨g, o, L[k].av, ha, hg, ?_, ?_, hc 2 _ rfl, ?_, ?_⟩
  · rw [e]; simpa using hc 0 _ rfl
  · rw [e]; exact hc 1 _ rfl
  · rw [e]; exact hc 3 _ rfl
  · rw [e]; exact h2 _ (List.getElem_mem hk')

theorem bs_beq (a b : Bs) : ((bs a).toList == (bs b).toList) = decide (a = b) := by
  rw [ByteArray.toList_eq, ByteArray.toList_eq, bs_data, bs_data, Bool.eq_iff_iff]; simp
theorem eqg_attr : Try.prog.eqGuardType Try.prog.depth 43 = false := by kernel_rfl
theorem eqs_attr : Try.prog.stoodInHeld 43 = false := by kernel_rfl
theorem neq_attr (a0 a1 b0 b1 : Bs) (w : World) : (binOp .neq 43 (.agg #[.string (bs a0), .string (bs a1)]) (.agg #[.string (bs b0), .string (bs b1)])).run Try.prog w = .ok (.bool (!decide ((a0, a1) = (b0, b1)))) w := by
  have h := eqs_attr
  by_cases h0 : a0 = b0 <;> by_cases h1 : a1 = b1 <;> simp [go_sem, h, h0, h1, bs_beq]

attribute [local go_sem ↓] eqg_attr neq_attr in
set_option maxRecDepth 100000 in
set_option maxHeartbeats 2000000 in
theorem sameAttrs_any (v1 v2 : Value) (a b : List At2) (w : World) (h1 : SliceOf 2 atC w v1 a) (h2 : SliceOf 2 atC w v2 b) :
    Calls Try.prog 57 #[v1, v2] w (Qt (.bool (decide (a = b))) w) := by
  obtain ⟨ao1, cap1, rfl, hl1, hm1, -⟩ := id h1
  obtain ⟨ao2, cap2, rfl, hl2, hm2, -⟩ := id h2
  have hla : a.length ≤ 9223372036854775807 := by unfold maxLen at hm1; omega
  have hlb : b.length ≤ 9223372036854775807 := by unfold maxLen at hm2; omega
  have H1 := Lib.hid h1
  have H2 := Lib.hid h2
  clear h1 h2 hl1 hl2 hm1 hm2
  by_cases hlen : a.length = b.length
  · have hne : ((a.length : Int) != (b.length : Int)) = false := by rw [hlen]; simp
    have HL := Lib.hid hlen
    clear hlen
    go_enter Try.func57, Try.ntmps57
    go_wp2_with fail
    clear hne
    go_loopw [5, 13] (fun _ i wr => ∃ k n : Nat, wr = w.drewN n ∧ k ≤ a.length ∧ i = .int .i64 k ∧ Hid (a.take k = b.take k)) (fun _ i _ => a.length - (intOf i).toNat)
    case atStart => exact ⟨0, 0, rfl, Nat.zero_le _, rfl, rfl⟩
    case round =>
      obtain ⟨k, n, rfl, hk, rfl, HT⟩ := hrel
      by_cases hlt : k < a.length
      · have hlt2 : k < b.length := by have := HL.out; omega
        obtain ⟨g1, o1, rfl, hg1, c1⟩ := H1.out.at hlt
        obtain ⟨g2, o2, rfl, hg2, c2⟩ := H2.out.at hlt2
        have d10 := c1 0 _ rfl
        have d11 := c1 1 _ rfl
        have d20 := c2 0 _ rfl
        have d21 := c2 1 _ rfl
        rw [Nat.add_zero] at d10 d20
        have hi1 : (k : Int) < (a.length : Int) := by omega
        have hi2 : (k : Int) < (b.length : Int) := by omega
        clear c1 c2
        go_wp2
        go_quiet (fail)
        go_wp2
        · rename_i hx
          go_ret
          refine ⟨ret_bool ?_, n + nq, by simp⟩
          symm
          rw [decide_eq_false_iff_not]
          intro e
          subst e
          simp at hx
        · rename_i hx
          go_roundw
          case rel =>
            refine ⟨k + 1, n + nq, rfl, hlt, by go_num, ?_⟩
            show _ = _
            rw [List.take_succ_eq_append_getElem hlt, List.take_succ_eq_append_getElem hlt2, HT.out]
            have : a[k] = b[k] := by
              simp at hx
              exact Prod.ext hx.1 hx.2
            rw [this]
          case measure => simp [intOf]; omega
      · obtain rfl : k = a.length := by omega
        go_wp2
        go_ret
        refine ⟨ret_bool ?_, n, rfl⟩
        symm
        rw [decide_eq_true_iff]
        have := HT.out
        rwa [List.take_length, HL.out, List.take_length] at this
  · have hne : ((a.length : Int) != (b.length : Int)) = true := by rw [bne_iff_ne]; omega
    have HL := Lib.hid hlen
    clear hlen
    go_enter Try.func57, Try.ntmps57
    go_wp2
    go_ret
    refine ⟨ret_bool ?_, 0, rfl⟩
    symm
    rw [decide_eq_false_iff_not]
    intro e
    exact HL.out (by rw [e])

/-- Are two tokens the same, their places aside? In the order in which the document asks. -/
theorem tk_ne {x y : Tk} (h : x ≠ y) : x.kind ≠ y.kind ∨ (x.kind = y.kind ∧ x.name ≠ y.name) ∨ (x.kind = y.kind ∧ x.name = y.name ∧ x.text ≠ y.text) ∨ (x.kind = y.kind ∧ x.name = y.name ∧ x.text = y.text ∧ x.attrs ≠ y.attrs) := by
  by_cases h1 : x.kind = y.kind
  · by_cases h2 : x.name = y.name
    · by_cases h3 : x.text = y.text
      · by_cases h4 : x.attrs = y.attrs
        · exact absurd (by cases x; cases y; simp_all) h
        · exact .inr (.inr (.inr ⟨h1, h2, h3, h4⟩))
      · exact .inr (.inr (.inl ⟨h1, h2, h3⟩))
    · exact .inr (.inl ⟨h1, h2⟩)
  · exact .inl h1
theorem bs_bne (a b : Bs) : ((bs a).toList != (bs b).toList) = !decide (a = b) := by rw [bne, bs_beq]

set_option maxRecDepth 100000 in
set_option maxHeartbeats 4000000 in
theorem same_any (v1 v2 : Value) (ts us : List Tk) (w : World) (h1 : TksOf w v1 ts) (h2 : TksOf w v2 us) :
    Calls Try.prog 22 #[v1, v2] w (Qt (.bool (decide (ts = us))) w) := by
  obtain ⟨ao1, cap1, rfl, hm1⟩ := h1.shape
  obtain ⟨ao2, cap2, rfl, hm2⟩ := h2.shape
  have hla : ts.length ≤ 9223372036854775807 := by unfold maxLen at hm1; omega
  have hlb : us.length ≤ 9223372036854775807 := by unfold maxLen at hm2; omega
  have H1 := Lib.hid h1
  have H2 := Lib.hid h2
  clear h1 h2 hm1 hm2
  by_cases hlen : ts.length = us.length
  · have hne : ((ts.length : Int) != (us.length : Int)) = false := by rw [hlen]; simp
    have HL := Lib.hid hlen
    clear hlen
    go_enter Try.func22, Try.ntmps22
    go_wp2_with fail
    clear hne
    go_loopw [5, 13] (fun _ i wr => ∃ k n : Nat, wr = w.drewN n ∧ k ≤ ts.length ∧ i = .int .i64 k ∧ Hid (ts.take k = us.take k)) (fun _ i _ => ts.length - (intOf i).toNat)
    case atStart => exact ⟨0, 0, rfl, Nat.zero_le _, rfl, rfl⟩
    case round =>
      obtain ⟨k, n, hwr, hk, rfl, HT⟩ := hrel
      have HW := Lib.hid hwr
      have h1r : TksOf wr (.slice ao1 ts.length cap1) ts := by rw [hwr]; exact H1.out.drewN n
      have h2r : TksOf wr (.slice ao2 us.length cap2) us := by rw [hwr]; exact H2.out.drewN n
      clear hwr
      by_cases hlt : k < ts.length
      · have hlt2 : k < us.length := by have := HL.out; omega
        obtain ⟨g1, o1, av1, rfl, hg1, c10, c11, c12, c13, hA1⟩ := h1r.at hlt
        obtain ⟨g2, o2, av2, rfl, hg2, c20, c21, c22, c23, hA2⟩ := h2r.at hlt2
        clear h1r h2r
        have hi1 : (k : Int) < (ts.length : Int) := by omega
        have hi2 : (k : Int) < (us.length : Int) := by omega
        obtain ⟨aa1, ca1, rfl⟩ := hA1.shape
        obtain ⟨aa2, ca2, rfl⟩ := hA2.shape
        have HSA : Hid (∀ j, Calls Try.prog 57 #[.slice aa1 ts[k].attrs.length ca1, .slice aa2 us[k].attrs.length ca2] (wr.drewN j) fun e w'' => e = .returned (.bool (decide (ts[k].attrs = us[k].attrs))) ∧ ∃ m, w'' = wr.drewN m) := fun j => Qt.quiet (sameAttrs_any _ _ _ _ (wr.drewN j) (hA1.drewN j) (hA2.drewN j))
        have HTS : Hid (∀ e : ts[k] = us[k], ts.take (k + 1) = us.take (k + 1)) := fun e => by
          rw [List.take_succ_eq_append_getElem hlt, List.take_succ_eq_append_getElem hlt2, HT.out, e]
        have HNE : Hid (ts[k] ≠ us[k] → ts ≠ us) := fun h e => h (by subst e; rfl)
        clear hA1 hA2
        generalize ts[k] = x at *
        generalize us[k] = y at *
        by_cases he : x = y
        · subst he
          have HSB : Hid (∀ j, Calls Try.prog 57 #[.slice aa1 x.attrs.length ca1, .slice aa2 x.attrs.length ca2] (wr.drewN j) fun e w'' => e = .returned (.bool true) ∧ ∃ m, w'' = wr.drewN m) := fun j => by rw [← decide_eq_true (show x.attrs = x.attrs from rfl)]; exact HSA.out j
          clear HSA
          go_wp2
          go_quiet ((go_at_call 57; exact HSB.out _))
          go_wp2
          go_roundw
          case rel => exact ⟨k + 1, n + nq, by rw [HW.out]; simp, hlt, by go_num, HTS.out (by simp)⟩
          case measure => simp [intOf]; omega
        · have HN := Lib.hid (HNE.out he)
          have hcs := tk_ne he
          clear he HTS HNE
          rcases hcs with h | ⟨h0, h⟩ | ⟨h0, h1, h⟩ | ⟨h0, h1, h2, h⟩
          · have e0 : (x.kind != y.kind) = true := by rw [bne_iff_ne]; exact h
            clear h HSA
            go_wp2
            go_quiet (fail)
            go_wp2
            go_ret
            exact ⟨ret_bool (decide_eq_false HN.out).symm, n + nq, by rw [HW.out]; simp⟩
          · have e0 : (x.kind != y.kind) = false := by rw [h0]; simp
            have e1 : ((bs x.name).toList == (bs y.name).toList) = false := by rw [bs_beq]; simpa using h
            clear h h0 HSA
            go_wp2
            go_quiet (fail)
            go_wp2
            go_ret
            exact ⟨ret_bool (decide_eq_false HN.out).symm, n + nq, by rw [HW.out]; simp⟩
          · have e0 : (x.kind != y.kind) = false := by rw [h0]; simp
            have e1 : ((bs x.name).toList == (bs y.name).toList) = true := by rw [bs_beq]; simpa using h1
            have e2 : ((bs x.text).toList == (bs y.text).toList) = false := by rw [bs_beq]; simpa using h
            clear h h0 h1 HSA
            go_wp2
            go_quiet (fail)
            go_wp2
            go_ret
            exact ⟨ret_bool (decide_eq_false HN.out).symm, n + nq, by rw [HW.out]; simp⟩
          · have e0 : (x.kind != y.kind) = false := by rw [h0]; simp
            have e1 : ((bs x.name).toList == (bs y.name).toList) = true := by rw [bs_beq]; simpa using h1
            have e2 : ((bs x.text).toList == (bs y.text).toList) = true := by rw [bs_beq]; simpa using h2
            have HSB : Hid (∀ j, Calls Try.prog 57 #[.slice aa1 x.attrs.length ca1, .slice aa2 y.attrs.length ca2] (wr.drewN j) fun e w'' => e = .returned (.bool false) ∧ ∃ m, w'' = wr.drewN m) := fun j => by rw [← decide_eq_false h]; exact HSA.out j
            clear h h0 h1 h2 HSA
            go_wp2
            go_quiet ((go_at_call 57; exact HSB.out _))
            go_wp2
            go_ret
            exact ⟨ret_bool (decide_eq_false HN.out).symm, n + nq, by rw [HW.out]; simp⟩
      · obtain rfl : k = ts.length := by omega
        go_wp2
        go_ret
        refine ⟨ret_bool ?_, n, HW.out⟩
        symm
        rw [decide_eq_true_iff]
        have := HT.out
        rwa [List.take_length, HL.out, List.take_length] at this
  · have hne : ((ts.length : Int) != (us.length : Int)) = true := by rw [bne_iff_ne]; omega
    have HL := Lib.hid hlen
    clear hlen
    go_enter Try.func22, Try.ntmps22
    go_wp2
    go_ret
    refine ⟨ret_bool ?_, 0, rfl⟩
    symm
    rw [decide_eq_false_iff_not]
    intro e
    exact HL.out (by rw [e])

end Go.Proofs.Ytpchljiiappmnaa

/- The walk of the program's Print; its conditions stand in the theorem. -/
namespace Go.Proofs.Ytpchljiiappmnaa
open Go Go.RowKit

def tkW (t : Tk) : Nat := t.name.length + t.text.length + attsW t.attrs + 20
def tksW (l : List Tk) : Nat := (l.map tkW).sum
theorem tokP_len (t : Tk) : (tokP t).length ≤ 6 * tkW t := by
  have h1 := (esc_len false t.text).2
  have h2 := attsP_len t.attrs
  unfold tokP tkW
  repeat' split
  all_goals (try simp only [tagP, sNote, eNote, sHead, eHead, List.length_append, List.length_cons, List.length_nil]); try omega
theorem printP_len (l : List Tk) : (printP l).length ≤ 6 * tksW l := by
  induction l with
  | nil => exact Nat.le_refl _
  | cons t l ih =>
    have := tokP_len t
    show (tokP t ++ printP l).length ≤ _
    unfold tksW at *
    rw [List.length_append, List.map_cons, List.sum_cons]; omega
theorem tksW_take (l : List Tk) (k : Nat) : tksW (l.take k) ≤ tksW l := by
  induction l generalizing k with
  | nil => simp [tksW]
  | cons a l ih =>
    cases k with
    | zero => simp [tksW]
    | succ k => have := ih k; unfold tksW at *; simp only [List.take_succ_cons, List.map_cons, List.sum_cons]; omega
theorem tksW_get {l : List Tk} {k : Nat} (h : k < l.length) : tkW l[k] ≤ tksW l := by
  induction l generalizing k with
  | nil => simp at h
  | cons a l ih =>
    cases k with
    | zero => unfold tksW; simp only [List.map_cons, List.sum_cons, List.getElem_cons_zero]; omega
    | succ k => have := ih (k := k) (by simpa using h); unfold tksW at *; simp only [List.map_cons, List.sum_cons, List.getElem_cons_succ]; omega
theorem printP_snoc {l : List Tk} {k : Nat} (h : k < l.length) : printP (l.take (k + 1)) = printP (l.take k) ++ tokP l[k] := by
  rw [List.take_succ_eq_append_getElem h]; unfold printP; rw [List.flatMap_append]; simp

/-- A slice that reads as tokens, their places besides. -/
structure TkMs (w : World) (v : Value) (L : List TkM) : Prop where
  own : SliceOf 7 tkC w v L
  att : ∀ x ∈ L, SliceOf 2 atC w x.av x.t.attrs

theorem tok_str (p q : Bs) {N : S} {t : Bs} (h : N = bs t) : (bs p : S) ++ N ++ (bs q : S) = bs (p ++ (t ++ q)) := by rw [h, bs_append, bs_append, List.append_assoc]

theorem kind_cases (K : Int) : ((K == 5) = true ∧ K = 5) ∨ ((K == 5) = false ∧ K ≠ 5 ∧ (((K == 6) = true ∧ K = 6) ∨ ((K == 6) = false ∧ K ≠ 6 ∧ (((K == 3) = true ∧ K = 3) ∨ ((K == 3) = false ∧ K ≠ 3 ∧ (((K == 1) = true ∧ K = 1) ∨ ((K == 1) = false ∧ K ≠ 1 ∧ (((K == 2) = true ∧ K = 2) ∨ ((K == 2) = false ∧ K ≠ 2 ∧ (((K == 4) = true ∧ K = 4) ∨ ((K == 4) = false ∧ K ≠ 4))))))))))) := by
  have h : ∀ n : Int, ((K == n) = true ∧ K = n) ∨ ((K == n) = false ∧ K ≠ n) := fun n => by
    by_cases e : K = n
    · exact .inl ⟨beq_iff_eq.2 e, e⟩
    · exact .inr ⟨beq_eq_false_iff_ne.2 e, e⟩
  rcases h 5 with a | ⟨a, b⟩
  · exact .inl a
  refine .inr ⟨a, b, ?_⟩
  rcases h 6 with a | ⟨a, b⟩
  · exact .inl a
  refine .inr ⟨a, b, ?_⟩
  rcases h 3 with a | ⟨a, b⟩
  · exact .inl a
  refine .inr ⟨a, b, ?_⟩
  rcases h 1 with a | ⟨a, b⟩
  · exact .inl a
  refine .inr ⟨a, b, ?_⟩
  rcases h 2 with a | ⟨a, b⟩
  · exact .inl a
  refine .inr ⟨a, b, ?_⟩
  rcases h 4 with a | ⟨a, b⟩
  · exact .inl a
  exact .inr ⟨a, b⟩

set_option maxRecDepth 100000 in
set_option maxHeartbeats 16000000 in
theorem print_any (v : Value) (L : List TkM) (w : World) (h : TkMs w v L) (hsz : tksW (L.map (·.t)) ≤ 1000000000) :
    Calls Try.prog 29 #[v] w fun e w' => e = .returned (.string (bs (printP (L.map (·.t))))) ∧ Below w.heap.size w w' := by
  obtain ⟨ao, cap, rfl⟩ := h.own.shape
  have hcap : L.length ≤ 9223372036854775807 := by
    obtain ⟨_, _, e, h2, h3, -⟩ := h.own
    unfold maxLen at h3; omega
  have HT := Lib.hid h
  clear h
  go_enter Try.func29, Try.ntmps29
  go_wp2_with fail
  refine wp_world ?_
  intro W hW
  have hB0 := Bld.fresh w (w.alloc (.cells #[.pointer none, .slice none 0 0] 87)) (Below.refl _ _)
  have hbel : Below w.heap.size w W := by rw [hW]; exact (Below.refl _ _).alloc (Nat.le_refl _) _
  have hWs : W.heap.size = w.heap.size + 1 := by rw [hW]; simp
  rw [← hW] at hB0
  have HB0 := Lib.hid hB0
  have HBE := Lib.hid hbel
  have HWS := Lib.hid hWs
  clear hW hB0 hbel hWs
  go_loopw [8] (fun i wr => ∃ k : Nat, k ≤ L.length ∧ i = .int .i64 k ∧ Bld W.heap.size w.heap.size (Lib.byteCells (printP ((L.map (·.t)).take k))) wr ∧ Kept W.heap.size w.heap.size W wr) (fun i _ => L.length - (intOf i).toNat)
  case atStart => exact ⟨0, Nat.zero_le _, rfl, HB0.out, Kept.refl _ _ _⟩
  case round =>
    obtain ⟨k, hk, rfl, hB, hK⟩ := hrel
    have HBk := Lib.hid hB
    have HKk := Lib.hid hK
    have hwr := hK.size
    have hlen : (printP ((L.map (·.t)).take k)).length ≤ 6000000000 := by
      have h1 := printP_len ((L.map (·.t)).take k)
      have h2 := tksW_take (L.map (·.t)) k
      omega
    have hWw : w.heap.size < W.heap.size := by have := HWS.out; omega
    by_cases hlt : k < L.length
    · have hltM : k < (L.map (·.t)).length := by simpa using hlt
      obtain ⟨g, o, rfl, hg, hc⟩ := HT.out.own.at hlt
      have hA := HT.out.att L[k] (List.getElem_mem hlt)
      have HBw : Hid (Below w.heap.size w wr) := HBE.out.trans (hK.below (Nat.le_of_lt hWw) (Nat.le_refl _))
      have tr : ∀ q u, w.cell? ⟨g, q, none⟩ = some u → wr.cell? ⟨g, q, none⟩ = some u := fun q u hq => (HBw.out.cell (by exact hg)).trans hq
      have d0 := tr _ _ (hc 0 _ rfl)
      have d1 := tr _ _ (hc 1 _ rfl)
      have d2 := tr _ _ (hc 2 _ rfl)
      have d3 := tr _ _ (hc 3 _ rfl)
      have d4 := tr _ _ (hc 4 _ rfl)
      have d5 := tr _ _ (hc 5 _ rfl)
      have d6 := tr _ _ (hc 6 _ rfl)
      rw [Nat.add_zero] at d0
      have hgr : g < wr.heap.size := Nat.lt_of_lt_of_le hg (Nat.le_trans (Nat.le_of_lt hWw) hwr)
      have hi1 : (k : Int) < (L.length : Int) := by omega
      have hw := tksW_get hltM
      rw [List.getElem_map] at hw
      have HSN : Hid (∀ w4, Bld W.heap.size w.heap.size (Lib.byteCells (printP ((L.map (·.t)).take k) ++ tokP L[k].t)) w4 → Bld W.heap.size w.heap.size (Lib.byteCells (printP ((L.map (·.t)).take (k + 1)))) w4) := fun w4 h4 => by
        rw [printP_snoc hltM, List.getElem_map]; exact h4
      have htw : tkW L[k].t ≤ 1000000000 := by omega
      unfold tkW at htw
      obtain ⟨ca, cpa, hav⟩ := hA.shape
      obtain ⟨N, hN⟩ : ∃ N : S, bs L[k].t.name = N := ⟨_, rfl⟩
      obtain ⟨X, hX⟩ : ∃ X : S, bs L[k].t.text = X := ⟨_, rfl⟩
      have hNs : N.size ≤ 1000000000 := by rw [← hN, bs_size]; omega
      have hXs : X.size ≤ 1000000000 := by rw [← hX, bs_size]; omega
      have HN := Lib.hid hN
      have HX := Lib.hid hX
      have HA := Lib.hid hA
      rw [hN] at d1
      rw [hX] at d3
      have HAV := Lib.hid hav
      rw [hav] at d2
      clear hc tr hw hB hK hN hX hA hav
      generalize L[k] = x at *
      have HB1 := Lib.hid (HBk.out.keep ((Below.refl _ _).alloc (Nat.le_refl _) (.cells #[.int .i64 x.t.kind, .string N, .slice ca x.t.attrs.length cpa, .string X, .int .i64 x.off, .int .i64 x.line, .int .i64 x.col] 34)))
      have HK1 := Lib.hid (HKk.out.trans (Kept.of_below (R := W.heap.size) (b := w.heap.size) ((Below.refl _ _).alloc (Nat.le_refl _) (.cells #[.int .i64 x.t.kind, .string N, .slice ca x.t.attrs.length cpa, .string X, .int .i64 x.off, .int .i64 x.line, .int .i64 x.col] 34)) hwr))
      generalize printP ((L.map (·.t)).take k) = P at *
      have HTG : Hid (∀ fin : S, fin.size ≤ 2 → Calls Try.prog 60 #[.pointer (some ⟨w.heap.size, 0, none⟩), .agg #[.int .i64 x.t.kind, .string N, .slice ca x.t.attrs.length cpa, .string X, .int .i64 x.off, .int .i64 x.line, .int .i64 x.col], .string fin] (wr.alloc (.cells #[.int .i64 x.t.kind, .string N, .slice ca x.t.attrs.length cpa, .string X, .int .i64 x.off, .int .i64 x.line, .int .i64 x.col] 34))
          fun e w' => e = .returned (.tuple #[]) ∧ Bld W.heap.size w.heap.size (Lib.byteCells (P ++ tagP x.t fin.data.toList)) w' ∧ Kept W.heap.size w.heap.size (wr.alloc (.cells #[.int .i64 x.t.kind, .string N, .slice ca x.t.attrs.length cpa, .string X, .int .i64 x.off, .int .i64 x.line, .int .i64 x.col] 34)) w') := fun fin hf => by
        have := tag_any w W.heap.size w.heap.size P x fin _ HB1.out HA.out (HBw.out.alloc (Nat.le_trans (Nat.le_of_lt hWw) hwr) _) (Nat.le_of_lt hWw) (Nat.le_refl _) (by omega) (by omega)
        rw [HN.out, HX.out, HAV.out] at this
        exact this
      have hks := kind_cases x.t.kind
      rcases hks with ⟨e5, hk0⟩ | ⟨e5, hn5, ⟨e6, hk0⟩ | ⟨e6, hn6, ⟨e3, hk0⟩ | ⟨e3, hn3, ⟨e1, hk0⟩ | ⟨e1, hn1, ⟨e2, hk0⟩ | ⟨e2, hn2, ⟨e4, hk0⟩ | ⟨e4, hn4⟩⟩⟩⟩⟩⟩
      · have HTE : Hid (tokP x.t = sNote ++ (x.t.text ++ eNote)) := by show _ = _; unfold tokP; rw [if_pos hk0]
        clear hk0 
        go_wp2_with fail
        refine (writeString_bld W.heap.size w.heap.size _ ((⟨#[60, 33, 45, 45]⟩ : S) ++ X ++ (⟨#[45, 45, 62]⟩ : S)) _ HB1.out (by simp only [byteCells_len, ByteArray.size_append, size_lit]; simp; omega)).mono ?_
        rintro e w4 ⟨rfl, hB4, hK4⟩
        have HB4 : Hid (Bld W.heap.size w.heap.size (Lib.byteCells (printP ((L.map (·.t)).take (k + 1)))) w4) := HSN.out w4 (by
          have h1 := hB4
          rw [str_cells (show (⟨#[60, 33, 45, 45]⟩ : S) ++ X ++ (⟨#[45, 45, 62]⟩ : S) = bs (sNote ++ (x.t.text ++ eNote)) from tok_str sNote eNote HX.out.symm)] at h1
          rw [HTE.out]; exact h1)
        have HK4 := Lib.hid (HK1.out.trans hK4)
        clear hB4 hK4
        go_wp2
        go_round
        case rel => exact ⟨k + 1, hlt, by go_num, HB4.out, HK4.out⟩
        case measure => simp [intOf]; omega
      · have HTE : Hid (tokP x.t = sHead ++ (x.t.text ++ eHead)) := by show _ = _; unfold tokP; rw [if_neg hn5, if_pos hk0]
        clear hk0 hn5
        go_wp2_with fail
        refine (writeString_bld W.heap.size w.heap.size _ ((⟨#[60, 63, 120, 109, 108]⟩ : S) ++ X ++ (⟨#[63, 62]⟩ : S)) _ HB1.out (by simp only [byteCells_len, ByteArray.size_append, size_lit]; simp; omega)).mono ?_
        rintro e w4 ⟨rfl, hB4, hK4⟩
        have HB4 : Hid (Bld W.heap.size w.heap.size (Lib.byteCells (printP ((L.map (·.t)).take (k + 1)))) w4) := HSN.out w4 (by
          have h1 := hB4
          rw [str_cells (show (⟨#[60, 63, 120, 109, 108]⟩ : S) ++ X ++ (⟨#[63, 62]⟩ : S) = bs (sHead ++ (x.t.text ++ eHead)) from tok_str sHead eHead HX.out.symm)] at h1
          rw [HTE.out]; exact h1)
        have HK4 := Lib.hid (HK1.out.trans hK4)
        clear hB4 hK4
        go_wp2
        go_round
        case rel => exact ⟨k + 1, hlt, by go_num, HB4.out, HK4.out⟩
        case measure => simp [intOf]; omega
      · have HTE : Hid (tokP x.t = ([60, 47] : Bs) ++ (x.t.name ++ ([62] : Bs))) := by show _ = _; unfold tokP; rw [if_neg hn5, if_neg hn6, if_pos hk0]
        clear hk0 hn5 hn6
        go_wp2_with fail
        refine (writeString_bld W.heap.size w.heap.size _ ((⟨#[60, 47]⟩ : S) ++ N ++ (⟨#[62]⟩ : S)) _ HB1.out (by simp only [byteCells_len, ByteArray.size_append, size_lit]; simp; omega)).mono ?_
        rintro e w4 ⟨rfl, hB4, hK4⟩
        have HB4 : Hid (Bld W.heap.size w.heap.size (Lib.byteCells (printP ((L.map (·.t)).take (k + 1)))) w4) := HSN.out w4 (by
          have h1 := hB4
          rw [str_cells (show (⟨#[60, 47]⟩ : S) ++ N ++ (⟨#[62]⟩ : S) = bs (([60, 47] : Bs) ++ (x.t.name ++ ([62] : Bs))) from tok_str ([60, 47] : Bs) ([62] : Bs) HN.out.symm)] at h1
          rw [HTE.out]; exact h1)
        have HK4 := Lib.hid (HK1.out.trans hK4)
        clear hB4 hK4
        go_wp2
        go_round
        case rel => exact ⟨k + 1, hlt, by go_num, HB4.out, HK4.out⟩
        case measure => simp [intOf]; omega
      · have HTE : Hid (tokP x.t = tagP x.t [62]) := by show _ = _; unfold tokP; rw [if_neg hn5, if_neg hn6, if_neg hn3, if_pos hk0]
        clear hk0 hn5 hn6 hn3
        go_wp2_with fail
        refine (HTG.out ⟨#[62]⟩ (by rw [size_lit]; simp)).mono ?_
        rintro e w4 ⟨rfl, hB4, hK4⟩
        have HB4 : Hid (Bld W.heap.size w.heap.size (Lib.byteCells (printP ((L.map (·.t)).take (k + 1)))) w4) := HSN.out w4 (by rw [HTE.out]; exact hB4)
        have HK4 := Lib.hid (HK1.out.trans hK4)
        clear hB4 hK4
        go_wp2
        go_round
        case rel => exact ⟨k + 1, hlt, by go_num, HB4.out, HK4.out⟩
        case measure => simp [intOf]; omega
      · have HTE : Hid (tokP x.t = tagP x.t [47, 62]) := by show _ = _; unfold tokP; rw [if_neg hn5, if_neg hn6, if_neg hn3, if_neg hn1, if_pos hk0]
        clear hk0 hn5 hn6 hn3 hn1
        go_wp2_with fail
        refine (HTG.out ⟨#[47, 62]⟩ (by rw [size_lit]; simp)).mono ?_
        rintro e w4 ⟨rfl, hB4, hK4⟩
        have HB4 : Hid (Bld W.heap.size w.heap.size (Lib.byteCells (printP ((L.map (·.t)).take (k + 1)))) w4) := HSN.out w4 (by rw [HTE.out]; exact hB4)
        have HK4 := Lib.hid (HK1.out.trans hK4)
        clear hB4 hK4
        go_wp2
        go_round
        case rel => exact ⟨k + 1, hlt, by go_num, HB4.out, HK4.out⟩
        case measure => simp [intOf]; omega
      · have HTE : Hid (tokP x.t = esc false x.t.text) := by show _ = _; unfold tokP; rw [if_neg hn5, if_neg hn6, if_neg hn3, if_neg hn1, if_neg hn2, if_pos hk0]
        clear hk0 hn5 hn6 hn3 hn1 hn2
        go_wp2_with fail
        refine (escape_any X false _ hXs).mono ?_
        rintro e w3 ⟨rfl, hb3⟩
        have HB3 := Lib.hid (HB1.out.keep hb3)
        have HK3 := Lib.hid (HK1.out.trans (Kept.of_below (R := W.heap.size) (b := w.heap.size) hb3 (by simp; omega)))
        have hEl : (esc false X.data.toList).length ≤ 6000000000 := by
          have := (esc_len false X.data.toList).2
          rw [size_data] at this; omega
        clear hb3
        go_wp2_with fail
        refine (writeString_bld W.heap.size w.heap.size _ _ _ HB3.out (by rw [byteCells_len, bs_size]; omega)).mono ?_
        rintro e w4 ⟨rfl, hB4, hK4⟩
        have HB4 : Hid (Bld W.heap.size w.heap.size (Lib.byteCells (printP ((L.map (·.t)).take (k + 1)))) w4) := HSN.out w4 (by
          have h1 := hB4
          rw [str_cells rfl] at h1
          rw [HTE.out]
          have e1 : X.data.toList = x.t.text := by rw [← HX.out, bs_data]
          rw [e1] at h1; exact h1)
        have HK4 := Lib.hid (HK3.out.trans hK4)
        clear hB4 hK4
        go_wp2
        go_round
        case rel => exact ⟨k + 1, hlt, by go_num, HB4.out, HK4.out⟩
        case measure => simp [intOf]; omega
      · have HTE : Hid (tokP x.t = []) := by show _ = _; unfold tokP; rw [if_neg hn5, if_neg hn6, if_neg hn3, if_neg hn1, if_neg hn2, if_neg hn4]
        clear hn5 hn6 hn3 hn1 hn2 hn4
        go_wp2
        go_round
        case rel => exact ⟨k + 1, hlt, by go_num, HSN.out _ (by rw [HTE.out, List.append_nil]; exact HB1.out), HK1.out⟩
        case measure => simp [intOf]; omega
    · obtain rfl : k = L.length := by omega
      have hi1 : ¬ (L.length : Int) < (L.length : Int) := by omega
      have hO : (L.map (·.t)).take L.length = L.map (·.t) := List.take_of_length_le (by simp)
      rw [hO] at HBk
      clear hB hK hO
      go_wp2_with fail
      refine (Try.Builder_String_any w.heap.size w.heap.size (printP (L.map (·.t))) wr (HBk.out.isB _ (Nat.le_of_lt hWw) (Nat.le_refl _)) (Nat.le_trans (Nat.le_of_lt hWw) hwr)).mono ?_
      rintro e w2 ⟨rfl, hb2⟩
      have HZ := Lib.hid ((HBE.out.trans (HKk.out.below (Nat.le_of_lt hWw) (Nat.le_refl _))).trans hb2)
      clear hb2
      go_wp2
      go_ret
      exact ⟨rfl, HZ.out⟩

end Go.Proofs.Ytpchljiiappmnaa

/- Plain law: what is printed of a text's tokens is at most six times as long as the text; no program in sight. -/
namespace Go.Proofs.Ytpchljiiappmnaa
open Go Go.RowKit

theorem refSpec_less {s t : Bs} {n : Nat} (h : refSpec s = .ok t n) : t.length ≤ n := by
  have h4 := refSpec_len h
  have hn : ∀ hex a d, numRef hex a d = .ok t n → 2 ≤ a → t.length ≤ n := by
    intro hex a d h ha
    have := numRef_min h
    omega
  cases s with
  | nil => cases h
  | cons c r =>
    simp only [refSpec] at h
    split at h
    · cases h
    · split at h
      · split at h
        · exact hn _ _ _ h (by decide)
        · exact hn _ _ _ h (by decide)
      · split at h
        · split at h <;> cases h
        · split at h
          · split at h
            · cases h; simp
            · cases h
          · cases h
theorem letters_eat {stop : UInt8} (n : Nat) : ∀ {l s r : Bs}, l.length ≤ n → lettersGo stop 0 l = .ok s r → s.length + r.length ≤ l.length := by
  induction n with
  | zero =>
    intro l s r hn h
    have : l = [] := List.eq_nil_of_length_eq_zero (by omega)
    subst this
    cases h; simp
  | succ n ih =>
    intro l s r hn h
    cases l with
    | nil => cases h; simp
    | cons c l =>
      simp only [List.length_cons] at hn
      simp only [lettersGo] at h
      split at h
      · cases h; simp
      · split at h
        · cases hr : refSpec (c :: l) with
          | bad e => rw [hr] at h; cases h
          | ok t k =>
            rw [hr] at h
            obtain ⟨a, h1, rfl⟩ := map_ok h
            obtain ⟨k1, k2⟩ := refSpec_size hr
            have k3 := refSpec_less hr
            rw [lettersGo_drop] at h1
            have := ih (by rw [List.length_drop]; omega) h1
            rw [List.length_drop] at this
            simp only [List.length_cons, List.length_append] at k2 ⊢
            omega
        · split at h
          · cases h
          · obtain ⟨a, h1, rfl⟩ := map_ok h
            have := ih (by omega) h1
            simp only [List.length_cons]; omega
theorem nameR_eat {e : Int} {l nm r : Bs} (h : nameR e l = .ok nm r) : nm.length + r.length = l.length := by
  cases l with
  | nil => cases h
  | cons c l =>
    simp only [nameR] at h
    split at h
    · cases h
    · cases h
      have := nameLen_le (c :: l)
      rw [List.length_take, List.length_drop]; omega
theorem wantC_eat {c : UInt8} {l r : Bs} {u : Unit} (h : wantC c l = .ok u r) : r.length + 1 = l.length := by
  cases l with
  | nil => cases h
  | cons x l => simp only [wantC] at h; split at h <;> cases h; simp
theorem valueR_eat {l s r : Bs} (h : valueR l = .ok s r) : s.length + r.length + 2 ≤ l.length := by
  cases l with
  | nil => cases h
  | cons q l =>
    simp only [valueR] at h
    split at h
    · obtain ⟨a, r1, h1, h2⟩ := bind_ok h
      have := letters_eat l.length (Nat.le_refl _) h1
      split at h2
      · cases h2
      · cases h2; simp only [List.length_cons] at this ⊢; omega
    · cases h
def attsE (l : List At2) : Nat := (l.map fun a => a.1.length + a.2.length + 4).sum
theorem attsE_app (l m : List At2) : attsE (l ++ m) = attsE l + attsE m := by unfold attsE; rw [List.map_append, List.sum_append]
theorem attsW_E (l : List At2) : attsW l ≤ 6 * attsE l := by
  induction l with
  | nil => exact Nat.le_refl _
  | cons a l ih => unfold attsW attsE at *; simp only [List.map_cons, List.sum_cons]; omega
theorem attrR_eat {acc : List At2} {l r : Bs} {a : At2} (h : attrR acc l = .ok a r) : a.1.length + a.2.length + 3 + r.length ≤ l.length := by
  rw [attrR_eq] at h
  obtain ⟨nm, r1, h1, h2⟩ := bind_ok h
  split at h2
  · cases h2
  · unfold restR at h2
    obtain ⟨_, r2, h3, h4⟩ := bind_ok h2
    obtain ⟨v, h5, rfl⟩ := map_ok h4
    have e1 := nameR_eat h1
    have e2 := wantC_eat h3
    have e3 := valueR_eat h5
    have e4 := blanks_le r1
    have e5 := blanks_le r2
    simp only; omega
theorem attrsGo_eat (f : Nat) (acc : List At2) (l : Bs) {res : List At2} {r : Bs} (h : attrsGo f acc l = .ok res r) : attsE res + r.length ≤ attsE acc + l.length := by
  induction f generalizing acc l with
  | zero => cases h
  | succ f ih =>
    simp only [attrsGo] at h
    split at h
    · cases h; have := blanks_le l; omega
    · rename_i ht
      cases ha : attrR acc (blanks l) with
      | bad e r' => rw [ha] at h; cases h
      | ok a r' =>
        rw [ha] at h
        have e1 := attrR_eat ha
        have e2 := ih _ _ h
        have e3 := blanks_le l
        have e4 : (blanks l).length ≠ l.length := by
          intro e
          apply ht
          unfold tagEnds
          rw [e]; simp
        rw [attsE_app] at e2
        have e5 : attsE [a] = a.1.length + a.2.length + 4 := by simp [attsE]
        omega
theorem openR_eat {l r : Bs} {t : Tk} (h : openR l = .ok t r) : t.name.length + attsE t.attrs + 1 + r.length ≤ l.length ∧ t.text = [] := by
  rw [openR_eq] at h
  obtain ⟨nm, r1, h1, h2⟩ := bind_ok h
  obtain ⟨ats, r2, h3, h4⟩ := bind_ok h2
  have e1 := nameR_eat h1
  have e2 := attrsGo_eat _ _ _ h3
  have e0 : attsE [] = 0 := rfl
  cases r2 with
  | nil => cases h4
  | cons c r2 =>
    by_cases hc : c = 47
    · subst hc
      rw [endR_47] at h4
      obtain ⟨_, h5, rfl⟩ := map_ok h4
      have := wantC_eat h5
      simp only [List.length_cons] at e2
      exact ⟨by simp only; omega, rfl⟩
    · rw [endR_no nm ats r2 hc] at h4
      obtain ⟨_, h5, rfl⟩ := map_ok h4
      have := wantC_eat h5
      exact ⟨by simp only; omega, rfl⟩
theorem closeR_eat {l r : Bs} {t : Tk} (h : closeR l = .ok t r) : t.kind = 3 ∧ t.name.length + 1 + r.length ≤ l.length ∧ t.attrs = [] ∧ t.text = [] := by
  obtain ⟨nm, r1, h1, h2⟩ := bind_ok h
  obtain ⟨_, h3, rfl⟩ := map_ok h2
  have e1 := nameR_eat h1
  have e2 := wantC_eat h3
  have e3 := blanks_le r1
  exact ⟨rfl, by simp only; omega, rfl, rfl⟩
theorem tag_len (t : Tk) (fin : Bs) : (tagP t fin).length ≤ 1 + t.name.length + attsW t.attrs + fin.length := by
  have := attsP_len t.attrs
  unfold tagP
  simp only [List.length_cons, List.length_append]; omega
/-- What a token takes of the text. -/
theorem tokenR_eat {f : Bool} {l r : Bs} {t : Tk} (h : tokenR f l = .ok t r) (hl : l ≠ []) : (tokP t).length + 6 * r.length ≤ 6 * l.length ∧ tkW t + 26 * r.length ≤ 26 * l.length := by
  have hless := tokenR_less h hl
  unfold tokenR at h
  split at h
  · rename_i hp
    obtain ⟨s, h1, rfl⟩ := map_ok h
    have e1 := congrArg List.length (plain_again h1).2.1
    obtain ⟨z, hz⟩ := List.isPrefixOf_iff_prefix.1 hp
    have e2 := congrArg List.length hz
    have e0 : tokP ⟨5, [], [], s⟩ = sNote ++ (s ++ eNote) := by unfold tokP; rw [if_pos rfl]
    rw [e0]
    unfold tkW
    simp only [List.length_append, List.length_drop, sNote, eNote, List.length_cons, List.length_nil, attsW, List.map_nil, List.sum_nil] at *
    omega
  · split at h
    · rename_i hp
      obtain ⟨s, h1, rfl⟩ := map_ok h
      have e1 := congrArg List.length (plain_again h1).2.1
      obtain ⟨z, hz⟩ := List.isPrefixOf_iff_prefix.1 hp
      have e2 := congrArg List.length hz
      have e3 := (esc_len false s).2
      rw [tokP_4 rfl]
      unfold tkW
      simp only [List.length_append, List.length_drop, sData, eData, List.length_cons, List.length_nil, attsW, List.map_nil, List.sum_nil] at *
      omega
    · split at h
      · rename_i hh
        obtain ⟨s, h1, rfl⟩ := map_ok h
        have e1 := congrArg List.length (plain_again h1).2.1
        rw [Bool.and_eq_true] at hh
        have hh2 := hh.2
        unfold isHead at hh2
        rw [Bool.and_eq_true] at hh2
        obtain ⟨z, hz⟩ := List.isPrefixOf_iff_prefix.1 hh2.1
        have e2 := congrArg List.length hz
        have e0 : tokP ⟨6, [], [], s⟩ = sHead ++ (s ++ eHead) := by unfold tokP; rw [if_neg (by simp), if_pos rfl]
        rw [e0]
        unfold tkW
        simp only [List.length_append, List.length_drop, sHead, eHead, List.length_cons, List.length_nil, attsW, List.map_nil, List.sum_nil] at *
        omega
      · split at h
        · obtain ⟨hk, e1, e2, e3⟩ := closeR_eat h
          have e0 : tokP t = [60, 47] ++ (t.name ++ [62]) := by unfold tokP; rw [hk]; simp
          rw [e0]
          unfold tkW
          rw [e2, e3]
          simp only [List.length_append, List.length_cons, List.length_nil, attsW, List.map_nil, List.sum_nil]
          omega
        · obtain ⟨e1, e2⟩ := openR_eat h
          have hw := attsW_E t.attrs
          have hlen : (tokP t).length ≤ 3 + t.name.length + attsW t.attrs := by
            rcases openR_kind h with hk | hk
            · have e0 : tokP t = tagP t [62] := by unfold tokP; rw [hk]; simp
              have := tag_len t [62]
              rw [e0]; simp at this; omega
            · have e0 : tokP t = tagP t [47, 62] := by unfold tokP; rw [hk]; simp
              have := tag_len t [47, 62]
              rw [e0]; simp at this; omega
          unfold tkW
          rw [e2]
          simp only [List.length_cons, List.length_nil] at *
          omega
        · obtain ⟨s, h1, rfl⟩ := map_ok h
          have e1 := letters_eat l.length (Nat.le_refl _) h1
          have e3 := (esc_len false s).2
          rw [tokP_4 rfl]
          unfold tkW
          simp only [List.length_nil, attsW, List.map_nil, List.sum_nil] at *
          omega
theorem allGo_eat (n : Nat) (f : Bool) (acc : List (Tk × Bs)) (l : Bs) {res : List (Tk × Bs)} {r : Bs} (h : allGo n f acc l = .ok res r) : (printP (res.map (·.1))).length ≤ (printP (acc.map (·.1))).length + 6 * l.length ∧ tksW (res.map (·.1)) ≤ tksW (acc.map (·.1)) + 26 * l.length := by
  induction n generalizing f acc l with
  | zero => cases l with
    | nil => cases h; exact ⟨by omega, by omega⟩
    | cons c l => cases h
  | succ n ih =>
    cases l with
    | nil => cases h; exact ⟨by omega, by omega⟩
    | cons c l =>
      simp only [allGo] at h
      cases ht : tokenR f (c :: l) with
      | bad e r' => rw [ht] at h; cases h
      | ok t r' =>
        rw [ht] at h
        obtain ⟨i1, i2⟩ := ih _ _ _ h
        obtain ⟨j1, j2⟩ := tokenR_eat ht (by simp)
        have k1 : (printP ((acc ++ [(t, c :: l)]).map (·.1))).length = (printP (acc.map (·.1))).length + (tokP t).length := by
          rw [List.map_append, printP_app, List.length_append]; simp [printP]
        have k2 : tksW ((acc ++ [(t, c :: l)]).map (·.1)) = tksW (acc.map (·.1)) + tkW t := by
          unfold tksW; rw [List.map_append, List.map_append, List.sum_append]; simp
        rw [k1] at i1
        rw [k2] at i2
        omega
theorem allR_eat {T : Bs} {acc : List (Tk × Bs)} {r : Bs} (h : allR T = .ok acc r) : (printP (acc.map (·.1))).length ≤ 6 * T.length ∧ tksW (acc.map (·.1)) ≤ 26 * T.length := by
  have := allGo_eat _ _ _ _ h
  simpa [printP, tksW] using this

end Go.Proofs.Ytpchljiiappmnaa
