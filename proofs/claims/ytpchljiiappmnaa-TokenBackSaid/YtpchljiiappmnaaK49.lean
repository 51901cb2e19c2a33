/- The walk of the program's Print; its conditions stand in the theorem. -/
import Derived.Test.YtpchljiiappmnaaK48
import Derived.Test.YtpchljiiappmnaaK42
namespace Go.Proofs.Ytpchljiiappmnaa
open Go Go.RowKit

def tkW (t : Tk) : Nat := t.name.length + t.text.length + attsW t.attrs + 20
def tksW (l : List Tk) : Nat := (l.map tkW).sum
theorem tokP_len (t : Tk) : (tokP t).length ≤ 6 * tkW t := by
  have h1 := (esc_len false t.text).2
  have h2 := attsP_len t.attrs
  unfold tokP tkW
  repeat' split
  all_goals (try simp only [tagP, sNote, eNote, sHead, eHead, List.length_append, List.length_cons, List.length_nil]); try omega
theorem printP_len (l : List Tk) : (printP l).length ≤ 6 * tksW l := by
  induction l with
  | nil => exact Nat.le_refl _
  | cons t l ih =>
    have := tokP_len t
    show (tokP t ++ printP l).length ≤ _
    unfold tksW at *
    rw [List.length_append, List.map_cons, List.sum_cons]; omega
theorem tksW_take (l : List Tk) (k : Nat) : tksW (l.take k) ≤ tksW l := by
  induction l generalizing k with
  | nil => simp [tksW]
  | cons a l ih =>
    cases k with
    | zero => simp [tksW]
    | succ k => have := ih k; unfold tksW at *; simp only [List.take_succ_cons, List.map_cons, List.sum_cons]; omega
theorem tksW_get {l : List Tk} {k : Nat} (h : k < l.length) : tkW l[k] ≤ tksW l := by
  induction l generalizing k with
  | nil => simp at h
  | cons a l ih =>
    cases k with
    | zero => unfold tksW; simp only [List.map_cons, List.sum_cons, List.getElem_cons_zero]; omega
    | succ k => have := ih (k := k) (by simpa using h); unfold tksW at *; simp only [List.map_cons, List.sum_cons, List.getElem_cons_succ]; omega
theorem printP_snoc {l : List Tk} {k : Nat} (h : k < l.length) : printP (l.take (k + 1)) = printP (l.take k) ++ tokP l[k] := by
  rw [List.take_succ_eq_append_getElem h]; unfold printP; rw [List.flatMap_append]; simp

/-- A slice that reads as tokens, their places besides. -/
structure TkMs (w : World) (v : Value) (L : List TkM) : Prop where
  own : SliceOf 7 tkC w v L
  att : ∀ x ∈ L, SliceOf 2 atC w x.av x.t.attrs

theorem tok_str (p q : Bs) {N : S} {t : Bs} (h : N = bs t) : (bs p : S) ++ N ++ (bs q : S) = bs (p ++ (t ++ q)) := by rw [h, bs_append, bs_append, List.append_assoc]

theorem kind_cases (K : Int) : ((K == 5) = true ∧ K = 5) ∨ ((K == 5) = false ∧ K ≠ 5 ∧ (((K == 6) = true ∧ K = 6) ∨ ((K == 6) = false ∧ K ≠ 6 ∧ (((K == 3) = true ∧ K = 3) ∨ ((K == 3) = false ∧ K ≠ 3 ∧ (((K == 1) = true ∧ K = 1) ∨ ((K == 1) = false ∧ K ≠ 1 ∧ (((K == 2) = true ∧ K = 2) ∨ ((K == 2) = false ∧ K ≠ 2 ∧ (((K == 4) = true ∧ K = 4) ∨ ((K == 4) = false ∧ K ≠ 4))))))))))) := by
  have h : ∀ n : Int, ((K == n) = true ∧ K = n) ∨ ((K == n) = false ∧ K ≠ n) := fun n => by
    by_cases e : K = n
    · exact .inl ⟨beq_iff_eq.2 e, e⟩
    · exact .inr ⟨beq_eq_false_iff_ne.2 e, e⟩
  rcases h 5 with a | ⟨a, b⟩
  · exact .inl a
  refine .inr ⟨a, b, ?_⟩
  rcases h 6 with a | ⟨a, b⟩
  · exact .inl a
  refine .inr ⟨a, b, ?_⟩
  rcases h 3 with a | ⟨a, b⟩
  · exact .inl a
  refine .inr ⟨a, b, ?_⟩
  rcases h 1 with a | ⟨a, b⟩
  · exact .inl a
  refine .inr ⟨a, b, ?_⟩
  rcases h 2 with a | ⟨a, b⟩
  · exact .inl a
  refine .inr ⟨a, b, ?_⟩
  rcases h 4 with a | ⟨a, b⟩
  · exact .inl a
  exact .inr ⟨a, b⟩

set_option maxRecDepth 100000 in
set_option maxHeartbeats 16000000 in
theorem print_any (v : Value) (L : List TkM) (w : World) (h : TkMs w v L) (hsz : tksW (L.map (·.t)) ≤ 1000000000) :
    Calls Try.prog 29 #[v] w fun e w' => e = .returned (.string (bs (printP (L.map (·.t))))) ∧ Below w.heap.size w w' := by
  obtain ⟨ao, cap, rfl⟩ := h.own.shape
  have hcap : L.length ≤ 9223372036854775807 := by
    obtain ⟨_, _, e, h2, h3, -⟩ := h.own
    unfold maxLen at h3; omega
  have HT := Lib.hid h
  clear h
  go_enter Try.func29, Try.ntmps29
  go_wp2_with fail
  refine wp_world ?_
  intro W hW
  have hB0 := Bld.fresh w (w.alloc (.cells #[.pointer none, .slice none 0 0] 87)) (Below.refl _ _)
  have hbel : Below w.heap.size w W := by rw [hW]; exact (Below.refl _ _).alloc (Nat.le_refl _) _
  have hWs : W.heap.size = w.heap.size + 1 := by rw [hW]; simp
  rw [← hW] at hB0
  have HB0 := Lib.hid hB0
  have HBE := Lib.hid hbel
  have HWS := Lib.hid hWs
  clear hW hB0 hbel hWs
  go_loopw [8] (fun i wr => ∃ k : Nat, k ≤ L.length ∧ i = .int .i64 k ∧ Bld W.heap.size w.heap.size (Lib.byteCells (printP ((L.map (·.t)).take k))) wr ∧ Kept W.heap.size w.heap.size W wr) (fun i _ => L.length - (intOf i).toNat)
  case atStart => exact ⟨0, Nat.zero_le _, rfl, HB0.out, Kept.refl _ _ _⟩
  case round =>
    obtain ⟨k, hk, rfl, hB, hK⟩ := hrel
    have HBk := Lib.hid hB
    have HKk := Lib.hid hK
    have hwr := hK.size
    have hlen : (printP ((L.map (·.t)).take k)).length ≤ 6000000000 := by
      have h1 := printP_len ((L.map (·.t)).take k)
      have h2 := tksW_take (L.map (·.t)) k
      omega
    have hWw : w.heap.size < W.heap.size := by have := HWS.out; omega
    by_cases hlt : k < L.length
    · have hltM : k < (L.map (·.t)).length := by simpa using hlt
      obtain ⟨g, o, rfl, hg, hc⟩ := HT.out.own.at hlt
      have hA := HT.out.att L[k] (List.getElem_mem hlt)
      have HBw : Hid (Below w.heap.size w wr) := HBE.out.trans (hK.below (Nat.le_of_lt hWw) (Nat.le_refl _))
      have tr : ∀ q u, w.cell? ⟨g, q, none⟩ = some u → wr.cell? ⟨g, q, none⟩ = some u := fun q u hq => (HBw.out.cell (by exact hg)).trans hq
      have d0 := tr _ _ (hc 0 _ rfl)
      have d1 := tr _ _ (hc 1 _ rfl)
      have d2 := tr _ _ (hc 2 _ rfl)
      have d3 := tr _ _ (hc 3 _ rfl)
      have d4 := tr _ _ (hc 4 _ rfl)
      have d5 := tr _ _ (hc 5 _ rfl)
      have d6 := tr _ _ (hc 6 _ rfl)
      rw [Nat.add_zero] at d0
      have hgr : g < wr.heap.size := Nat.lt_of_lt_of_le hg (Nat.le_trans (Nat.le_of_lt hWw) hwr)
      have hi1 : (k : Int) < (L.length : Int) := by omega
      have hw := tksW_get hltM
      rw [List.getElem_map] at hw
      have HSN : Hid (∀ w4, Bld W.heap.size w.heap.size (Lib.byteCells (printP ((L.map (·.t)).take k) ++ tokP L[k].t)) w4 → Bld W.heap.size w.heap.size (Lib.byteCells (printP ((L.map (·.t)).take (k + 1)))) w4) := fun w4 h4 => by
        rw [printP_snoc hltM, List.getElem_map]; exact h4
      have htw : tkW L[k].t ≤ 1000000000 := by omega
      unfold tkW at htw
      obtain ⟨ca, cpa, hav⟩ := hA.shape
      obtain ⟨N, hN⟩ : ∃ N : S, bs L[k].t.name = N := ⟨_, rfl⟩
      obtain ⟨X, hX⟩ : ∃ X : S, bs L[k].t.text = X := ⟨_, rfl⟩
      have hNs : N.size ≤ 1000000000 := by rw [← hN, bs_size]; omega
      have hXs : X.size ≤ 1000000000 := by rw [← hX, bs_size]; omega
      have HN := Lib.hid hN
      have HX := Lib.hid hX
      have HA := Lib.hid hA
      rw [hN] at d1
      rw [hX] at d3
      have HAV := Lib.hid hav
      rw [hav] at d2
      clear hc tr hw hB hK hN hX hA hav
      generalize L[k] = x at *
      have HB1 := Lib.hid (HBk.out.keep ((Below.refl _ _).alloc (Nat.le_refl _) (.cells #[.int .i64 x.t.kind, .string N, .slice ca x.t.attrs.length cpa, .string X, .int .i64 x.off, .int .i64 x.line, .int .i64 x.col] 34)))
      have HK1 := Lib.hid (HKk.out.trans (Kept.of_below (R := W.heap.size) (b := w.heap.size) ((Below.refl _ _).alloc (Nat.le_refl _) (.cells #[.int .i64 x.t.kind, .string N, .slice ca x.t.attrs.length cpa, .string X, .int .i64 x.off, .int .i64 x.line, .int .i64 x.col] 34)) hwr))
      generalize printP ((L.map (·.t)).take k) = P at *
      have HTG : Hid (∀ fin : S, fin.size ≤ 2 → Calls Try.prog 60 #[.pointer (some ⟨w.heap.size, 0, none⟩), .agg #[.int .i64 x.t.kind, .string N, .slice ca x.t.attrs.length cpa, .string X, .int .i64 x.off, .int .i64 x.line, .int .i64 x.col], .string fin] (wr.alloc (.cells #[.int .i64 x.t.kind, .string N, .slice ca x.t.attrs.length cpa, .string X, .int .i64 x.off, .int .i64 x.line, .int .i64 x.col] 34))
          fun e w' => e = .returned (.tuple #[]) ∧ Bld W.heap.size w.heap.size (Lib.byteCells (P ++ tagP x.t fin.data.toList)) w' ∧ Kept W.heap.size w.heap.size (wr.alloc (.cells #[.int .i64 x.t.kind, .string N, .slice ca x.t.attrs.length cpa, .string X, .int .i64 x.off, .int .i64 x.line, .int .i64 x.col] 34)) w') := fun fin hf => by
        have := tag_any w W.heap.size w.heap.size P x fin _ HB1.out HA.out (HBw.out.alloc (Nat.le_trans (Nat.le_of_lt hWw) hwr) _) (Nat.le_of_lt hWw) (Nat.le_refl _) (by omega) (by omega)
        rw [HN.out, HX.out, HAV.out] at this
        exact this
      have hks := kind_cases x.t.kind
      rcases hks with ⟨e5, hk0⟩ | ⟨e5, hn5, ⟨e6, hk0⟩ | ⟨e6, hn6, ⟨e3, hk0⟩ | ⟨e3, hn3, ⟨e1, hk0⟩ | ⟨e1, hn1, ⟨e2, hk0⟩ | ⟨e2, hn2, ⟨e4, hk0⟩ | ⟨e4, hn4⟩⟩⟩⟩⟩⟩
      · have HTE : Hid (tokP x.t = sNote ++ (x.t.text ++ eNote)) := by show _ = _; unfold tokP; rw [if_pos hk0]
        clear hk0 
        go_wp2_with fail
        refine (writeString_bld W.heap.size w.heap.size _ ((⟨#[60, 33, 45, 45]⟩ : S) ++ X ++ (⟨#[45, 45, 62]⟩ : S)) _ HB1.out (by simp only [byteCells_len, ByteArray.size_append, size_lit]; simp; omega)).mono ?_
        rintro e w4 ⟨rfl, hB4, hK4⟩
        have HB4 : Hid (Bld W.heap.size w.heap.size (Lib.byteCells (printP ((L.map (·.t)).take (k + 1)))) w4) := HSN.out w4 (by
          have h1 := hB4
          rw [str_cells (show (⟨#[60, 33, 45, 45]⟩ : S) ++ X ++ (⟨#[45, 45, 62]⟩ : S) = bs (sNote ++ (x.t.text ++ eNote)) from tok_str sNote eNote HX.out.symm)] at h1
          rw [HTE.out]; exact h1)
        have HK4 := Lib.hid (HK1.out.trans hK4)
        clear hB4 hK4
        go_wp2
        go_round
        case rel => exact ⟨k + 1, hlt, by go_num, HB4.out, HK4.out⟩
        case measure => simp [intOf]; omega
      · have HTE : Hid (tokP x.t = sHead ++ (x.t.text ++ eHead)) := by show _ = _; unfold tokP; rw [if_neg hn5, if_pos hk0]
        clear hk0 hn5
        go_wp2_with fail
        refine (writeString_bld W.heap.size w.heap.size _ ((⟨#[60, 63, 120, 109, 108]⟩ : S) ++ X ++ (⟨#[63, 62]⟩ : S)) _ HB1.out (by simp only [byteCells_len, ByteArray.size_append, size_lit]; simp; omega)).mono ?_
        rintro e w4 ⟨rfl, hB4, hK4⟩
        have HB4 : Hid (Bld W.heap.size w.heap.size (Lib.byteCells (printP ((L.map (·.t)).take (k + 1)))) w4) := HSN.out w4 (by
          have h1 := hB4
          rw [str_cells (show (⟨#[60, 63, 120, 109, 108]⟩ : S) ++ X ++ (⟨#[63, 62]⟩ : S) = bs (sHead ++ (x.t.text ++ eHead)) from tok_str sHead eHead HX.out.symm)] at h1
          rw [HTE.out]; exact h1)
        have HK4 := Lib.hid (HK1.out.trans hK4)
        clear hB4 hK4
        go_wp2
        go_round
        case rel => exact ⟨k + 1, hlt, by go_num, HB4.out, HK4.out⟩
        case measure => simp [intOf]; omega
      · have HTE : Hid (tokP x.t = ([60, 47] : Bs) ++ (x.t.name ++ ([62] : Bs))) := by show _ = _; unfold tokP; rw [if_neg hn5, if_neg hn6, if_pos hk0]
        clear hk0 hn5 hn6
        go_wp2_with fail
        refine (writeString_bld W.heap.size w.heap.size _ ((⟨#[60, 47]⟩ : S) ++ N ++ (⟨#[62]⟩ : S)) _ HB1.out (by simp only [byteCells_len, ByteArray.size_append, size_lit]; simp; omega)).mono ?_
        rintro e w4 ⟨rfl, hB4, hK4⟩
        have HB4 : Hid (Bld W.heap.size w.heap.size (Lib.byteCells (printP ((L.map (·.t)).take (k + 1)))) w4) := HSN.out w4 (by
          have h1 := hB4
          rw [str_cells (show (⟨#[60, 47]⟩ : S) ++ N ++ (⟨#[62]⟩ : S) = bs (([60, 47] : Bs) ++ (x.t.name ++ ([62] : Bs))) from tok_str ([60, 47] : Bs) ([62] : Bs) HN.out.symm)] at h1
          rw [HTE.out]; exact h1)
        have HK4 := Lib.hid (HK1.out.trans hK4)
        clear hB4 hK4
        go_wp2
        go_round
        case rel => exact ⟨k + 1, hlt, by go_num, HB4.out, HK4.out⟩
        case measure => simp [intOf]; omega
      · have HTE : Hid (tokP x.t = tagP x.t [62]) := by show _ = _; unfold tokP; rw [if_neg hn5, if_neg hn6, if_neg hn3, if_pos hk0]
        clear hk0 hn5 hn6 hn3
        go_wp2_with fail
        refine (HTG.out ⟨#[62]⟩ (by rw [size_lit]; simp)).mono ?_
        rintro e w4 ⟨rfl, hB4, hK4⟩
        have HB4 : Hid (Bld W.heap.size w.heap.size (Lib.byteCells (printP ((L.map (·.t)).take (k + 1)))) w4) := HSN.out w4 (by rw [HTE.out]; exact hB4)
        have HK4 := Lib.hid (HK1.out.trans hK4)
        clear hB4 hK4
        go_wp2
        go_round
        case rel => exact ⟨k + 1, hlt, by go_num, HB4.out, HK4.out⟩
        case measure => simp [intOf]; omega
      · have HTE : Hid (tokP x.t = tagP x.t [47, 62]) := by show _ = _; unfold tokP; rw [if_neg hn5, if_neg hn6, if_neg hn3, if_neg hn1, if_pos hk0]
        clear hk0 hn5 hn6 hn3 hn1
        go_wp2_with fail
        refine (HTG.out ⟨#[47, 62]⟩ (by rw [size_lit]; simp)).mono ?_
        rintro e w4 ⟨rfl, hB4, hK4⟩
        have HB4 : Hid (Bld W.heap.size w.heap.size (Lib.byteCells (printP ((L.map (·.t)).take (k + 1)))) w4) := HSN.out w4 (by rw [HTE.out]; exact hB4)
        have HK4 := Lib.hid (HK1.out.trans hK4)
        clear hB4 hK4
        go_wp2
        go_round
        case rel => exact ⟨k + 1, hlt, by go_num, HB4.out, HK4.out⟩
        case measure => simp [intOf]; omega
      · have HTE : Hid (tokP x.t = esc false x.t.text) := by show _ = _; unfold tokP; rw [if_neg hn5, if_neg hn6, if_neg hn3, if_neg hn1, if_neg hn2, if_pos hk0]
        clear hk0 hn5 hn6 hn3 hn1 hn2
        go_wp2_with fail
        refine (escape_any X false _ hXs).mono ?_
        rintro e w3 ⟨rfl, hb3⟩
        have HB3 := Lib.hid (HB1.out.keep hb3)
        have HK3 := Lib.hid (HK1.out.trans (Kept.of_below (R := W.heap.size) (b := w.heap.size) hb3 (by simp; omega)))
        have hEl : (esc false X.data.toList).length ≤ 6000000000 := by
          have := (esc_len false X.data.toList).2
          rw [size_data] at this; omega
        clear hb3
        go_wp2_with fail
        refine (writeString_bld W.heap.size w.heap.size _ _ _ HB3.out (by rw [byteCells_len, bs_size]; omega)).mono ?_
        rintro e w4 ⟨rfl, hB4, hK4⟩
        have HB4 : Hid (Bld W.heap.size w.heap.size (Lib.byteCells (printP ((L.map (·.t)).take (k + 1)))) w4) := HSN.out w4 (by
          have h1 := hB4
          rw [str_cells rfl] at h1
          rw [HTE.out]
          have e1 : X.data.toList = x.t.text := by rw [← HX.out, bs_data]
          rw [e1] at h1; exact h1)
        have HK4 := Lib.hid (HK3.out.trans hK4)
        clear hB4 hK4
        go_wp2
        go_round
        case rel => exact ⟨k + 1, hlt, by go_num, HB4.out, HK4.out⟩
        case measure => simp [intOf]; omega
      · have HTE : Hid (tokP x.t = []) := by show _ = _; unfold tokP; rw [if_neg hn5, if_neg hn6, if_neg hn3, if_neg hn1, if_neg hn2, if_neg hn4]
        clear hn5 hn6 hn3 hn1 hn2 hn4
        go_wp2
        go_round
        case rel => exact ⟨k + 1, hlt, by go_num, HSN.out _ (by rw [HTE.out, List.append_nil]; exact HB1.out), HK1.out⟩
        case measure => simp [intOf]; omega
    · obtain rfl : k = L.length := by omega
      have hi1 : ¬ (L.length : Int) < (L.length : Int) := by omega
      have hO : (L.map (·.t)).take L.length = L.map (·.t) := List.take_of_length_le (by simp)
      rw [hO] at HBk
      clear hB hK hO
      go_wp2_with fail
      refine (Try.Builder_String_any w.heap.size w.heap.size (printP (L.map (·.t))) wr (HBk.out.isB _ (Nat.le_of_lt hWw) (Nat.le_refl _)) (Nat.le_trans (Nat.le_of_lt hWw) hwr)).mono ?_
      rintro e w2 ⟨rfl, hb2⟩
      have HZ := Lib.hid ((HBE.out.trans (HKk.out.below (Nat.le_of_lt hWw) (Nat.le_refl _))).trans hb2)
      clear hb2
      go_wp2
      go_ret
      exact ⟨rfl, HZ.out⟩

end Go.Proofs.Ytpchljiiappmnaa
