/- The walk of the program's Print; its conditions stand in the theorem. -/
import Derived.Test.YtbbbfjcikhpmbaaGreatJD09
import Derived.Test.YtbbbfjcikhpmbaaGreatJD06

namespace Go.Proofs.YtbbbfjcikhpmbaaGreat
open Go Go.RowKit

def tkW (t : Tk) : Nat := t.name.length + t.text.length + attsW t.attrs + 20
def tksW (l : List Tk) : Nat := (l.map tkW).sum
theorem tokP_len (t : Tk) : (tokP t).length ≤ 6 * tkW t := by
 have h1 := (esc_len false t.text).2
 have h2 := attsP_len t.attrs
 unfold tokP tkW
 repeat' split
 all_goals (try simp only [tagP, sNote, eNote, sHead, eHead, List.length_append, List.length_cons, List.length_nil]); try omega
theorem printP_len (l : List Tk) : (printP l).length ≤ 6 * tksW l := by
 induction l with
 | nil => exact Nat.le_refl _
 | cons t l ih =>
  have := tokP_len t
  show (tokP t ++ printP l).length ≤ _
  unfold tksW at *
  rw [List.length_append, List.map_cons, List.sum_cons]; omega
theorem tksW_take (l : List Tk) (k : Nat) : tksW (l.take k) ≤ tksW l := by
 induction l generalizing k with
 | nil => simp [tksW]
 | cons a l ih =>
  cases k with
  | zero => simp [tksW]
  | succ k => have := ih k; unfold tksW at *; simp only [List.take_succ_cons, List.map_cons, List.sum_cons]; omega
theorem tksW_get {l : List Tk} {k : Nat} (h : k < l.length) : tkW l[k] ≤ tksW l := by
 induction l generalizing k with
 | nil => simp at h
 | cons a l ih =>
  cases k with
  | zero => unfold tksW; simp only [List.map_cons, List.sum_cons, List.getElem_cons_zero]; omega
  | succ k => have := ih (k := k) (by simpa using h); unfold tksW at *; simp only [List.map_cons, List.sum_cons, List.getElem_cons_succ]; omega
theorem printP_snoc {l : List Tk} {k : Nat} (h : k < l.length) : printP (l.take (k + 1)) = printP (l.take k) ++ tokP l[k] := by
 rw [List.take_succ_eq_append_getElem h]; unfold printP; rw [List.flatMap_append]; simp
/-- A slice that reads as tokens, their places besides. -/
structure TkMs (w : World) (v : Value) (L : List TkM) : Prop where
 own : SliceOf 7 tkC w v L
 att : ∀ x ∈ L, SliceOf 2 atC w x.av x.t.attrs
theorem tok_str (p q : Bs) {N : S} {t : Bs} (h : N = bs t) : (bs p : S) ++ N ++ (bs q : S) = bs (p ++ (t ++ q)) := by rw [h, bs_append, bs_append, List.append_assoc]
theorem kind_cases (K : Int) : ((K == 5) = true ∧ K = 5) ∨ ((K == 5) = false ∧ K ≠ 5 ∧ (((K == 6) = true ∧ K = 6) ∨ ((K == 6) = false ∧ K ≠ 6 ∧ (((K == 3) = true ∧ K = 3) ∨ ((K == 3) = false ∧ K ≠ 3 ∧ (((K == 1) = true ∧ K = 1) ∨ ((K == 1) = false ∧ K ≠ 1 ∧ (((K == 2) = true ∧ K = 2) ∨ ((K == 2) = false ∧ K ≠ 2 ∧ (((K == 4) = true ∧ K = 4) ∨ ((K == 4) = false ∧ K ≠ 4))))))))))) := by
 have h : ∀ n : Int, ((K == n) = true ∧ K = n) ∨ ((K == n) = false ∧ K ≠ n) := fun n => by
  by_cases e : K = n
  · exact .inl ⟨beq_iff_eq.2 e, e⟩
  · exact .inr ⟨beq_eq_false_iff_ne.2 e, e⟩
 rcases h 5 with a | ⟨a, b⟩
 · exact .inl a
 refine .inr ⟨a, b, ?_⟩
 rcases h 6 with a | ⟨a, b⟩
 · exact .inl a
 refine .inr ⟨a, b, ?_⟩
 rcases h 3 with a | ⟨a, b⟩
 · exact .inl a
 refine .inr ⟨a, b, ?_⟩
 rcases h 1 with a | ⟨a, b⟩
 · exact .inl a
 refine .inr ⟨a, b, ?_⟩
 rcases h 2 with a | ⟨a, b⟩
 · exact .inl a
 refine .inr ⟨a, b, ?_⟩
 rcases h 4 with a | ⟨a, b⟩
 · exact .inl a
 exact .inr ⟨a, b⟩
set_option maxRecDepth 100000 in
set_option maxHeartbeats 16000000 in
theorem print_any (v : Value) (L : List TkM) (w : World) (h : TkMs w v L) (hsz : tksW (L.map (·.t)) ≤ 1000000000) :
    Calls Tryz.prog 78 #[v] w fun e w' => e = .returned (.string (bs (printP (L.map (·.t))))) ∧ Below w.heap.size w w' := by
 obtain ⟨ao, cap, rfl⟩ := h.own.shape
 have hcap : L.length ≤ 9223372036854775807 := by
  obtain ⟨_, _, e, h2, h3, -⟩ := h.own
  unfold maxLen at h3; omega
 have HT := Lib.hid h
 clear h
 go_enter Tryz.func78, Tryz.ntmps78
 go_wp2_with fail
 refine wp_world ?_
 intro W hW
 have hB0 := Bld.fresh w (w.alloc (.cells #[.pointer none, .slice none 0 0] 109)) (Below.refl _ _)
 have hbel : Below w.heap.size w W := by rw [hW]; exact (Below.refl _ _).alloc (Nat.le_refl _) _
 have hWs : W.heap.size = w.heap.size + 1 := by rw [hW]; simp
 rw [← hW] at hB0
 have HB0 := Lib.hid hB0
 have HBE := Lib.hid hbel
 have HWS := Lib.hid hWs
 clear hW hB0 hbel hWs
 go_loopw [8] (fun i wr => ∃ k : Nat, k ≤ L.length ∧ i = .int .i64 k ∧ Bld W.heap.size w.heap.size (Lib.byteCells (printP ((L.map (·.t)).take k))) wr ∧ Kept W.heap.size w.heap.size W wr) (fun i _ => L.length - (intOf i).toNat)
 case atStart => exact ⟨0, Nat.zero_le _, rfl, HB0.out, Kept.refl _ _ _⟩
 case round =>
  obtain ⟨k, hk, rfl, hB, hK⟩ := hrel
  have HBk := Lib.hid hB
  have HKk := Lib.hid hK
  have hwr := hK.size
  have hlen : (printP ((L.map (·.t)).take k)).length ≤ 6000000000 := by
   have h1 := printP_len ((L.map (·.t)).take k)
   have h2 := tksW_take (L.map (·.t)) k
   omega
  have hWw : w.heap.size < W.heap.size := by have := HWS.out; omega
  by_cases hlt : k < L.length
  · have hltM : k < (L.map (·.t)).length := by simpa using hlt
    obtain ⟨g, o, rfl, hg, hc⟩ := HT.out.own.at hlt
    have hA := HT.out.att L[k] (List.getElem_mem hlt)
    have HBw : Hid (Below w.heap.size w wr) := HBE.out.trans (hK.below (Nat.le_of_lt hWw) (Nat.le_refl _))
    have tr : ∀ q u, w.cell? ⟨g, q, none⟩ = some u → wr.cell? ⟨g, q, none⟩ = some u := fun q u hq => (HBw.out.cell (by exact hg)).trans hq
    have d0 := tr _ _ (hc 0 _ rfl)
    have d1 := tr _ _ (hc 1 _ rfl)
    have d2 := tr _ _ (hc 2 _ rfl)
    have d3 := tr _ _ (hc 3 _ rfl)
    have d4 := tr _ _ (hc 4 _ rfl)
    have d5 := tr _ _ (hc 5 _ rfl)
    have d6 := tr _ _ (hc 6 _ rfl)
    rw [Nat.add_zero] at d0
    have hgr : g < wr.heap.size := Nat.lt_of_lt_of_le hg (Nat.le_trans (Nat.le_of_lt hWw) hwr)
    have hi1 : (k : Int) < (L.length : Int) := by omega
    have hw := tksW_get hltM
    rw [List.getElem_map] at hw
    have HSN : Hid (∀ w4, Bld W.heap.size w.heap.size (Lib.byteCells (printP ((L.map (·.t)).take k) ++ tokP L[k].t)) w4 → Bld W.heap.size w.heap.size (Lib.byteCells (printP ((L.map (·.t)).take (k + 1)))) w4) := fun w4 h4 => by
     rw [printP_snoc hltM, List.getElem_map]; exact h4
    have htw : tkW L[k].t ≤ 1000000000 := by omega
    unfold tkW at htw
    obtain ⟨ca, cpa, hav⟩ := hA.shape
    obtain ⟨N, hN⟩ : ∃ N : S, bs L[k].t.name = N := ⟨_, rfl⟩
    obtain ⟨X, hX⟩ : ∃ X : S, bs L[k].t.text = X := ⟨_, rfl⟩
    have hNs : N.size ≤ 1000000000 := by rw [← hN, bs_size]; omega
    have hXs : X.size ≤ 1000000000 := by rw [← hX, bs_size]; omega
    have HN := Lib.hid hN
    have HX := Lib.hid hX
    have HA := Lib.hid hA
    rw [hN] at d1
    rw [hX] at d3
    have HAV := Lib.hid hav
    rw [hav] at d2
    clear hc tr hw hB hK hN hX hA hav
    generalize L[k] = x at *
    have HB1 := Lib.hid (HBk.out.keep ((Below.refl _ _).alloc (Nat.le_refl _) (.cells #[.int .i64 x.t.kind, .string N, .slice ca x.t.attrs.length cpa, .string X, .int .i64 x.off, .int .i64 x.line, .int .i64 x.col] 117)))
    have HK1 := Lib.hid (HKk.out.trans (Kept.of_below (R := W.heap.size) (b := w.heap.size) ((Below.refl _ _).alloc (Nat.le_refl _) (.cells #[.int .i64 x.t.kind, .string N, .slice ca x.t.attrs.length cpa, .string X, .int .i64 x.off, .int .i64 x.line, .int .i64 x.col] 117)) hwr))
    generalize printP ((L.map (·.t)).take k) = P at *
    have HTG : Hid (∀ fin : S, fin.size ≤ 2 → Calls Tryz.prog 108 #[.pointer (some ⟨w.heap.size, 0, none⟩), .agg #[.int .i64 x.t.kind, .string N, .slice ca x.t.attrs.length cpa, .string X, .int .i64 x.off, .int .i64 x.line, .int .i64 x.col], .string fin] (wr.alloc (.cells #[.int .i64 x.t.kind, .string N, .slice ca x.t.attrs.length cpa, .string X, .int .i64 x.off, .int .i64 x.line, .int .i64 x.col] 117))
        fun e w' => e = .returned (.tuple #[]) ∧ Bld W.heap.size w.heap.size (Lib.byteCells (P ++ tagP x.t fin.data.toList)) w' ∧ Kept W.heap.size w.heap.size (wr.alloc (.cells #[.int .i64 x.t.kind, .string N, .slice ca x.t.attrs.length cpa, .string X, .int .i64 x.off, .int .i64 x.line, .int .i64 x.col] 117)) w') := fun fin hf => by
     have := tag_any w W.heap.size w.heap.size P x fin _ HB1.out HA.out (HBw.out.alloc (Nat.le_trans (Nat.le_of_lt hWw) hwr) _) (Nat.le_of_lt hWw) (Nat.le_refl _) (by omega) (by omega)
     rw [HN.out, HX.out, HAV.out] at this
     exact this
    have hks := kind_cases x.t.kind
    rcases hks with ⟨e5, hk0⟩ | ⟨e5, hn5, ⟨e6, hk0⟩ | ⟨e6, hn6, ⟨e3, hk0⟩ | ⟨e3, hn3, ⟨e1, hk0⟩ | ⟨e1, hn1, ⟨e2, hk0⟩ | ⟨e2, hn2, ⟨e4, hk0⟩ | ⟨e4, hn4⟩⟩⟩⟩⟩⟩
    · have HTE : Hid (tokP x.t = sNote ++ (x.t.text ++ eNote)) := by show _ = _; unfold tokP; rw [if_pos hk0]
      clear hk0 
      go_wp2_with fail
      refine (writeString_bld W.heap.size w.heap.size _ ((⟨#[60, 33, 45, 45]⟩ : S) ++ X ++ (⟨#[45, 45, 62]⟩ : S)) _ HB1.out (by simp only [byteCells_len, ByteArray.size_append, size_lit]; simp; omega)).mono ?_
      rintro e w4 ⟨rfl, hB4, hK4⟩
      have HB4 : Hid (Bld W.heap.size w.heap.size (Lib.byteCells (printP ((L.map (·.t)).take (k + 1)))) w4) := HSN.out w4 (by
       have h1 := hB4
       rw [str_cells (show (⟨#[60, 33, 45, 45]⟩ : S) ++ X ++ (⟨#[45, 45, 62]⟩ : S) = bs (sNote ++ (x.t.text ++ eNote)) from tok_str sNote eNote HX.out.symm)] at h1
       rw [HTE.out]; exact h1)
      have HK4 := Lib.hid (HK1.out.trans hK4)
      clear hB4 hK4
      go_wp2
      go_round
      case rel => exact ⟨k + 1, hlt, by go_num, HB4.out, HK4.out⟩
      case measure => simp [intOf]; omega
    · have HTE : Hid (tokP x.t = sHead ++ (x.t.text ++ eHead)) := by show _ = _; unfold tokP; rw [if_neg hn5, if_pos hk0]
      clear hk0 hn5
      go_wp2_with fail
      refine (writeString_bld W.heap.size w.heap.size _ ((⟨#[60, 63, 120, 109, 108]⟩ : S) ++ X ++ (⟨#[63, 62]⟩ : S)) _ HB1.out (by simp only [byteCells_len, ByteArray.size_append, size_lit]; simp; omega)).mono ?_
      rintro e w4 ⟨rfl, hB4, hK4⟩
      have HB4 : Hid (Bld W.heap.size w.heap.size (Lib.byteCells (printP ((L.map (·.t)).take (k + 1)))) w4) := HSN.out w4 (by
       have h1 := hB4
       rw [str_cells (show (⟨#[60, 63, 120, 109, 108]⟩ : S) ++ X ++ (⟨#[63, 62]⟩ : S) = bs (sHead ++ (x.t.text ++ eHead)) from tok_str sHead eHead HX.out.symm)] at h1
       rw [HTE.out]; exact h1)
      have HK4 := Lib.hid (HK1.out.trans hK4)
      clear hB4 hK4
      go_wp2
      go_round
      case rel => exact ⟨k + 1, hlt, by go_num, HB4.out, HK4.out⟩
      case measure => simp [intOf]; omega
    · have HTE : Hid (tokP x.t = ([60, 47] : Bs) ++ (x.t.name ++ ([62] : Bs))) := by show _ = _; unfold tokP; rw [if_neg hn5, if_neg hn6, if_pos hk0]
      clear hk0 hn5 hn6
      go_wp2_with fail
      refine (writeString_bld W.heap.size w.heap.size _ ((⟨#[60, 47]⟩ : S) ++ N ++ (⟨#[62]⟩ : S)) _ HB1.out (by simp only [byteCells_len, ByteArray.size_append, size_lit]; simp; omega)).mono ?_
      rintro e w4 ⟨rfl, hB4, hK4⟩
      have HB4 : Hid (Bld W.heap.size w.heap.size (Lib.byteCells (printP ((L.map (·.t)).take (k + 1)))) w4) := HSN.out w4 (by
       have h1 := hB4
       rw [str_cells (show (⟨#[60, 47]⟩ : S) ++ N ++ (⟨#[62]⟩ : S) = bs (([60, 47] : Bs) ++ (x.t.name ++ ([62] : Bs))) from tok_str ([60, 47] : Bs) ([62] : Bs) HN.out.symm)] at h1
       rw [HTE.out]; exact h1)
      have HK4 := Lib.hid (HK1.out.trans hK4)
      clear hB4 hK4
      go_wp2
      go_round
      case rel => exact ⟨k + 1, hlt, by go_num, HB4.out, HK4.out⟩
      case measure => simp [intOf]; omega
    · have HTE : Hid (tokP x.t = tagP x.t [62]) := by show _ = _; unfold tokP; rw [if_neg hn5, if_neg hn6, if_neg hn3, if_pos hk0]
      clear hk0 hn5 hn6 hn3
      go_wp2_with fail
      refine (HTG.out ⟨#[62]⟩ (by rw [size_lit]; simp)).mono ?_
      rintro e w4 ⟨rfl, hB4, hK4⟩
      have HB4 : Hid (Bld W.heap.size w.heap.size (Lib.byteCells (printP ((L.map (·.t)).take (k + 1)))) w4) := HSN.out w4 (by rw [HTE.out]; exact hB4)
      have HK4 := Lib.hid (HK1.out.trans hK4)
      clear hB4 hK4
      go_wp2
      go_round
      case rel => exact ⟨k + 1, hlt, by go_num, HB4.out, HK4.out⟩
      case measure => simp [intOf]; omega
    · have HTE : Hid (tokP x.t = tagP x.t [47, 62]) := by show _ = _; unfold tokP; rw [if_neg hn5, if_neg hn6, if_neg hn3, if_neg hn1, if_pos hk0]
      clear hk0 hn5 hn6 hn3 hn1
      go_wp2_with fail
      refine (HTG.out ⟨#[47, 62]⟩ (by rw [size_lit]; simp)).mono ?_
      rintro e w4 ⟨rfl, hB4, hK4⟩
      have HB4 : Hid (Bld W.heap.size w.heap.size (Lib.byteCells (printP ((L.map (·.t)).take (k + 1)))) w4) := HSN.out w4 (by rw [HTE.out]; exact hB4)
      have HK4 := Lib.hid (HK1.out.trans hK4)
      clear hB4 hK4
      go_wp2
      go_round
      case rel => exact ⟨k + 1, hlt, by go_num, HB4.out, HK4.out⟩
      case measure => simp [intOf]; omega
    · have HTE : Hid (tokP x.t = esc false x.t.text) := by show _ = _; unfold tokP; rw [if_neg hn5, if_neg hn6, if_neg hn3, if_neg hn1, if_neg hn2, if_pos hk0]
      clear hk0 hn5 hn6 hn3 hn1 hn2
      go_wp2_with fail
      refine (escape_any X false _ hXs).mono ?_
      rintro e w3 ⟨rfl, hb3⟩
      have HB3 := Lib.hid (HB1.out.keep hb3)
      have HK3 := Lib.hid (HK1.out.trans (Kept.of_below (R := W.heap.size) (b := w.heap.size) hb3 (by simp; omega)))
      have hEl : (esc false X.data.toList).length ≤ 6000000000 := by
       have := (esc_len false X.data.toList).2
       rw [size_data] at this; omega
      clear hb3
      go_wp2_with fail
      refine (writeString_bld W.heap.size w.heap.size _ _ _ HB3.out (by rw [byteCells_len, bs_size]; omega)).mono ?_
      rintro e w4 ⟨rfl, hB4, hK4⟩
      have HB4 : Hid (Bld W.heap.size w.heap.size (Lib.byteCells (printP ((L.map (·.t)).take (k + 1)))) w4) := HSN.out w4 (by
       have h1 := hB4
       rw [str_cells rfl] at h1
       rw [HTE.out]
       have e1 : X.data.toList = x.t.text := by rw [← HX.out, bs_data]
       rw [e1] at h1; exact h1)
      have HK4 := Lib.hid (HK3.out.trans hK4)
      clear hB4 hK4
      go_wp2
      go_round
      case rel => exact ⟨k + 1, hlt, by go_num, HB4.out, HK4.out⟩
      case measure => simp [intOf]; omega
    · have HTE : Hid (tokP x.t = []) := by show _ = _; unfold tokP; rw [if_neg hn5, if_neg hn6, if_neg hn3, if_neg hn1, if_neg hn2, if_neg hn4]
      clear hn5 hn6 hn3 hn1 hn2 hn4
      go_wp2
      go_round
      case rel => exact ⟨k + 1, hlt, by go_num, HSN.out _ (by rw [HTE.out, List.append_nil]; exact HB1.out), HK1.out⟩
      case measure => simp [intOf]; omega
  · obtain rfl : k = L.length := by omega
    have hi1 : ¬ (L.length : Int) < (L.length : Int) := by omega
    have hO : (L.map (·.t)).take L.length = L.map (·.t) := List.take_of_length_le (by simp)
    rw [hO] at HBk
    clear hB hK hO
    go_wp2_with fail
    refine (Tryz.Builder_String_any w.heap.size w.heap.size (printP (L.map (·.t))) wr (HBk.out.isB _ (Nat.le_of_lt hWw) (Nat.le_refl _)) (Nat.le_trans (Nat.le_of_lt hWw) hwr)).mono ?_
    rintro e w2 ⟨rfl, hb2⟩
    have HZ := Lib.hid ((HBE.out.trans (HKk.out.below (Nat.le_of_lt hWw) (Nat.le_refl _))).trans hb2)
    clear hb2
    go_wp2
    go_ret
    exact ⟨rfl, HZ.out⟩

end Go.Proofs.YtbbbfjcikhpmbaaGreat

/- Plain law: what is printed of a text's tokens is at most six times as long as the text; no program in sight. -/

namespace Go.Proofs.YtbbbfjcikhpmbaaGreat
open Go Go.RowKit

theorem refSpec_less {s t : Bs} {n : Nat} (h : refSpec s = .ok t n) : t.length ≤ n := by
 have h4 := refSpec_len h
 have hn : ∀ hex a d, numRef hex a d = .ok t n → 2 ≤ a → t.length ≤ n := by
  intro hex a d h ha
  have := numRef_min h
  omega
 cases s with
 | nil => cases h
 | cons c r =>
  simp only [refSpec] at h
  split at h
  · cases h
  · split at h
    · split at h
      · exact hn _ _ _ h (by decide)
      · exact hn _ _ _ h (by decide)
    · split at h
      · split at h <;> cases h
      · split at h
        · split at h
          · cases h; simp
          · cases h
        · cases h
theorem letters_eat {stop : UInt8} (n : Nat) : ∀ {l s r : Bs}, l.length ≤ n → lettersGo stop 0 l = .ok s r → s.length + r.length ≤ l.length := by
 induction n with
 | zero =>
  intro l s r hn h
  have : l = [] := List.eq_nil_of_length_eq_zero (by omega)
  subst this
  cases h; simp
 | succ n ih =>
  intro l s r hn h
  cases l with
  | nil => cases h; simp
  | cons c l =>
   simp only [List.length_cons] at hn
   simp only [lettersGo] at h
   split at h
   · cases h; simp
   · split at h
     · cases hr : refSpec (c :: l) with
       | bad e => rw [hr] at h; cases h
       | ok t k =>
        rw [hr] at h
        obtain ⟨a, h1, rfl⟩ := map_ok h
        obtain ⟨k1, k2⟩ := refSpec_size hr
        have k3 := refSpec_less hr
        rw [lettersGo_drop] at h1
        have := ih (by rw [List.length_drop]; omega) h1
        rw [List.length_drop] at this
        simp only [List.length_cons, List.length_append] at k2 ⊢
        omega
     · split at h
       · cases h
       · obtain ⟨a, h1, rfl⟩ := map_ok h
         have := ih (by omega) h1
         simp only [List.length_cons]; omega
theorem nameR_eat {e : Int} {l nm r : Bs} (h : nameR e l = .ok nm r) : nm.length + r.length = l.length := by
 cases l with
 | nil => cases h
 | cons c l =>
  simp only [nameR] at h
  split at h
  · cases h
  · cases h
    have := nameLen_le (c :: l)
    rw [List.length_take, List.length_drop]; omega
theorem wantC_eat {c : UInt8} {l r : Bs} {u : Unit} (h : wantC c l = .ok u r) : r.length + 1 = l.length := by
 cases l with
 | nil => cases h
 | cons x l => simp only [wantC] at h; split at h <;> cases h; simp
theorem valueR_eat {l s r : Bs} (h : valueR l = .ok s r) : s.length + r.length + 2 ≤ l.length := by
 cases l with
 | nil => cases h
 | cons q l =>
  simp only [valueR] at h
  split at h
  · obtain ⟨a, r1, h1, h2⟩ := bind_ok h
    have := letters_eat l.length (Nat.le_refl _) h1
    split at h2
    · cases h2
    · cases h2; simp only [List.length_cons] at this ⊢; omega
  · cases h
def attsE (l : List At2) : Nat := (l.map fun a => a.1.length + a.2.length + 4).sum
theorem attsE_app (l m : List At2) : attsE (l ++ m) = attsE l + attsE m := by unfold attsE; rw [List.map_append, List.sum_append]
theorem attsW_E (l : List At2) : attsW l ≤ 6 * attsE l := by
 induction l with
 | nil => exact Nat.le_refl _
 | cons a l ih => unfold attsW attsE at *; simp only [List.map_cons, List.sum_cons]; omega
theorem attrR_eat {acc : List At2} {l r : Bs} {a : At2} (h : attrR acc l = .ok a r) : a.1.length + a.2.length + 3 + r.length ≤ l.length := by
 rw [attrR_eq] at h
 obtain ⟨nm, r1, h1, h2⟩ := bind_ok h
 split at h2
 · cases h2
 · unfold restR at h2
   obtain ⟨_, r2, h3, h4⟩ := bind_ok h2
   obtain ⟨v, h5, rfl⟩ := map_ok h4
   have e1 := nameR_eat h1
   have e2 := wantC_eat h3
   have e3 := valueR_eat h5
   have e4 := blanks_le r1
   have e5 := blanks_le r2
   simp only; omega
theorem attrsGo_eat (f : Nat) (acc : List At2) (l : Bs) {res : List At2} {r : Bs} (h : attrsGo f acc l = .ok res r) : attsE res + r.length ≤ attsE acc + l.length := by
 induction f generalizing acc l with
 | zero => cases h
 | succ f ih =>
  simp only [attrsGo] at h
  split at h
  · cases h; have := blanks_le l; omega
  · rename_i ht
    cases ha : attrR acc (blanks l) with
    | bad e r' => rw [ha] at h; cases h
    | ok a r' =>
     rw [ha] at h
     have e1 := attrR_eat ha
     have e2 := ih _ _ h
     have e3 := blanks_le l
     have e4 : (blanks l).length ≠ l.length := by
      intro e
      apply ht
      unfold tagEnds
      rw [e]; simp
     rw [attsE_app] at e2
     have e5 : attsE [a] = a.1.length + a.2.length + 4 := by simp [attsE]
     omega
theorem openR_eat {l r : Bs} {t : Tk} (h : openR l = .ok t r) : t.name.length + attsE t.attrs + 1 + r.length ≤ l.length ∧ t.text = [] := by
 rw [openR_eq] at h
 obtain ⟨nm, r1, h1, h2⟩ := bind_ok h
 obtain ⟨ats, r2, h3, h4⟩ := bind_ok h2
 have e1 := nameR_eat h1
 have e2 := attrsGo_eat _ _ _ h3
 have e0 : attsE [] = 0 := rfl
 cases r2 with
 | nil => cases h4
 | cons c r2 =>
  by_cases hc : c = 47
  · subst hc
    rw [endR_47] at h4
    obtain ⟨_, h5, rfl⟩ := map_ok h4
    have := wantC_eat h5
    simp only [List.length_cons] at e2
    exact ⟨by simp only; omega, rfl⟩
  · rw [endR_no nm ats r2 hc] at h4
    obtain ⟨_, h5, rfl⟩ := map_ok h4
    have := wantC_eat h5
    exact ⟨by simp only; omega, rfl⟩
theorem closeR_eat {l r : Bs} {t : Tk} (h : closeR l = .ok t r) : t.kind = 3 ∧ t.name.length + 1 + r.length ≤ l.length ∧ t.attrs = [] ∧ t.text = [] := by
 obtain ⟨nm, r1, h1, h2⟩ := bind_ok h
 obtain ⟨_, h3, rfl⟩ := map_ok h2
 have e1 := nameR_eat h1
 have e2 := wantC_eat h3
 have e3 := blanks_le r1
 exact ⟨rfl, by simp only; omega, rfl, rfl⟩
theorem tag_len (t : Tk) (fin : Bs) : (tagP t fin).length ≤ 1 + t.name.length + attsW t.attrs + fin.length := by
 have := attsP_len t.attrs
 unfold tagP
 simp only [List.length_cons, List.length_append]; omega
/-- What a token takes of the text. -/
theorem tokenR_eat {f : Bool} {l r : Bs} {t : Tk} (h : tokenR f l = .ok t r) (hl : l ≠ []) : (tokP t).length + 6 * r.length ≤ 6 * l.length ∧ tkW t + 26 * r.length ≤ 26 * l.length := by
 have hless := tokenR_less h hl
 unfold tokenR at h
 split at h
 · rename_i hp
   obtain ⟨s, h1, rfl⟩ := map_ok h
   have e1 := congrArg List.length (plain_again h1).2.1
   obtain ⟨z, hz⟩ := List.isPrefixOf_iff_prefix.1 hp
   have e2 := congrArg List.length hz
   have e0 : tokP ⟨5, [], [], s⟩ = sNote ++ (s ++ eNote) := by unfold tokP; rw [if_pos rfl]
   rw [e0]
   unfold tkW
   simp only [List.length_append, List.length_drop, sNote, eNote, List.length_cons, List.length_nil, attsW, List.map_nil, List.sum_nil] at *
   omega
 · split at h
   · rename_i hp
     obtain ⟨s, h1, rfl⟩ := map_ok h
     have e1 := congrArg List.length (plain_again h1).2.1
     obtain ⟨z, hz⟩ := List.isPrefixOf_iff_prefix.1 hp
     have e2 := congrArg List.length hz
     have e3 := (esc_len false s).2
     rw [tokP_4 rfl]
     unfold tkW
     simp only [List.length_append, List.length_drop, sData, eData, List.length_cons, List.length_nil, attsW, List.map_nil, List.sum_nil] at *
     omega
   · split at h
     · rename_i hh
       obtain ⟨s, h1, rfl⟩ := map_ok h
       have e1 := congrArg List.length (plain_again h1).2.1
       rw [Bool.and_eq_true] at hh
       have hh2 := hh.2
       unfold isHead at hh2
       rw [Bool.and_eq_true] at hh2
       obtain ⟨z, hz⟩ := List.isPrefixOf_iff_prefix.1 hh2.1
       have e2 := congrArg List.length hz
       have e0 : tokP ⟨6, [], [], s⟩ = sHead ++ (s ++ eHead) := by unfold tokP; rw [if_neg (by simp), if_pos rfl]
       rw [e0]
       unfold tkW
       simp only [List.length_append, List.length_drop, sHead, eHead, List.length_cons, List.length_nil, attsW, List.map_nil, List.sum_nil] at *
       omega
     · split at h
       · obtain ⟨hk, e1, e2, e3⟩ := closeR_eat h
         have e0 : tokP t = [60, 47] ++ (t.name ++ [62]) := by unfold tokP; rw [hk]; simp
         rw [e0]
         unfold tkW
         rw [e2, e3]
         simp only [List.length_append, List.length_cons, List.length_nil, attsW, List.map_nil, List.sum_nil]
         omega
       · obtain ⟨e1, e2⟩ := openR_eat h
         have hw := attsW_E t.attrs
         have hlen : (tokP t).length ≤ 3 + t.name.length + attsW t.attrs := by
          rcases openR_kind h with hk | hk
          · have e0 : tokP t = tagP t [62] := by unfold tokP; rw [hk]; simp
            have := tag_len t [62]
            rw [e0]; simp at this; omega
          · have e0 : tokP t = tagP t [47, 62] := by unfold tokP; rw [hk]; simp
            have := tag_len t [47, 62]
            rw [e0]; simp at this; omega
         unfold tkW
         rw [e2]
         simp only [List.length_cons, List.length_nil] at *
         omega
       · obtain ⟨s, h1, rfl⟩ := map_ok h
         have e1 := letters_eat l.length (Nat.le_refl _) h1
         have e3 := (esc_len false s).2
         rw [tokP_4 rfl]
         unfold tkW
         simp only [List.length_nil, attsW, List.map_nil, List.sum_nil] at *
         omega
theorem allGo_eat (n : Nat) (f : Bool) (acc : List (Tk × Bs)) (l : Bs) {res : List (Tk × Bs)} {r : Bs} (h : allGo n f acc l = .ok res r) : (printP (res.map (·.1))).length ≤ (printP (acc.map (·.1))).length + 6 * l.length ∧ tksW (res.map (·.1)) ≤ tksW (acc.map (·.1)) + 26 * l.length := by
 induction n generalizing f acc l with
 | zero => cases l with
  | nil => cases h; exact ⟨by omega, by omega⟩
  | cons c l => cases h
 | succ n ih =>
  cases l with
  | nil => cases h; exact ⟨by omega, by omega⟩
  | cons c l =>
   simp only [allGo] at h
   cases ht : tokenR f (c :: l) with
   | bad e r' => rw [ht] at h; cases h
   | ok t r' =>
    rw [ht] at h
    obtain ⟨i1, i2⟩ := ih _ _ _ h
    obtain ⟨j1, j2⟩ := tokenR_eat ht (by simp)
    have k1 : (printP ((acc ++ [(t, c :: l)]).map (·.1))).length = (printP (acc.map (·.1))).length + (tokP t).length := by
     rw [List.map_append, printP_app, List.length_append]; simp [printP]
    have k2 : tksW ((acc ++ [(t, c :: l)]).map (·.1)) = tksW (acc.map (·.1)) + tkW t := by
     unfold tksW; rw [List.map_append, List.map_append, List.sum_append]; simp
    rw [k1] at i1
    rw [k2] at i2
    omega
theorem allR_eat {T : Bs} {acc : List (Tk × Bs)} {r : Bs} (h : allR T = .ok acc r) : (printP (acc.map (·.1))).length ≤ 6 * T.length ∧ tksW (acc.map (·.1)) ≤ 26 * T.length := by
 have := allGo_eat _ _ _ _ h
 simpa [printP, tksW] using this

end Go.Proofs.YtbbbfjcikhpmbaaGreat

/- The walk of the program's reader's token where it reads letters; the conditions stand in the theorem. -/

namespace Go.Proofs.YtbbbfjcikhpmbaaGreat
open Go Go.RowKit

set_option maxRecDepth 100000 in
set_option maxHeartbeats 8000000 in
theorem tok_text (b : Nat) (s : S) (l : Bs) (ao : Option Addr) (cap : Nat) (L : List TkM) (m : Int) (w : World) (h : Toks w b s l (.slice ao L.length cap) L) (hs : s.size ≤ 65536) (hm : w.cell? ⟨0, 0, none⟩ = some (.int .i64 m)) (hL : L.length ≤ 1000000)
    (hno : sNote.isPrefixOf l = false) (hno2 : sData.isPrefixOf l = false) (hh : pos s l = 0 → isHead l = false) (hlt : ([60] : Bs).isPrefixOf l = false) :
    Calls Tryz.prog 111 #[.pointer (some ⟨b, 0, none⟩)] w (OutT b s (pos s l) L w ((letters 60 l).map fun t => ⟨4, [], [], t⟩)) := by
 have hlt0 := h.rd.box.lt
 have c1 := h.rd.c1
 have H0 := Lib.hid h
 have hs2 : s.size ≤ 1000000 := by omega
 have HM := Lib.hid hm
 have hp := pos_add h.rd.suf
 have hpb : (pos s l : Int) ≤ 65536 := by omega
 have HA : Hid (∀ w, Rd w b s l (.slice ao L.length cap) → Calls Tryz.prog 134 #[.pointer (some ⟨b, 0, none⟩), .string ⟨#[60, 33, 45, 45]⟩] w (Qt (.bool false) w)) := fun w h => by
  have := has_pre b s l (.slice ao L.length cap) ⟨#[60, 33, 45, 45]⟩ w h
  rw [show (⟨#[60, 33, 45, 45]⟩ : S).data.toList.isPrefixOf l = false from hno] at this; exact this
 have HB : Hid (∀ w, Rd w b s l (.slice ao L.length cap) → Calls Tryz.prog 134 #[.pointer (some ⟨b, 0, none⟩), .string ⟨#[60, 33, 91, 67, 68, 65, 84, 65, 91]⟩] w (Qt (.bool false) w)) := fun w h => by
  have := has_pre b s l (.slice ao L.length cap) ⟨#[60, 33, 91, 67, 68, 65, 84, 65, 91]⟩ w h
  rw [show (⟨#[60, 33, 91, 67, 68, 65, 84, 65, 91]⟩ : S).data.toList.isPrefixOf l = false from hno2] at this; exact this
 have HD : Hid (∀ w, Rd w b s l (.slice ao L.length cap) → Calls Tryz.prog 134 #[.pointer (some ⟨b, 0, none⟩), .string ⟨#[60]⟩] w (Qt (.bool false) w)) := fun w h => by
  have := has_pre b s l (.slice ao L.length cap) ⟨#[60]⟩ w h
  rw [show (⟨#[60]⟩ : S).data.toList.isPrefixOf l = false from hlt] at this; exact this
 have hlt2 : ([60, 47] : Bs).isPrefixOf l = false := by
  cases l with
  | nil => rfl
  | cons c r => simp only [List.isPrefixOf, Bool.and_true] at hlt ⊢; rw [hlt]; rfl
 have HC : Hid (∀ w, Rd w b s l (.slice ao L.length cap) → Calls Tryz.prog 134 #[.pointer (some ⟨b, 0, none⟩), .string ⟨#[60, 47]⟩] w (Qt (.bool false) w)) := fun w h => by
  have := has_pre b s l (.slice ao L.length cap) ⟨#[60, 47]⟩ w h
  rw [show (⟨#[60, 47]⟩ : S).data.toList.isPrefixOf l = false from hlt2] at this; exact this
 have HU : Hid (∀ w, Rd w b s l (.slice ao L.length cap) → Calls Tryz.prog 141 #[.pointer (some ⟨b, 0, none⟩), .int .u8 60] w (Out (fun t => .string (bs t)) b s (.slice ao L.length cap) w (letters 60 l))) := fun w h => letters_any b s 60 l (.slice ao L.length cap) w h hs2
 clear hno hno2 hlt hlt2 h hm
 by_cases hp0 : pos s l = 0
 · have e0 : (((pos s l : Nat) : Int) == 0) = true := by rw [hp0]; rfl
   have HIH : Hid (∀ w, Rd w b s l (.slice ao L.length cap) → Calls Tryz.prog 136 #[.pointer (some ⟨b, 0, none⟩)] w (Qt (.bool false) w)) := fun w h => by
    have := isHead_any b s l (.slice ao L.length cap) w h hs2
    rw [show isHead l = false from hh hp0] at this; exact this
   clear hp0 hh
   have hR : Rd (w.alloc (.cells #[.int .i64 0, .string ⟨#[]⟩, .slice none 0 0, .string ⟨#[]⟩, .int .i64 (pos s l), .int .i64 0, .int .i64 0] 117)) b s l (.slice ao L.length cap) := H0.out.rd.below ((Below.refl _ _).alloc (Nat.le_refl _) _)
   go_enter Tryz.func111, Tryz.ntmps111
   go_wp2_with fail
   refine Calls.world ?_
   intro W hW
   have hx : Box W w.heap.size [.int .i64 0, .string ⟨#[]⟩, .slice none 0 0, .string ⟨#[]⟩, .int .i64 (pos s l), .int .i64 0, .int .i64 0] := by rw [hW]; exact Box.new w _ _ _ rfl
   have hG : w.grownBy W (some b) := by rw [hW]; exact World.grownBy_alloc _ _ _
   rw [← hW] at hR
   have hm : W.cell? ⟨0, 0, none⟩ = some (.int .i64 m) := by rw [hW, World.cell?_alloc_lt _ _ _ (by simp; omega)]; exact HM.out
   clear hW
   clear c1
   have c1 := hR.c1
   refine (HA.out W hR).mono ?_
   rintro e w1 ⟨rfl, n0, rfl⟩
   go_wp2_with fail
   refine (HB.out _ (hR.drewN _)).mono ?_
   rintro e w1 ⟨rfl, n1, rfl⟩
   go_wp2_with fail
   refine (HIH.out _ (hR.drewN _)).mono ?_
   rintro e w1 ⟨rfl, n2, rfl⟩
   go_wp2_with fail
   refine (HC.out _ (hR.drewN _)).mono ?_
   rintro e w1 ⟨rfl, n3, rfl⟩
   go_wp2_with fail
   refine (HD.out _ (hR.drewN _)).mono ?_
   rintro e w1 ⟨rfl, n4, rfl⟩
   have hcall := HU.out (W.drewN (n0 + n1 + n2 + n3 + n4)) (hR.drewN _)
   cases hpl : letters 60 l with
   | bad x r =>
    rw [hpl] at hcall
    have HP := Lib.hid hpl
    clear hpl
    have HCL := Lib.hid hcall
    clear hcall hR hx
    go_wp2_with fail
    refine HCL.out.mono ?_
    intro e w2 hO
    obtain ⟨rfl, hg⟩ : Bad x s r b _ e w2 := hO
    go_wp2
    rw [HP.out]
    exact ⟨rfl, rfl, below_grown ((hG.trans (grownN _ _ _)).trans hg) (by omega)⟩
   | ok t r =>
    rw [hpl] at hcall
    have HP := Lib.hid hpl
    clear hpl
    have HCL := Lib.hid hcall
    clear hcall
    go_wp2_with fail
    refine HCL.out.mono ?_
    intro e w2 hO
    obtain ⟨rfl, hR2, hg⟩ : Goes (.string (bs t)) b s r (.slice ao L.length cap) _ e w2 := hO
    have hx2 := (hx.drewN (n0 + n1 + n2 + n3 + n4)).grownB hg (by omega)
    have hG2 := (hG.trans (grownN _ (n0 + n1 + n2 + n3 + n4) _)).trans hg
    have q0 := hx2.cell 0 _ rfl
    have q3 := hx2.cell 3 _ rfl
    have qf0 := hx2.free 0
    have qf3 := hx2.free 3
    have qlt := hx2.lt
    have HX2 := Lib.hid hx2
    have HG2 := Lib.hid hG2
    have HR2 := Lib.hid hR2
    clear hx hx2 hg hG hG2 hR hR2 hm HCL
    go_wp2
    refine wp_world ?_
    intro W3 hW3
    have hx3 : Box W3 w.heap.size [.int .i64 4, .string ⟨#[]⟩, .slice none 0 0, .string (bs t), .int .i64 (pos s l), .int .i64 0, .int .i64 0] := by rw [hW3]; exact (HX2.out.set 0 _).set 3 _
    have hR3 : Rd W3 b s r (.slice ao L.length cap) := by rw [hW3]; exact (HR2.out.setOther (by omega) _ _).setOther (by omega) _ _
    have hG3 : w.grownBy W3 (some b) := by rw [hW3]; exact grown_set (grown_set HG2.out (Nat.le_refl _) _ _) (Nat.le_refl _) _ _
    have HAV : Hid (Owns (b + 1) 100 2 atC W3 (.slice none 0 0) ([] : List At2)) := Owns.nil
    clear hW3 HX2 HG2 HR2 q0 q3 qf0 qf3 qlt
    have c2 := hR3.c2
    have f2 := hR3.box.free 2
    have hlt3 := hR3.box.lt
    obtain ⟨t0, t1, t2, t3, t4, t5, t6⟩ := bxc7 hx3
    have tlt := hx3.lt
    have HT3 := Lib.hid (H0.out.kept hG3 hR3)
    have HR3 := Lib.hid hR3
    have HG3 := Lib.hid hG3
    clear hx3 hR3 hG3
    have hne8 : Hid (some b ≠ (Value.slice ao L.length cap).ownBlock) := fun e => by have := (HT3.out.own.lt b e.symm).1; omega
    have hbx8 : Hid (Box ((W3.alloc (.cells (tkC ⟨⟨4, [], [], t⟩, .slice none 0 0, pos s l, 0, 0⟩).toArray 117)).drew) b [.string s, .int .i64 (pos s r : Nat), .slice ao L.length cap]) := (HR3.out.box.alloc _).drew
    have hnw : ∀ j u, (tkC ⟨⟨4, [], [], t⟩, .slice none 0 0, pos s l, 0, 0⟩)[j]? = some u → ((W3.alloc (.cells (tkC ⟨⟨4, [], [], t⟩, .slice none 0 0, pos s l, 0, 0⟩).toArray 117)).drew).cell? ⟨W3.heap.size, j, none⟩ = some u := fun j u hu => (Box.new W3 (tkC ⟨⟨4, [], [], t⟩, .slice none 0 0, pos s l, 0, 0⟩) 117 _ rfl).cell j u hu
    have hco : ∀ u ∈ tkC ⟨⟨4, [], [], t⟩, .slice none 0 0, pos s l, 0, 0⟩, u.oneCell' = true := by intro u hu; simp [tkC] at hu; rcases hu with rfl | rfl | rfl | rfl | rfl | rfl | rfl <;> rfl
    have HNW := Lib.hid hnw
    have HCO := Lib.hid hco
    have hown4 := Lib.hid ((HT3.out.own.alloc (.cells (tkC ⟨⟨4, [], [], t⟩, .slice none 0 0, pos s l, 0, 0⟩).toArray 117)).drew)
    have hbl : Hid ((L.length + 1) * 88 ≤ 140737488355328) := by show _ ≤ _; omega
    have hbs : Hid (b + 1 ≤ ((W3.alloc (.cells (tkC ⟨⟨4, [], [], t⟩, .slice none 0 0, pos s l, 0, 0⟩).toArray 117)).drew).heap.size) := by show _ ≤ _; simp; omega
    have hsz4 : Hid (((W3.alloc (.cells (tkC ⟨⟨4, [], [], t⟩, .slice none 0 0, pos s l, 0, 0⟩).toArray 117)).drew).heap.size = W3.heap.size + 1) := by show _ = _; simp
    clear hnw hco
    go_region_law (first | (refine step_append_one rfl (.tmp 110) (.tmp 112) 119 rfl (b + 1) 117 Tryz.underlying119 info_token rfl (by decide) tkC_len (.slice ao L.length cap) L (by simp [Act.eval]) hown4.out W3.heap.size ⟨⟨4, [], [], t⟩, .slice none 0 0, pos s l, 0, 0⟩ (by simp [Act.eval]) HNW.out HCO.out hbl.out (by decide) hbs.out (W3.heap.size + 1) hsz4.out ?_; intro g8 cap8 w8 hown8 hgrow8 hat8 hlt8; have hb9 := Lib.hid (hbx8.out.grown hgrow8 hne8.out); have e2 := hb9.out.cell 2 _ rfl; have ef2 := hb9.out.free 2; have el2 := hb9.out.lt; have ho9 := Lib.hid hown8; have hg9 := Lib.hid hgrow8; clear hown8 hgrow8 hat8))
    all_goals
     go_end0
     rw [HP.out]
     obtain ⟨h1, h2⟩ := HT3.out.push HG3.out hlt0 (x := ⟨⟨4, [], [], t⟩, .slice none 0 0, pos s l, 0, 0⟩) HAV.out hg9.out ho9.out
     exact ⟨rfl, _, _, h1, h2⟩
 · have e0 : (((pos s l : Nat) : Int) == 0) = false := beq_eq_false_iff_ne.2 (by omega)
   clear hp0 hh
   have hR : Rd (w.alloc (.cells #[.int .i64 0, .string ⟨#[]⟩, .slice none 0 0, .string ⟨#[]⟩, .int .i64 (pos s l), .int .i64 0, .int .i64 0] 117)) b s l (.slice ao L.length cap) := H0.out.rd.below ((Below.refl _ _).alloc (Nat.le_refl _) _)
   go_enter Tryz.func111, Tryz.ntmps111
   go_wp2_with fail
   refine Calls.world ?_
   intro W hW
   have hx : Box W w.heap.size [.int .i64 0, .string ⟨#[]⟩, .slice none 0 0, .string ⟨#[]⟩, .int .i64 (pos s l), .int .i64 0, .int .i64 0] := by rw [hW]; exact Box.new w _ _ _ rfl
   have hG : w.grownBy W (some b) := by rw [hW]; exact World.grownBy_alloc _ _ _
   rw [← hW] at hR
   have hm : W.cell? ⟨0, 0, none⟩ = some (.int .i64 m) := by rw [hW, World.cell?_alloc_lt _ _ _ (by simp; omega)]; exact HM.out
   clear hW
   clear c1
   have c1 := hR.c1
   refine (HA.out W hR).mono ?_
   rintro e w1 ⟨rfl, n0, rfl⟩
   go_wp2_with fail
   refine (HB.out _ (hR.drewN _)).mono ?_
   rintro e w1 ⟨rfl, n1, rfl⟩
   go_wp2_with fail
   refine (HC.out _ (hR.drewN _)).mono ?_
   rintro e w1 ⟨rfl, n2, rfl⟩
   go_wp2_with fail
   refine (HD.out _ (hR.drewN _)).mono ?_
   rintro e w1 ⟨rfl, n3, rfl⟩
   have hcall := HU.out (W.drewN (n0 + n1 + n2 + n3)) (hR.drewN _)
   cases hpl : letters 60 l with
   | bad x r =>
    rw [hpl] at hcall
    have HP := Lib.hid hpl
    clear hpl
    have HCL := Lib.hid hcall
    clear hcall hR hx
    go_wp2_with fail
    refine HCL.out.mono ?_
    intro e w2 hO
    obtain ⟨rfl, hg⟩ : Bad x s r b _ e w2 := hO
    go_wp2
    rw [HP.out]
    exact ⟨rfl, rfl, below_grown ((hG.trans (grownN _ _ _)).trans hg) (by omega)⟩
   | ok t r =>
    rw [hpl] at hcall
    have HP := Lib.hid hpl
    clear hpl
    have HCL := Lib.hid hcall
    clear hcall
    go_wp2_with fail
    refine HCL.out.mono ?_
    intro e w2 hO
    obtain ⟨rfl, hR2, hg⟩ : Goes (.string (bs t)) b s r (.slice ao L.length cap) _ e w2 := hO
    have hx2 := (hx.drewN (n0 + n1 + n2 + n3)).grownB hg (by omega)
    have hG2 := (hG.trans (grownN _ (n0 + n1 + n2 + n3) _)).trans hg
    have q0 := hx2.cell 0 _ rfl
    have q3 := hx2.cell 3 _ rfl
    have qf0 := hx2.free 0
    have qf3 := hx2.free 3
    have qlt := hx2.lt
    have HX2 := Lib.hid hx2
    have HG2 := Lib.hid hG2
    have HR2 := Lib.hid hR2
    clear hx hx2 hg hG hG2 hR hR2 hm HCL
    go_wp2
    refine wp_world ?_
    intro W3 hW3
    have hx3 : Box W3 w.heap.size [.int .i64 4, .string ⟨#[]⟩, .slice none 0 0, .string (bs t), .int .i64 (pos s l), .int .i64 0, .int .i64 0] := by rw [hW3]; exact (HX2.out.set 0 _).set 3 _
    have hR3 : Rd W3 b s r (.slice ao L.length cap) := by rw [hW3]; exact (HR2.out.setOther (by omega) _ _).setOther (by omega) _ _
    have hG3 : w.grownBy W3 (some b) := by rw [hW3]; exact grown_set (grown_set HG2.out (Nat.le_refl _) _ _) (Nat.le_refl _) _ _
    have HAV : Hid (Owns (b + 1) 100 2 atC W3 (.slice none 0 0) ([] : List At2)) := Owns.nil
    clear hW3 HX2 HG2 HR2 q0 q3 qf0 qf3 qlt
    have c2 := hR3.c2
    have f2 := hR3.box.free 2
    have hlt3 := hR3.box.lt
    obtain ⟨t0, t1, t2, t3, t4, t5, t6⟩ := bxc7 hx3
    have tlt := hx3.lt
    have HT3 := Lib.hid (H0.out.kept hG3 hR3)
    have HR3 := Lib.hid hR3
    have HG3 := Lib.hid hG3
    clear hx3 hR3 hG3
    have hne8 : Hid (some b ≠ (Value.slice ao L.length cap).ownBlock) := fun e => by have := (HT3.out.own.lt b e.symm).1; omega
    have hbx8 : Hid (Box ((W3.alloc (.cells (tkC ⟨⟨4, [], [], t⟩, .slice none 0 0, pos s l, 0, 0⟩).toArray 117)).drew) b [.string s, .int .i64 (pos s r : Nat), .slice ao L.length cap]) := (HR3.out.box.alloc _).drew
    have hnw : ∀ j u, (tkC ⟨⟨4, [], [], t⟩, .slice none 0 0, pos s l, 0, 0⟩)[j]? = some u → ((W3.alloc (.cells (tkC ⟨⟨4, [], [], t⟩, .slice none 0 0, pos s l, 0, 0⟩).toArray 117)).drew).cell? ⟨W3.heap.size, j, none⟩ = some u := fun j u hu => (Box.new W3 (tkC ⟨⟨4, [], [], t⟩, .slice none 0 0, pos s l, 0, 0⟩) 117 _ rfl).cell j u hu
    have hco : ∀ u ∈ tkC ⟨⟨4, [], [], t⟩, .slice none 0 0, pos s l, 0, 0⟩, u.oneCell' = true := by intro u hu; simp [tkC] at hu; rcases hu with rfl | rfl | rfl | rfl | rfl | rfl | rfl <;> rfl
    have HNW := Lib.hid hnw
    have HCO := Lib.hid hco
    have hown4 := Lib.hid ((HT3.out.own.alloc (.cells (tkC ⟨⟨4, [], [], t⟩, .slice none 0 0, pos s l, 0, 0⟩).toArray 117)).drew)
    have hbl : Hid ((L.length + 1) * 88 ≤ 140737488355328) := by show _ ≤ _; omega
    have hbs : Hid (b + 1 ≤ ((W3.alloc (.cells (tkC ⟨⟨4, [], [], t⟩, .slice none 0 0, pos s l, 0, 0⟩).toArray 117)).drew).heap.size) := by show _ ≤ _; simp; omega
    have hsz4 : Hid (((W3.alloc (.cells (tkC ⟨⟨4, [], [], t⟩, .slice none 0 0, pos s l, 0, 0⟩).toArray 117)).drew).heap.size = W3.heap.size + 1) := by show _ = _; simp
    clear hnw hco
    go_region_law (first | (refine step_append_one rfl (.tmp 110) (.tmp 112) 119 rfl (b + 1) 117 Tryz.underlying119 info_token rfl (by decide) tkC_len (.slice ao L.length cap) L (by simp [Act.eval]) hown4.out W3.heap.size ⟨⟨4, [], [], t⟩, .slice none 0 0, pos s l, 0, 0⟩ (by simp [Act.eval]) HNW.out HCO.out hbl.out (by decide) hbs.out (W3.heap.size + 1) hsz4.out ?_; intro g8 cap8 w8 hown8 hgrow8 hat8 hlt8; have hb9 := Lib.hid (hbx8.out.grown hgrow8 hne8.out); have e2 := hb9.out.cell 2 _ rfl; have ef2 := hb9.out.free 2; have el2 := hb9.out.lt; have ho9 := Lib.hid hown8; have hg9 := Lib.hid hgrow8; clear hown8 hgrow8 hat8))
    all_goals
     go_end0
     rw [HP.out]
     obtain ⟨h1, h2⟩ := HT3.out.push HG3.out hlt0 (x := ⟨⟨4, [], [], t⟩, .slice none 0 0, pos s l, 0, 0⟩) HAV.out hg9.out ho9.out
     exact ⟨rfl, _, _, h1, h2⟩

end Go.Proofs.YtbbbfjcikhpmbaaGreat

/- The walk of the program's reader's token at an end of an element; the conditions stand in the theorem. -/

namespace Go.Proofs.YtbbbfjcikhpmbaaGreat
open Go Go.RowKit

set_option maxRecDepth 100000 in
set_option maxHeartbeats 8000000 in
theorem tok_close (b : Nat) (s : S) (l : Bs) (ao : Option Addr) (cap : Nat) (L : List TkM) (m : Int) (w : World) (h : Toks w b s l (.slice ao L.length cap) L) (hs : s.size ≤ 65536) (hm : w.cell? ⟨0, 0, none⟩ = some (.int .i64 m)) (hL : L.length ≤ 1000000)
    (l' : Bs) (hl : l = 60 :: 47 :: l') (hno : sNote.isPrefixOf l = false) (hno2 : sData.isPrefixOf l = false) (hh : pos s l = 0 → isHead l = false) :
    Calls Tryz.prog 111 #[.pointer (some ⟨b, 0, none⟩)] w (OutT b s (pos s l) L w (closeR l')) := by
 have hlt0 := h.rd.box.lt
 have c1 := h.rd.c1
 have H0 := Lib.hid h
 have hs2 : s.size ≤ 1000000 := by omega
 have HM := Lib.hid hm
 have hp := pos_add h.rd.suf
 have hpb : (pos s l : Int) ≤ 65536 := by omega
 have HA : Hid (∀ w, Rd w b s l (.slice ao L.length cap) → Calls Tryz.prog 134 #[.pointer (some ⟨b, 0, none⟩), .string ⟨#[60, 33, 45, 45]⟩] w (Qt (.bool false) w)) := fun w h => by
  have := has_pre b s l (.slice ao L.length cap) ⟨#[60, 33, 45, 45]⟩ w h
  rw [show (⟨#[60, 33, 45, 45]⟩ : S).data.toList.isPrefixOf l = false from hno] at this; exact this
 have HB : Hid (∀ w, Rd w b s l (.slice ao L.length cap) → Calls Tryz.prog 134 #[.pointer (some ⟨b, 0, none⟩), .string ⟨#[60, 33, 91, 67, 68, 65, 84, 65, 91]⟩] w (Qt (.bool false) w)) := fun w h => by
  have := has_pre b s l (.slice ao L.length cap) ⟨#[60, 33, 91, 67, 68, 65, 84, 65, 91]⟩ w h
  rw [show (⟨#[60, 33, 91, 67, 68, 65, 84, 65, 91]⟩ : S).data.toList.isPrefixOf l = false from hno2] at this; exact this
 have HC : Hid (∀ w, Rd w b s l (.slice ao L.length cap) → Calls Tryz.prog 134 #[.pointer (some ⟨b, 0, none⟩), .string ⟨#[60, 47]⟩] w (Qt (.bool true) w)) := fun w h => by
  have := has_pre b s l (.slice ao L.length cap) ⟨#[60, 47]⟩ w h
  rw [show (⟨#[60, 47]⟩ : S).data.toList.isPrefixOf l = true from (by rw [hl]; rfl)] at this; exact this
 have HSUF : Hid (l' <:+ s.data.toList) := by have := h.rd.suf; rw [hl] at this; exact suf_tail (suf_tail this)
 have HPOS : Hid (pos s l' = pos s l + 2) := by have h1 := pos_add HSUF.out; rw [hl] at hp ⊢; simp only [List.length_cons] at hp; show _ = _; omega
 clear hno hno2 hl h hm
 by_cases hp0 : pos s l = 0
 · have e0 : (((pos s l : Nat) : Int) == 0) = true := by rw [hp0]; rfl
   have HIH : Hid (∀ w, Rd w b s l (.slice ao L.length cap) → Calls Tryz.prog 136 #[.pointer (some ⟨b, 0, none⟩)] w (Qt (.bool false) w)) := fun w h => by
    have := isHead_any b s l (.slice ao L.length cap) w h hs2
    rw [show isHead l = false from hh hp0] at this; exact this
   clear hp0 hh
   have hR : Rd (w.alloc (.cells #[.int .i64 0, .string ⟨#[]⟩, .slice none 0 0, .string ⟨#[]⟩, .int .i64 (pos s l), .int .i64 0, .int .i64 0] 117)) b s l (.slice ao L.length cap) := H0.out.rd.below ((Below.refl _ _).alloc (Nat.le_refl _) _)
   go_enter Tryz.func111, Tryz.ntmps111
   go_wp2_with fail
   refine Calls.world ?_
   intro W hW
   have hx : Box W w.heap.size [.int .i64 0, .string ⟨#[]⟩, .slice none 0 0, .string ⟨#[]⟩, .int .i64 (pos s l), .int .i64 0, .int .i64 0] := by rw [hW]; exact Box.new w _ _ _ rfl
   have hG : w.grownBy W (some b) := by rw [hW]; exact World.grownBy_alloc _ _ _
   rw [← hW] at hR
   have hm : W.cell? ⟨0, 0, none⟩ = some (.int .i64 m) := by rw [hW, World.cell?_alloc_lt _ _ _ (by simp; omega)]; exact HM.out
   clear hW
   clear c1
   have c1 := hR.c1
   have f1 := hR.f1
   have hltW := hR.box.lt
   refine (HA.out W hR).mono ?_
   rintro e w1 ⟨rfl, n0, rfl⟩
   go_wp2_with fail
   refine (HB.out _ (hR.drewN _)).mono ?_
   rintro e w1 ⟨rfl, n1, rfl⟩
   go_wp2_with fail
   refine (HIH.out _ (hR.drewN _)).mono ?_
   rintro e w1 ⟨rfl, n2, rfl⟩
   go_wp2_with fail
   refine (HC.out _ (hR.drewN _)).mono ?_
   rintro e w1 ⟨rfl, n3, rfl⟩
   go_wp2_with fail
   refine Calls.world ?_
   intro W2 hW2
   have hRa : Rd W2 b s l' (.slice ao L.length cap) := by rw [hW2]; exact (hR.drewN _).move HSUF.out (v := .int .i64 ((pos s l : Int) + 2)) (by rw [HPOS.out]; rfl)
   have hxa : Box W2 w.heap.size [.int .i64 0, .string ⟨#[]⟩, .slice none 0 0, .string ⟨#[]⟩, .int .i64 (pos s l), .int .i64 0, .int .i64 0] := by rw [hW2]; exact (hx.drewN _).grownB (setCell_grown _ b 1 _) (by omega)
   have hGa : w.grownBy W2 (some b) := by rw [hW2]; exact (hG.trans (grownN _ _ _)).trans (setCell_grown _ b 1 _)
   clear hW2 hx hG hR hm c1 f1 hltW
   have hcall := rname_any b s 11 l' (.slice ao L.length cap) W2 hRa hs2
   cases hcl : nameR 11 l' with
   | bad x r =>
    rw [hcl] at hcall
    have HP := Lib.hid hcl
    clear hcl
    have HCL := Lib.hid hcall
    clear hcall hRa hxa
    go_wp2_with fail
    refine HCL.out.mono ?_
    intro e w2 hO
    obtain ⟨rfl, hg⟩ : Bad x s r b _ e w2 := hO
    go_wp2
    rw [show closeR l' = .bad x r by unfold closeR; rw [HP.out]; rfl]
    exact ⟨rfl, rfl, below_grown (hGa.trans hg) (by omega)⟩
   | ok nm r1 =>
    rw [hcl] at hcall
    have HP := Lib.hid hcl
    clear hcl
    have HCL := Lib.hid hcall
    clear hcall
    go_wp2_with fail
    refine HCL.out.mono ?_
    intro e w2 hO
    obtain ⟨rfl, hR2, hg⟩ : Goes (.string (bs nm)) b s r1 (.slice ao L.length cap) _ e w2 := hO
    have hx2 := hxa.grownB hg (by omega)
    have hG2 := hGa.trans hg
    have q0 := hx2.cell 0 _ rfl
    have q1 := hx2.cell 1 _ rfl
    have qf0 := hx2.free 0
    have qf1 := hx2.free 1
    have qlt := hx2.lt
    clear hxa hGa hg hRa HCL
    go_wp2_with fail
    refine Calls.world ?_
    intro W4 hW4
    have hx4 : Box W4 w.heap.size [.int .i64 3, .string (bs nm), .slice none 0 0, .string ⟨#[]⟩, .int .i64 (pos s l), .int .i64 0, .int .i64 0] := by rw [hW4]; exact (hx2.set 0 _).set 1 _
    have hR4 : Rd W4 b s r1 (.slice ao L.length cap) := by rw [hW4]; exact (hR2.setOther (by omega) _ _).setOther (by omega) _ _
    have hG4 : w.grownBy W4 (some b) := by rw [hW4]; exact grown_set (grown_set hG2 (Nat.le_refl _) _ _) (Nat.le_refl _) _ _
    clear hW4 hx2 hG2 hR2 q0 q1 qf0 qf1 qlt
    refine (blanks_any b s r1 (.slice ao L.length cap) W4 hR4 hs2).mono ?_
    intro e w5 hO
    obtain ⟨rfl, hR5, hg5⟩ := hO
    have hx5 := hx4.grownB hg5 (by omega)
    have hG5 := hG4.trans hg5
    clear hx4 hG4 hR4 hg5
    have hcall := want_any b s 62 (blanks r1) (.slice ao L.length cap) w5 hR5 hs2
    cases hcl : wantC 62 (blanks r1) with
    | bad x r =>
     rw [hcl] at hcall
     have HP2 := Lib.hid hcl
     clear hcl
     have HCL := Lib.hid hcall
     clear hcall hR5 hx5
     go_wp2_with fail
     refine HCL.out.mono ?_
     intro e w2 hO
     obtain ⟨rfl, hg⟩ : Bad x s r b _ e w2 := hO
     go_wp2
     rw [show closeR l' = .bad x r by unfold closeR; rw [HP.out]; simp only [Res.bind]; rw [HP2.out]; rfl]
     exact ⟨rfl, rfl, below_grown (hG5.trans hg) (by omega)⟩
    | ok u r =>
     rw [hcl] at hcall
     have HP2 := Lib.hid hcl
     clear hcl
     have HCL := Lib.hid hcall
     clear hcall
     go_wp2_with fail
     refine HCL.out.mono ?_
     intro e W3 hO
     obtain ⟨rfl, hR3, hg⟩ : Goes (.tuple #[]) b s r (.slice ao L.length cap) _ e W3 := hO
     have hx3 := hx5.grownB hg (by omega)
     have hG3 := hG5.trans hg
     have HAV : Hid (Owns (b + 1) 100 2 atC W3 (.slice none 0 0) ([] : List At2)) := Owns.nil
     clear hx5 hG5 hg hR5 HCL
     go_wp2
     have c2 := hR3.c2
     have f2 := hR3.box.free 2
     have hlt3 := hR3.box.lt
     obtain ⟨t0, t1, t2, t3, t4, t5, t6⟩ := bxc7 hx3
     have tlt := hx3.lt
     have HT3 := Lib.hid (H0.out.kept hG3 hR3)
     have HR3 := Lib.hid hR3
     have HG3 := Lib.hid hG3
     clear hx3 hR3 hG3
     have hne8 : Hid (some b ≠ (Value.slice ao L.length cap).ownBlock) := fun e => by have := (HT3.out.own.lt b e.symm).1; omega
     have hbx8 : Hid (Box ((W3.alloc (.cells (tkC ⟨⟨3, nm, [], []⟩, .slice none 0 0, pos s l, 0, 0⟩).toArray 117)).drew) b [.string s, .int .i64 (pos s r : Nat), .slice ao L.length cap]) := (HR3.out.box.alloc _).drew
     have hnw : ∀ j u, (tkC ⟨⟨3, nm, [], []⟩, .slice none 0 0, pos s l, 0, 0⟩)[j]? = some u → ((W3.alloc (.cells (tkC ⟨⟨3, nm, [], []⟩, .slice none 0 0, pos s l, 0, 0⟩).toArray 117)).drew).cell? ⟨W3.heap.size, j, none⟩ = some u := fun j u hu => (Box.new W3 (tkC ⟨⟨3, nm, [], []⟩, .slice none 0 0, pos s l, 0, 0⟩) 117 _ rfl).cell j u hu
     have hco : ∀ u ∈ tkC ⟨⟨3, nm, [], []⟩, .slice none 0 0, pos s l, 0, 0⟩, u.oneCell' = true := by intro u hu; simp [tkC] at hu; rcases hu with rfl | rfl | rfl | rfl | rfl | rfl | rfl <;> rfl
     have HNW := Lib.hid hnw
     have HCO := Lib.hid hco
     have hown4 := Lib.hid ((HT3.out.own.alloc (.cells (tkC ⟨⟨3, nm, [], []⟩, .slice none 0 0, pos s l, 0, 0⟩).toArray 117)).drew)
     have hbl : Hid ((L.length + 1) * 88 ≤ 140737488355328) := by show _ ≤ _; omega
     have hbs : Hid (b + 1 ≤ ((W3.alloc (.cells (tkC ⟨⟨3, nm, [], []⟩, .slice none 0 0, pos s l, 0, 0⟩).toArray 117)).drew).heap.size) := by show _ ≤ _; simp; omega
     have hsz4 : Hid (((W3.alloc (.cells (tkC ⟨⟨3, nm, [], []⟩, .slice none 0 0, pos s l, 0, 0⟩).toArray 117)).drew).heap.size = W3.heap.size + 1) := by show _ = _; simp
     clear hnw hco
     go_region_law (first | (refine step_append_one rfl (.tmp 110) (.tmp 112) 119 rfl (b + 1) 117 Tryz.underlying119 info_token rfl (by decide) tkC_len (.slice ao L.length cap) L (by simp [Act.eval]) hown4.out W3.heap.size ⟨⟨3, nm, [], []⟩, .slice none 0 0, pos s l, 0, 0⟩ (by simp [Act.eval]) HNW.out HCO.out hbl.out (by decide) hbs.out (W3.heap.size + 1) hsz4.out ?_; intro g8 cap8 w8 hown8 hgrow8 hat8 hlt8; have hb9 := Lib.hid (hbx8.out.grown hgrow8 hne8.out); have e2 := hb9.out.cell 2 _ rfl; have ef2 := hb9.out.free 2; have el2 := hb9.out.lt; have ho9 := Lib.hid hown8; have hg9 := Lib.hid hgrow8; clear hown8 hgrow8 hat8))
     all_goals
      go_end0
      rw [show closeR l' = .ok ⟨3, nm, [], []⟩ r by unfold closeR; rw [HP.out]; simp only [Res.bind]; rw [HP2.out]; rfl]
      obtain ⟨h1, h2⟩ := HT3.out.push HG3.out hlt0 (x := ⟨⟨3, nm, [], []⟩, .slice none 0 0, pos s l, 0, 0⟩) HAV.out hg9.out ho9.out
      exact ⟨rfl, _, _, h1, h2⟩
 · have e0 : (((pos s l : Nat) : Int) == 0) = false := beq_eq_false_iff_ne.2 (by omega)
   clear hp0 hh
   have hR : Rd (w.alloc (.cells #[.int .i64 0, .string ⟨#[]⟩, .slice none 0 0, .string ⟨#[]⟩, .int .i64 (pos s l), .int .i64 0, .int .i64 0] 117)) b s l (.slice ao L.length cap) := H0.out.rd.below ((Below.refl _ _).alloc (Nat.le_refl _) _)
   go_enter Tryz.func111, Tryz.ntmps111
   go_wp2_with fail
   refine Calls.world ?_
   intro W hW
   have hx : Box W w.heap.size [.int .i64 0, .string ⟨#[]⟩, .slice none 0 0, .string ⟨#[]⟩, .int .i64 (pos s l), .int .i64 0, .int .i64 0] := by rw [hW]; exact Box.new w _ _ _ rfl
   have hG : w.grownBy W (some b) := by rw [hW]; exact World.grownBy_alloc _ _ _
   rw [← hW] at hR
   have hm : W.cell? ⟨0, 0, none⟩ = some (.int .i64 m) := by rw [hW, World.cell?_alloc_lt _ _ _ (by simp; omega)]; exact HM.out
   clear hW
   clear c1
   have c1 := hR.c1
   have f1 := hR.f1
   have hltW := hR.box.lt
   refine (HA.out W hR).mono ?_
   rintro e w1 ⟨rfl, n0, rfl⟩
   go_wp2_with fail
   refine (HB.out _ (hR.drewN _)).mono ?_
   rintro e w1 ⟨rfl, n1, rfl⟩
   go_wp2_with fail
   refine (HC.out _ (hR.drewN _)).mono ?_
   rintro e w1 ⟨rfl, n2, rfl⟩
   go_wp2_with fail
   refine Calls.world ?_
   intro W2 hW2
   have hRa : Rd W2 b s l' (.slice ao L.length cap) := by rw [hW2]; exact (hR.drewN _).move HSUF.out (v := .int .i64 ((pos s l : Int) + 2)) (by rw [HPOS.out]; rfl)
   have hxa : Box W2 w.heap.size [.int .i64 0, .string ⟨#[]⟩, .slice none 0 0, .string ⟨#[]⟩, .int .i64 (pos s l), .int .i64 0, .int .i64 0] := by rw [hW2]; exact (hx.drewN _).grownB (setCell_grown _ b 1 _) (by omega)
   have hGa : w.grownBy W2 (some b) := by rw [hW2]; exact (hG.trans (grownN _ _ _)).trans (setCell_grown _ b 1 _)
   clear hW2 hx hG hR hm c1 f1 hltW
   have hcall := rname_any b s 11 l' (.slice ao L.length cap) W2 hRa hs2
   cases hcl : nameR 11 l' with
   | bad x r =>
    rw [hcl] at hcall
    have HP := Lib.hid hcl
    clear hcl
    have HCL := Lib.hid hcall
    clear hcall hRa hxa
    go_wp2_with fail
    refine HCL.out.mono ?_
    intro e w2 hO
    obtain ⟨rfl, hg⟩ : Bad x s r b _ e w2 := hO
    go_wp2
    rw [show closeR l' = .bad x r by unfold closeR; rw [HP.out]; rfl]
    exact ⟨rfl, rfl, below_grown (hGa.trans hg) (by omega)⟩
   | ok nm r1 =>
    rw [hcl] at hcall
    have HP := Lib.hid hcl
    clear hcl
    have HCL := Lib.hid hcall
    clear hcall
    go_wp2_with fail
    refine HCL.out.mono ?_
    intro e w2 hO
    obtain ⟨rfl, hR2, hg⟩ : Goes (.string (bs nm)) b s r1 (.slice ao L.length cap) _ e w2 := hO
    have hx2 := hxa.grownB hg (by omega)
    have hG2 := hGa.trans hg
    have q0 := hx2.cell 0 _ rfl
    have q1 := hx2.cell 1 _ rfl
    have qf0 := hx2.free 0
    have qf1 := hx2.free 1
    have qlt := hx2.lt
    clear hxa hGa hg hRa HCL
    go_wp2_with fail
    refine Calls.world ?_
    intro W4 hW4
    have hx4 : Box W4 w.heap.size [.int .i64 3, .string (bs nm), .slice none 0 0, .string ⟨#[]⟩, .int .i64 (pos s l), .int .i64 0, .int .i64 0] := by rw [hW4]; exact (hx2.set 0 _).set 1 _
    have hR4 : Rd W4 b s r1 (.slice ao L.length cap) := by rw [hW4]; exact (hR2.setOther (by omega) _ _).setOther (by omega) _ _
    have hG4 : w.grownBy W4 (some b) := by rw [hW4]; exact grown_set (grown_set hG2 (Nat.le_refl _) _ _) (Nat.le_refl _) _ _
    clear hW4 hx2 hG2 hR2 q0 q1 qf0 qf1 qlt
    refine (blanks_any b s r1 (.slice ao L.length cap) W4 hR4 hs2).mono ?_
    intro e w5 hO
    obtain ⟨rfl, hR5, hg5⟩ := hO
    have hx5 := hx4.grownB hg5 (by omega)
    have hG5 := hG4.trans hg5
    clear hx4 hG4 hR4 hg5
    have hcall := want_any b s 62 (blanks r1) (.slice ao L.length cap) w5 hR5 hs2
    cases hcl : wantC 62 (blanks r1) with
    | bad x r =>
     rw [hcl] at hcall
     have HP2 := Lib.hid hcl
     clear hcl
     have HCL := Lib.hid hcall
     clear hcall hR5 hx5
     go_wp2_with fail
     refine HCL.out.mono ?_
     intro e w2 hO
     obtain ⟨rfl, hg⟩ : Bad x s r b _ e w2 := hO
     go_wp2
     rw [show closeR l' = .bad x r by unfold closeR; rw [HP.out]; simp only [Res.bind]; rw [HP2.out]; rfl]
     exact ⟨rfl, rfl, below_grown (hG5.trans hg) (by omega)⟩
    | ok u r =>
     rw [hcl] at hcall
     have HP2 := Lib.hid hcl
     clear hcl
     have HCL := Lib.hid hcall
     clear hcall
     go_wp2_with fail
     refine HCL.out.mono ?_
     intro e W3 hO
     obtain ⟨rfl, hR3, hg⟩ : Goes (.tuple #[]) b s r (.slice ao L.length cap) _ e W3 := hO
     have hx3 := hx5.grownB hg (by omega)
     have hG3 := hG5.trans hg
     have HAV : Hid (Owns (b + 1) 100 2 atC W3 (.slice none 0 0) ([] : List At2)) := Owns.nil
     clear hx5 hG5 hg hR5 HCL
     go_wp2
     have c2 := hR3.c2
     have f2 := hR3.box.free 2
     have hlt3 := hR3.box.lt
     obtain ⟨t0, t1, t2, t3, t4, t5, t6⟩ := bxc7 hx3
     have tlt := hx3.lt
     have HT3 := Lib.hid (H0.out.kept hG3 hR3)
     have HR3 := Lib.hid hR3
     have HG3 := Lib.hid hG3
     clear hx3 hR3 hG3
     have hne8 : Hid (some b ≠ (Value.slice ao L.length cap).ownBlock) := fun e => by have := (HT3.out.own.lt b e.symm).1; omega
     have hbx8 : Hid (Box ((W3.alloc (.cells (tkC ⟨⟨3, nm, [], []⟩, .slice none 0 0, pos s l, 0, 0⟩).toArray 117)).drew) b [.string s, .int .i64 (pos s r : Nat), .slice ao L.length cap]) := (HR3.out.box.alloc _).drew
     have hnw : ∀ j u, (tkC ⟨⟨3, nm, [], []⟩, .slice none 0 0, pos s l, 0, 0⟩)[j]? = some u → ((W3.alloc (.cells (tkC ⟨⟨3, nm, [], []⟩, .slice none 0 0, pos s l, 0, 0⟩).toArray 117)).drew).cell? ⟨W3.heap.size, j, none⟩ = some u := fun j u hu => (Box.new W3 (tkC ⟨⟨3, nm, [], []⟩, .slice none 0 0, pos s l, 0, 0⟩) 117 _ rfl).cell j u hu
     have hco : ∀ u ∈ tkC ⟨⟨3, nm, [], []⟩, .slice none 0 0, pos s l, 0, 0⟩, u.oneCell' = true := by intro u hu; simp [tkC] at hu; rcases hu with rfl | rfl | rfl | rfl | rfl | rfl | rfl <;> rfl
     have HNW := Lib.hid hnw
     have HCO := Lib.hid hco
     have hown4 := Lib.hid ((HT3.out.own.alloc (.cells (tkC ⟨⟨3, nm, [], []⟩, .slice none 0 0, pos s l, 0, 0⟩).toArray 117)).drew)
     have hbl : Hid ((L.length + 1) * 88 ≤ 140737488355328) := by show _ ≤ _; omega
     have hbs : Hid (b + 1 ≤ ((W3.alloc (.cells (tkC ⟨⟨3, nm, [], []⟩, .slice none 0 0, pos s l, 0, 0⟩).toArray 117)).drew).heap.size) := by show _ ≤ _; simp; omega
     have hsz4 : Hid (((W3.alloc (.cells (tkC ⟨⟨3, nm, [], []⟩, .slice none 0 0, pos s l, 0, 0⟩).toArray 117)).drew).heap.size = W3.heap.size + 1) := by show _ = _; simp
     clear hnw hco
     go_region_law (first | (refine step_append_one rfl (.tmp 110) (.tmp 112) 119 rfl (b + 1) 117 Tryz.underlying119 info_token rfl (by decide) tkC_len (.slice ao L.length cap) L (by simp [Act.eval]) hown4.out W3.heap.size ⟨⟨3, nm, [], []⟩, .slice none 0 0, pos s l, 0, 0⟩ (by simp [Act.eval]) HNW.out HCO.out hbl.out (by decide) hbs.out (W3.heap.size + 1) hsz4.out ?_; intro g8 cap8 w8 hown8 hgrow8 hat8 hlt8; have hb9 := Lib.hid (hbx8.out.grown hgrow8 hne8.out); have e2 := hb9.out.cell 2 _ rfl; have ef2 := hb9.out.free 2; have el2 := hb9.out.lt; have ho9 := Lib.hid hown8; have hg9 := Lib.hid hgrow8; clear hown8 hgrow8 hat8))
     all_goals
      go_end0
      rw [show closeR l' = .ok ⟨3, nm, [], []⟩ r by unfold closeR; rw [HP.out]; simp only [Res.bind]; rw [HP2.out]; rfl]
      obtain ⟨h1, h2⟩ := HT3.out.push HG3.out hlt0 (x := ⟨⟨3, nm, [], []⟩, .slice none 0 0, pos s l, 0, 0⟩) HAV.out hg9.out ho9.out
      exact ⟨rfl, _, _, h1, h2⟩

end Go.Proofs.YtbbbfjcikhpmbaaGreat
