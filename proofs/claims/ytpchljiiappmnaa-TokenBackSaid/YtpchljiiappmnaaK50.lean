/- The walk of the document's Print; its conditions stand in the theorem. -/
import Derived.Test.YtpchljiiappmnaaK49
namespace Go.Proofs.Ytpchljiiappmnaa
open Go Go.RowKit

theorem kind_cases2 (K : Int) : ((K == 5) = true ∧ K = 5) ∨ ((K == 5) = false ∧ K ≠ 5 ∧ (((K == 6) = true ∧ K = 6) ∨ ((K == 6) = false ∧ K ≠ 6 ∧ (((K == 3) = true ∧ K = 3) ∨ ((K == 3) = false ∧ K ≠ 3 ∧ (((K == 4) = true ∧ K = 4) ∨ ((K == 4) = false ∧ K ≠ 4 ∧ (((K == 1) = true ∧ K = 1) ∨ ((K == 1) = false ∧ K ≠ 1 ∧ (((K == 2) = true ∧ K = 2) ∨ ((K == 2) = false ∧ K ≠ 2))))))))))) := by
  have h : ∀ n : Int, ((K == n) = true ∧ K = n) ∨ ((K == n) = false ∧ K ≠ n) := fun n => by
    by_cases e : K = n
    · exact .inl ⟨beq_iff_eq.2 e, e⟩
    · exact .inr ⟨beq_eq_false_iff_ne.2 e, e⟩
  rcases h 5 with a | ⟨a, b⟩
  · exact .inl a
  refine .inr ⟨a, b, ?_⟩
  rcases h 6 with a | ⟨a, b⟩
  · exact .inl a
  refine .inr ⟨a, b, ?_⟩
  rcases h 3 with a | ⟨a, b⟩
  · exact .inl a
  refine .inr ⟨a, b, ?_⟩
  rcases h 4 with a | ⟨a, b⟩
  · exact .inl a
  refine .inr ⟨a, b, ?_⟩
  rcases h 1 with a | ⟨a, b⟩
  · exact .inl a
  refine .inr ⟨a, b, ?_⟩
  rcases h 2 with a | ⟨a, b⟩
  · exact .inl a
  exact .inr ⟨a, b⟩

/-- What the loop has printed so far. -/
structure PrAt (ts : List Tk) (k : Nat) (T : S) : Prop where
  is : T = bs (printP (ts.take k))
theorem PrAt.step {ts : List Tk} {k : Nat} {T : S} (h : PrAt ts k T) (hk : k < ts.length) {Y : S} {t : Tk} (ht : ts[k] = t) (hY : Y = bs (tokP t)) : PrAt ts (k + 1) (T ++ Y) := by
  refine ⟨?_⟩
  rw [printP_snoc hk, ht, h.is, hY, bs_append]
theorem PrAt.size {ts : List Tk} {k : Nat} {T : S} (h : PrAt ts k T) (hs : tksW ts ≤ 1000000000) : T.size ≤ 6000000000 := by
  have h1 := printP_len (ts.take k)
  have h2 := tksW_take ts k
  rw [h.is, bs_size]; omega
/-- What the inner loop has printed so far. -/
structure InAt (T0 : S) (nm : Bs) (l : List At2) (j : Nat) (T : S) : Prop where
  is : T = T0 ++ bs (60 :: (nm ++ attsP (l.take j)))
theorem InAt.step {T0 : S} {nm : Bs} {l : List At2} {j : Nat} {T : S} (h : InAt T0 nm l j T) (hj : j < l.length) {Y : S} (hY : Y = bs (attT false l[j])) : InAt T0 nm l (j + 1) (T ++ Y) := by
  refine ⟨?_⟩
  rw [h.is, hY, attsP_snoc hj]
  rw [← data_bs T0, bs_append, bs_append, bs_append]
  simp
theorem InAt.size {T0 : S} {nm : Bs} {l : List At2} {j : Nat} {T : S} (h : InAt T0 nm l j T) : T.size ≤ T0.size + nm.length + attsW l + 1 := by
  have h1 := attsP_len (l.take j)
  have h2 := attsW_take l j
  rw [h.is, ByteArray.size_append, bs_size]
  simp only [List.length_cons, List.length_append]; omega
theorem InAt.done {T0 : S} {x : Tk} {T : S} (h : InAt T0 x.name x.attrs x.attrs.length T) (q : Bs) {Q : S} (hQ : Q = bs q) : T ++ Q = T0 ++ bs (tagP x q) := by
  rw [h.is, hQ, List.take_length, ← data_bs T0, bs_append, bs_append, bs_append]
  simp [tagP]
theorem app_assoc (A B C : S) : A ++ B ++ C = A ++ (B ++ C) := by
  rw [← data_bs A, ← data_bs B, ← data_bs C, bs_append, bs_append, bs_append, bs_append, List.append_assoc]

set_option maxRecDepth 100000 in
set_option maxHeartbeats 16000000 in
theorem refPrint_any (v : Value) (L : List TkM) (w : World) (h : TkMs w v L) (hsz : tksW (L.map (·.t)) ≤ 1000000000) :
    Calls Try.prog 30 #[v] w fun e w' => e = .returned (.string (bs (printP (L.map (·.t))))) ∧ Below w.heap.size w w' := by
  obtain ⟨ao, cap, rfl⟩ := h.own.shape
  have hcap : L.length ≤ 9223372036854775807 := by
    obtain ⟨_, _, e, h2, h3, -⟩ := h.own
    unfold maxLen at h3; omega
  have HT := Lib.hid h
  clear h
  go_enter Try.func30, Try.ntmps30
  go_wp2_with fail
  go_loopw [3, 10] (fun s i wr => ∃ (k : Nat) (T : S), k ≤ L.length ∧ i = .int .i64 k ∧ s = .string T ∧ Hid (PrAt (L.map (·.t)) k T) ∧ Below w.heap.size w wr) (fun _ i _ => L.length - (intOf i).toNat)
  case atStart => exact ⟨0, _, Nat.zero_le _, rfl, rfl, ⟨rfl⟩, Below.refl _ _⟩
  case round =>
    obtain ⟨k, T, hk, rfl, rfl, HP, hB⟩ := hrel
    obtain ⟨wo, rfl⟩ : ∃ wo : World, wo = wr := ⟨_, rfl⟩
    have HB := Lib.hid hB
    have hwr := hB.size
    have hTs := HP.out.size hsz
    by_cases hlt : k < L.length
    · have hltM : k < (L.map (·.t)).length := by simpa using hlt
      obtain ⟨g, o, rfl, hg, hc⟩ := HT.out.own.at hlt
      have hA := HT.out.att L[k] (List.getElem_mem hlt)
      have tr : ∀ q u, w.cell? ⟨g, q, none⟩ = some u → wo.cell? ⟨g, q, none⟩ = some u := fun q u hq => (HB.out.cell (by exact hg)).trans hq
      have d0 := tr _ _ (hc 0 _ rfl)
      have d1 := tr _ _ (hc 1 _ rfl)
      have d2 := tr _ _ (hc 2 _ rfl)
      have d3 := tr _ _ (hc 3 _ rfl)
      have d4 := tr _ _ (hc 4 _ rfl)
      have d5 := tr _ _ (hc 5 _ rfl)
      have d6 := tr _ _ (hc 6 _ rfl)
      rw [Nat.add_zero] at d0
      have hgr : g < wo.heap.size := Nat.lt_of_lt_of_le hg hwr
      have hi1 : (k : Int) < (L.length : Int) := by omega
      have hw := tksW_get hltM
      rw [List.getElem_map] at hw
      have HSN : Hid (∀ Y : S, Y = bs (tokP L[k].t) → PrAt (L.map (·.t)) (k + 1) (T ++ Y)) := fun Y hY => HP.out.step hltM (by rw [List.getElem_map]) hY
      have htw : tkW L[k].t ≤ 1000000000 := by omega
      unfold tkW at htw
      obtain ⟨ca, cpa, hav⟩ := hA.shape
      have hlm : L[k].t.attrs.length ≤ 9223372036854775807 := by
        obtain ⟨_, _, e, h2, h3, -⟩ := hA
        unfold maxLen at h3; omega
      obtain ⟨N, hN⟩ : ∃ N : S, bs L[k].t.name = N := ⟨_, rfl⟩
      obtain ⟨X, hX⟩ : ∃ X : S, bs L[k].t.text = X := ⟨_, rfl⟩
      have hNl : N.size = L[k].t.name.length := by rw [← hN, bs_size]
      have hXs : X.size ≤ 1000000000 := by rw [← hX, bs_size]; omega
      have hNs : N.size ≤ 1000000000 := by omega
      have HNL := Lib.hid hNl
      have HN := Lib.hid hN
      have HX := Lib.hid hX
      rw [hN] at d1
      rw [hX] at d3
      rw [hav] at d2 hA
      have HA := Lib.hid hA
      clear hc tr hw hB hN hX hA hav hNl
      generalize L[k] = x at *
      have HB1 := Lib.hid (HB.out.alloc hwr (.cells #[.int .i64 x.t.kind, .string N, .slice ca x.t.attrs.length cpa, .string X, .int .i64 x.off, .int .i64 x.line, .int .i64 x.col] 34))
      have hks := kind_cases2 x.t.kind
      rcases hks with ⟨e5, hk0⟩ | ⟨e5, hn5, ⟨e6, hk0⟩ | ⟨e6, hn6, ⟨e3, hk0⟩ | ⟨e3, hn3, ⟨e4, hk0⟩ | ⟨e4, hn4, ⟨e1, hk0⟩ | ⟨e1, hn1, ⟨e2, hk0⟩ | ⟨e2, hn2⟩⟩⟩⟩⟩⟩
      · have HTE : Hid (tokP x.t = sNote ++ (x.t.text ++ eNote)) := by show _ = _; unfold tokP; rw [if_pos hk0]
        clear hk0 
        have HST : Hid (PrAt (L.map (·.t)) (k + 1) (T ++ ((⟨#[60, 33, 45, 45]⟩ : S) ++ X ++ (⟨#[45, 45, 62]⟩ : S)))) := HSN.out _ (by
          rw [HTE.out]; exact tok_str sNote eNote HX.out.symm)
        go_wp2
        go_round
        case rel => exact ⟨k + 1, _, hlt, by go_num, rfl, HST.out, HB1.out⟩
        case measure => simp [intOf]; omega
      · have HTE : Hid (tokP x.t = sHead ++ (x.t.text ++ eHead)) := by show _ = _; unfold tokP; rw [if_neg (by rw [hk0]; decide), if_pos hk0]
        clear hk0 hn5
        have HST : Hid (PrAt (L.map (·.t)) (k + 1) (T ++ ((⟨#[60, 63, 120, 109, 108]⟩ : S) ++ X ++ (⟨#[63, 62]⟩ : S)))) := HSN.out _ (by
          rw [HTE.out]; exact tok_str sHead eHead HX.out.symm)
        go_wp2
        go_round
        case rel => exact ⟨k + 1, _, hlt, by go_num, rfl, HST.out, HB1.out⟩
        case measure => simp [intOf]; omega
      · have HTE : Hid (tokP x.t = ([60, 47] : Bs) ++ (x.t.name ++ ([62] : Bs))) := by show _ = _; unfold tokP; rw [if_neg (by rw [hk0]; decide), if_neg (by rw [hk0]; decide), if_pos hk0]
        clear hk0 hn5 hn6
        have HST : Hid (PrAt (L.map (·.t)) (k + 1) (T ++ ((⟨#[60, 47]⟩ : S) ++ N ++ (⟨#[62]⟩ : S)))) := HSN.out _ (by
          rw [HTE.out]; exact tok_str ([60, 47] : Bs) ([62] : Bs) HN.out.symm)
        go_wp2
        go_round
        case rel => exact ⟨k + 1, _, hlt, by go_num, rfl, HST.out, HB1.out⟩
        case measure => simp [intOf]; omega
      · have HTE : Hid (tokP x.t = esc false x.t.text) := by show _ = _; unfold tokP; rw [if_neg (by rw [hk0]; decide), if_neg (by rw [hk0]; decide), if_neg (by rw [hk0]; decide), if_neg (by rw [hk0]; decide), if_neg (by rw [hk0]; decide), if_pos hk0]
        clear hk0 hn5 hn6 hn3
        obtain ⟨E, hE⟩ : ∃ E : S, E = bs (esc false X.data.toList) := ⟨_, rfl⟩
        have hEs : E.size ≤ 6000000000 := by
          rw [hE, bs_size]
          have := (esc_len false X.data.toList).2
          rw [size_data] at this; omega
        have HST : Hid (PrAt (L.map (·.t)) (k + 1) (T ++ E)) := HSN.out _ (by
          have e1 : X.data.toList = x.t.text := by rw [← HX.out, bs_data]
          rw [HTE.out, hE, e1])
        have HESC : Hid (∀ w, Calls Try.prog 27 #[.string X, .bool false] w fun e w' => e = .returned (.string E) ∧ w = w') := fun w => by rw [hE]; exact refEscape_any X false w hXs
        clear hE
        go_wp2_with fail
        refine (HESC.out _).mono ?_
        rintro e w' ⟨rfl, rfl⟩
        go_wp2
        go_round
        case rel => exact ⟨k + 1, _, hlt, by go_num, rfl, HST.out, HB1.out⟩
        case measure => simp [intOf]; omega
      · have HTE : Hid (tokP x.t = tagP x.t [62]) := by show _ = _; unfold tokP; rw [if_neg (by rw [hk0]; decide), if_neg (by rw [hk0]; decide), if_neg (by rw [hk0]; decide), if_pos hk0]
        clear hk0 hn5 hn6 hn3 hn4
        go_wp2_with fail
        refine wp_world ?_
        intro W hW
        have hbx : Box W wo.heap.size [.int .i64 x.t.kind, .string N, .slice ca x.t.attrs.length cpa, .string X, .int .i64 x.off, .int .i64 x.line, .int .i64 x.col] := by rw [hW]; exact Box.new wo _ _ _ rfl
        have hBW : Below w.heap.size w W := by rw [hW]; exact HB1.out
        clear hW
        have HBX := Lib.hid hbx
        have HBW := Lib.hid hBW
        have hwW := hBW.size
        have hI0 : InAt T x.t.name x.t.attrs 0 (T ++ ((⟨#[60]⟩ : S) ++ N)) := by
          refine ⟨?_⟩
          rw [← HN.out, show (⟨#[60]⟩ : S) = bs [60] from rfl, bs_append]
          simp [attsP]
        have HI0 := Lib.hid hI0
        have hltb := hbx.lt
        clear hbx hBW hI0 d0 d1 d2 d3 d4 d5 d6
        go_loopw [3, 58] (fun s i wr => ∃ (j : Nat) (U : S), j ≤ x.t.attrs.length ∧ i = .int .i64 j ∧ s = .string U ∧ Hid (InAt T x.t.name x.t.attrs j U) ∧ Below W.heap.size W wr) (fun _ i _ => x.t.attrs.length - (intOf i).toNat)
        case atStart => exact ⟨0, _, Nat.zero_le _, rfl, rfl, HI0.out, Below.refl _ _⟩
        case round =>
          obtain ⟨j, U, hj, rfl, rfl, HU, hBV⟩ := hrel
          have HV := Lib.hid hBV
          have hwv := hBV.size
          have hUs := HU.out.size
          by_cases hjlt : j < x.t.attrs.length
          · obtain ⟨g2, o2, rfl, hg2, hc⟩ := HA.out.at hjlt
            have tr : ∀ q u, w.cell? ⟨g2, q, none⟩ = some u → wr.cell? ⟨g2, q, none⟩ = some u := fun q u hq => (hBV.cell (by exact Nat.lt_of_lt_of_le hg2 hwW)).trans ((HBW.out.cell (by exact hg2)).trans hq)
            have d0 := tr _ _ (hc 0 _ rfl)
            have d1 := tr _ _ (hc 1 _ rfl)
            rw [Nat.add_zero] at d0
            have hgr2 : g2 < wr.heap.size := Nat.lt_of_lt_of_le (Nat.lt_of_lt_of_le hg2 hwW) hwv
            have hji : (j : Int) < (x.t.attrs.length : Int) := by omega
            have haw := attsW_get hjlt
            obtain ⟨N2, hN2⟩ : ∃ N2 : S, bs x.t.attrs[j].1 = N2 := ⟨_, rfl⟩
            obtain ⟨V, hV⟩ : ∃ V : S, bs x.t.attrs[j].2 = V := ⟨_, rfl⟩
            rw [hN2] at d0
            rw [hV] at d1
            have hNs2 : N2.size ≤ 1000000000 := by rw [← hN2, bs_size]; omega
            have hVs : V.size ≤ 200000000 := by rw [← hV, bs_size]; omega
            obtain ⟨E, hE⟩ : ∃ E : S, E = bs (esc true V.data.toList) := ⟨_, rfl⟩
            have hEs : E.size ≤ 1200000000 := by
              rw [hE, bs_size]
              have := (esc_len true V.data.toList).2
              rw [size_data] at this; omega
            have HAS := Lib.hid (HU.out.step hjlt (att_str hN2.symm hV.symm hE))
            have HESC0 : Hid (∀ w, Calls Try.prog 27 #[.string V, .bool true] w fun e w' => e = .returned (.string E) ∧ w = w') := fun w => by rw [hE]; exact refEscape_any V true w (by omega)
            clear hc tr hBV hE hN2 hV
            go_wp2_with fail
            clear d0 d1
            refine wp_world ?_
            intro W2 hW2
            have hx2 : Box W2 wr.heap.size [.string N2, .string V] := by rw [hW2]; exact Box.new wr _ _ _ rfl
            have hB2 : Below W.heap.size W W2 := by rw [hW2]; exact HV.out.alloc hwv _
            clear hW2
            have y0 := hx2.cell 0 _ rfl
            have y1 := hx2.cell 1 _ rfl
            have ly := hx2.lt
            have HB2 := Lib.hid hB2
            have HESC : Hid (∀ i, Calls Try.prog 27 #[.string V, .bool true] (W2.drewN i) fun e w'' => e = .returned (.string E) ∧ ∃ q, w'' = W2.drewN q) := fun i => quietS (HESC0.out _)
            have f1 : ¬ 9223372036854775807 < 1 + N2.size := by omega
            have f2 : ¬ 9223372036854775807 < 1 + N2.size + 2 := by omega
            have f3 : ¬ 9223372036854775807 < 1 + N2.size + 2 + E.size := by omega
            have f4 : ¬ 9223372036854775807 < 1 + N2.size + 2 + E.size + 1 := by omega
            have f5 : ¬ 9223372036854775807 < U.size + (1 + N2.size + 2 + E.size + 1) := by omega
            clear hx2 hB2 HESC0
            go_quiet ((go_at_call 27; exact HESC.out _))
            go_wp2
            go_round
            case rel => exact ⟨j + 1, _, hjlt, by go_num, rfl, HAS.out, belowN HB2.out _⟩
            case measure => simp [intOf]; omega
          · obtain rfl : j = x.t.attrs.length := by omega
            have hji : ¬ (x.t.attrs.length : Int) < (x.t.attrs.length : Int) := by omega
            have hx2 := HBX.out.below hBV hltb
            have y0 := hx2.cell 0 _ rfl
            have ly := hx2.lt
            have HST : Hid (PrAt (L.map (·.t)) (k + 1) (U ++ (⟨#[62]⟩ : S))) := by
              show PrAt _ _ _
              rw [HU.out.done (Q := ⟨#[62]⟩) [62] rfl]
              exact HSN.out _ (by rw [HTE.out])
            have HZ := Lib.hid (HBW.out.trans (hBV.mono hwW))
            clear hx2 hBV
            go_wp2
            go_round
            case rel => exact ⟨k + 1, _, hlt, by go_num, rfl, HST.out, HZ.out⟩
            case measure => simp [intOf]; omega
      · have HTE : Hid (tokP x.t = tagP x.t [47, 62]) := by show _ = _; unfold tokP; rw [if_neg (by rw [hk0]; decide), if_neg (by rw [hk0]; decide), if_neg (by rw [hk0]; decide), if_neg (by rw [hk0]; decide), if_pos hk0]
        clear hk0 hn5 hn6 hn3 hn4 hn1
        go_wp2_with fail
        refine wp_world ?_
        intro W hW
        have hbx : Box W wo.heap.size [.int .i64 x.t.kind, .string N, .slice ca x.t.attrs.length cpa, .string X, .int .i64 x.off, .int .i64 x.line, .int .i64 x.col] := by rw [hW]; exact Box.new wo _ _ _ rfl
        have hBW : Below w.heap.size w W := by rw [hW]; exact HB1.out
        clear hW
        have HBX := Lib.hid hbx
        have HBW := Lib.hid hBW
        have hwW := hBW.size
        have hI0 : InAt T x.t.name x.t.attrs 0 (T ++ ((⟨#[60]⟩ : S) ++ N)) := by
          refine ⟨?_⟩
          rw [← HN.out, show (⟨#[60]⟩ : S) = bs [60] from rfl, bs_append]
          simp [attsP]
        have HI0 := Lib.hid hI0
        have hltb := hbx.lt
        clear hbx hBW hI0 d0 d1 d2 d3 d4 d5 d6
        go_loopw [3, 58] (fun s i wr => ∃ (j : Nat) (U : S), j ≤ x.t.attrs.length ∧ i = .int .i64 j ∧ s = .string U ∧ Hid (InAt T x.t.name x.t.attrs j U) ∧ Below W.heap.size W wr) (fun _ i _ => x.t.attrs.length - (intOf i).toNat)
        case atStart => exact ⟨0, _, Nat.zero_le _, rfl, rfl, HI0.out, Below.refl _ _⟩
        case round =>
          obtain ⟨j, U, hj, rfl, rfl, HU, hBV⟩ := hrel
          have HV := Lib.hid hBV
          have hwv := hBV.size
          have hUs := HU.out.size
          by_cases hjlt : j < x.t.attrs.length
          · obtain ⟨g2, o2, rfl, hg2, hc⟩ := HA.out.at hjlt
            have tr : ∀ q u, w.cell? ⟨g2, q, none⟩ = some u → wr.cell? ⟨g2, q, none⟩ = some u := fun q u hq => (hBV.cell (by exact Nat.lt_of_lt_of_le hg2 hwW)).trans ((HBW.out.cell (by exact hg2)).trans hq)
            have d0 := tr _ _ (hc 0 _ rfl)
            have d1 := tr _ _ (hc 1 _ rfl)
            rw [Nat.add_zero] at d0
            have hgr2 : g2 < wr.heap.size := Nat.lt_of_lt_of_le (Nat.lt_of_lt_of_le hg2 hwW) hwv
            have hji : (j : Int) < (x.t.attrs.length : Int) := by omega
            have haw := attsW_get hjlt
            obtain ⟨N2, hN2⟩ : ∃ N2 : S, bs x.t.attrs[j].1 = N2 := ⟨_, rfl⟩
            obtain ⟨V, hV⟩ : ∃ V : S, bs x.t.attrs[j].2 = V := ⟨_, rfl⟩
            rw [hN2] at d0
            rw [hV] at d1
            have hNs2 : N2.size ≤ 1000000000 := by rw [← hN2, bs_size]; omega
            have hVs : V.size ≤ 200000000 := by rw [← hV, bs_size]; omega
            obtain ⟨E, hE⟩ : ∃ E : S, E = bs (esc true V.data.toList) := ⟨_, rfl⟩
            have hEs : E.size ≤ 1200000000 := by
              rw [hE, bs_size]
              have := (esc_len true V.data.toList).2
              rw [size_data] at this; omega
            have HAS := Lib.hid (HU.out.step hjlt (att_str hN2.symm hV.symm hE))
            have HESC0 : Hid (∀ w, Calls Try.prog 27 #[.string V, .bool true] w fun e w' => e = .returned (.string E) ∧ w = w') := fun w => by rw [hE]; exact refEscape_any V true w (by omega)
            clear hc tr hBV hE hN2 hV
            go_wp2_with fail
            clear d0 d1
            refine wp_world ?_
            intro W2 hW2
            have hx2 : Box W2 wr.heap.size [.string N2, .string V] := by rw [hW2]; exact Box.new wr _ _ _ rfl
            have hB2 : Below W.heap.size W W2 := by rw [hW2]; exact HV.out.alloc hwv _
            clear hW2
            have y0 := hx2.cell 0 _ rfl
            have y1 := hx2.cell 1 _ rfl
            have ly := hx2.lt
            have HB2 := Lib.hid hB2
            have HESC : Hid (∀ i, Calls Try.prog 27 #[.string V, .bool true] (W2.drewN i) fun e w'' => e = .returned (.string E) ∧ ∃ q, w'' = W2.drewN q) := fun i => quietS (HESC0.out _)
            have f1 : ¬ 9223372036854775807 < 1 + N2.size := by omega
            have f2 : ¬ 9223372036854775807 < 1 + N2.size + 2 := by omega
            have f3 : ¬ 9223372036854775807 < 1 + N2.size + 2 + E.size := by omega
            have f4 : ¬ 9223372036854775807 < 1 + N2.size + 2 + E.size + 1 := by omega
            have f5 : ¬ 9223372036854775807 < U.size + (1 + N2.size + 2 + E.size + 1) := by omega
            clear hx2 hB2 HESC0
            go_quiet ((go_at_call 27; exact HESC.out _))
            go_wp2
            go_round
            case rel => exact ⟨j + 1, _, hjlt, by go_num, rfl, HAS.out, belowN HB2.out _⟩
            case measure => simp [intOf]; omega
          · obtain rfl : j = x.t.attrs.length := by omega
            have hji : ¬ (x.t.attrs.length : Int) < (x.t.attrs.length : Int) := by omega
            have hx2 := HBX.out.below hBV hltb
            have y0 := hx2.cell 0 _ rfl
            have ly := hx2.lt
            have HST : Hid (PrAt (L.map (·.t)) (k + 1) (U ++ (⟨#[47, 62]⟩ : S))) := by
              show PrAt _ _ _
              rw [HU.out.done (Q := ⟨#[47, 62]⟩) [47, 62] rfl]
              exact HSN.out _ (by rw [HTE.out])
            have HZ := Lib.hid (HBW.out.trans (hBV.mono hwW))
            clear hx2 hBV
            go_wp2
            go_round
            case rel => exact ⟨k + 1, _, hlt, by go_num, rfl, by rw [app_assoc]; exact HST.out, HZ.out⟩
            case measure => simp [intOf]; omega
      · have HTE : Hid (tokP x.t = []) := by show _ = _; unfold tokP; rw [if_neg hn5, if_neg hn6, if_neg hn3, if_neg hn1, if_neg hn2, if_neg hn4]
        have HST : Hid (PrAt (L.map (·.t)) (k + 1) T) := by
          have := HSN.out (⟨#[]⟩ : S) (by rw [HTE.out]; rfl)
          have e1 : T ++ (⟨#[]⟩ : S) = T := by rw [← data_bs T, show (⟨#[]⟩ : S) = bs [] from rfl, bs_append, List.append_nil]
          rw [e1] at this
          exact this
        clear hn5 hn6 hn3 hn1 hn2 hn4
        go_wp2
        go_round
        case rel => exact ⟨k + 1, _, hlt, by go_num, rfl, HST.out, HB1.out⟩
        case measure => simp [intOf]; omega
    · obtain rfl : k = L.length := by omega
      have hi1 : ¬ (L.length : Int) < (L.length : Int) := by omega
      have HO : Hid (T = bs (printP (L.map (·.t)))) := by
        have h1 := HP.out.is
        rw [List.take_of_length_le (by simp)] at h1
        exact h1
      go_wp2
      go_ret
      exact ⟨by rw [HO.out]; rfl, HB.out⟩

end Go.Proofs.Ytpchljiiappmnaa
