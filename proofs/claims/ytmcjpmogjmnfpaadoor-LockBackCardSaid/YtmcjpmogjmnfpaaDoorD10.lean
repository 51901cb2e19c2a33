/- Walk: the document's Parse; the conditions stand in the theorems. -/
import Derived.Test.YtmcjpmogjmnfpaaDoorD7
import Derived.Test.YtmcjpmogjmnfpaaDoorD9
namespace Go.Proofs.YtmcjpmogjmnfpaaDoor
open Go Go.RowKit

theorem take_app {a r : Bs} (h : (a ++ 58 :: r).take 5 = rootW) : a.take 5 = rootW := by
  rw [List.take_append] at h
  by_cases hl : 5 ≤ a.length
  · rw [show 5 - a.length = 0 by omega] at h
    simpa using h
  · exfalso
    have : (58 : UInt8) ∈ rootW := by
      rw [← h]
      apply List.mem_append_right
      obtain ⟨k, hk⟩ : ∃ k, 5 - a.length = k + 1 := ⟨5 - a.length - 1, by omega⟩
      rw [hk]; simp
    exact absurd this (by decide)
theorem prefix_take (t : Bs) : rootW.isPrefixOf t = decide (t.take 5 = rootW) := by
  rw [Bool.eq_iff_iff, List.isPrefixOf_iff_prefix, decide_eq_true_iff, List.prefix_iff_eq_take]
  constructor <;> intro h <;> exact h.symm
theorem root_three {t a b c : Bs} (h : piecesB 58 t = [a, b, c]) : rootP t = if a.take 5 = rootW then (if gavMay ⟨bs (a.drop 5), bs b, bs c⟩ then some ⟨bs (a.drop 5), bs b, bs c⟩ else none) else none := by
  have hg := glued_pieces 58 t
  rw [h] at hg
  have ht : t = a ++ 58 :: (b ++ 58 :: c) := hg.symm
  have hc := pieces_clean 58 t
  rw [h] at hc
  have ca : (58 : UInt8) ∉ a := hc a (by simp)
  have cb : (58 : UInt8) ∉ b := hc b (by simp)
  have cc : (58 : UInt8) ∉ c := hc c (by simp)
  unfold rootP
  rw [prefix_take]
  by_cases hr : a.take 5 = rootW
  · rw [if_pos hr]
    have hl : 5 ≤ a.length := by
      have := congrArg List.length hr
      rw [List.length_take] at this
      have h2 : rootW.length = 5 := rfl
      omega
    have h5 : t.take 5 = rootW := by rw [ht, List.take_append_of_le_length hl, hr]
    rw [decide_eq_true h5, if_pos rfl]
    have hd : t.drop 5 = a.drop 5 ++ 58 :: (b ++ 58 :: c) := by rw [ht, List.drop_append_of_le_length hl]
    have hp : piecesB 58 (t.drop 5) = [a.drop 5, b, c] := by
      rw [hd, piecesB_app _ (fun h => ca (List.mem_of_mem_drop h)), piecesB_app _ cb, piecesB_none cc]
    exact gavP_three hp
  · rw [if_neg hr, if_neg]
    intro h5
    apply hr
    have h5 := of_decide_eq_true h5
    rw [ht] at h5
    exact take_app h5
theorem root_no {t : Bs} (h : (piecesB 58 t).length ≠ 3) : rootP t = none := by
  unfold rootP
  rw [prefix_take]
  by_cases h5 : t.take 5 = rootW
  · rw [decide_eq_true h5, if_pos rfl]
    refine gavP_no fun e => h ?_
    obtain ⟨q, qs, hq⟩ := piecesB_cons 58 (t.drop 5)
    have h1 := piecesB_pre (p := rootW) (by decide) hq
    rw [← h5, List.take_append_drop] at h1
    rw [hq] at e
    rw [h1]; simpa using e
  · rw [decide_eq_false h5]; rfl
theorem root_short {a : Bs} (h : a.length < 5) : a.take 5 ≠ rootW := fun e => by
  have := congrArg List.length e
  rw [List.length_take] at this
  have h2 : rootW.length = 5 := rfl
  omega
theorem gavSm_no : gavSm noGav := ⟨by show (0 : Nat) ≤ _; omega, by show (0 : Nat) ≤ _; omega, by show (0 : Nat) ≤ _; omega⟩
/-- Where the document's Parse stands at line i. -/
def stR (ls : List Bs) (i : Nat) (g : Gav) (acc : List Pin) : Except Nat Lock :=
  if i = 0 then parseL ls else if i = 1 then parse1 (ls.drop 1) else withG g (pinsGo (ls.drop i) i acc)
theorem stR_end {ls : List Bs} {g : Gav} {acc : List Pin} (h : ls ≠ []) : stR ls ls.length g acc = .error (ls.length + 1) := by
  unfold stR
  by_cases h1 : ls.length = 1
  · rw [if_neg (by omega), if_pos h1, List.drop_of_length_le (by omega), h1]; rfl
  · have := List.length_pos_iff.2 h
    rw [if_neg (by omega), if_neg h1, List.drop_of_length_le (by omega)]; rfl
theorem stR_last {ls : List Bs} {i : Nat} {g : Gav} {acc : List Pin} (h : ls.drop i = [[]]) : stR ls i g acc = .error (i + 1) := by
  unfold stR
  by_cases h0 : i = 0
  · rw [if_pos h0]; subst h0; rw [List.drop_zero] at h; rw [h, parseL_none (.inr rfl)]
  · rw [if_neg h0]
    by_cases h1 : i = 1
    · rw [if_pos h1]; subst h1; rw [h, parse1_none (.inr rfl)]
    · rw [if_neg h1, h, pinsGo_none (.inr rfl)]; rfl
theorem stR_0 {ls : List Bs} {t : Bs} {r : List Bs} {g : Gav} {acc : List Pin} (h : ls.drop 0 = t :: r) : stR ls 0 g acc = if t = headB then stR ls 1 g acc else .error 1 := by
  rw [List.drop_zero] at h
  show parseL ls = if _ then parse1 (ls.drop 1) else _
  rw [h, parseL_cons]
  rfl
theorem stR_1 {ls : List Bs} {t : Bs} {r : List Bs} {g : Gav} (h : ls.drop 1 = t :: r) (hr : t = [] → r ≠ []) (acc : List Pin) : stR ls 1 g acc = match rootP t with
    | none => .error 2
    | some g' => stR ls 2 g' [] := by
  show parse1 (ls.drop 1) = _
  rw [h, parse1_some hr]
  have h2 : ls.drop 2 = r := by
    have : (ls.drop 1).drop 1 = r := by rw [h]; rfl
    rwa [List.drop_drop] at this
  cases rootP t with
  | none => rfl
  | some g' => show withG g' (pinsGo r 2 []) = withG g' (pinsGo (ls.drop 2) 2 []); rw [h2]
theorem stR_2 {ls : List Bs} {i : Nat} {g : Gav} {acc : List Pin} (h : 2 ≤ i) : stR ls i g acc = withG g (pinsGo (ls.drop i) i acc) := by
  unfold stR
  rw [if_neg (by omega), if_neg (by omega)]
/-- What the document's Parse gives. -/
def RefParseOut (w : World) (r : Except Nat Lock) (e : Ending) (w' : World) : Prop := match r with
  | .error k => e = .returned (.tuple #[.agg #[.string ⟨#[]⟩, .string ⟨#[]⟩, .string ⟨#[]⟩, .slice none 0 0], .int .i64 k]) ∧ Below w.heap.size w w'
  | .ok l => ∃ v, e = .returned (.tuple #[.agg #[.string l.root.group, .string l.root.artifact, .string l.root.version, v], .int .i64 0]) ∧ SliceOf 6 pinC w' v l.pins ∧ Below w.heap.size w w'
theorem drop_get {ls : List Bs} {i : Nat} (h : i < ls.length) : ls.drop i = ls[i] :: ls.drop (i + 1) := List.drop_eq_getElem_cons h
theorem drop_nil {ls : List Bs} {i : Nat} : ls.drop (i + 1) = [] ↔ ls.length ≤ i + 1 := List.drop_eq_nil_iff
theorem drop_one {ls : List Bs} {i : Nat} (h : i < ls.length) : ls.drop (i + 1) = [[]] ↔ (i + 2 = ls.length ∧ ls[i + 1]? = some []) := by
  constructor
  · intro e
    have h1 := congrArg List.length e
    rw [List.length_drop, List.length_singleton] at h1
    refine ⟨by omega, ?_⟩
    have h2 : (ls.drop (i + 1))[0]? = some [] := by rw [e]; rfl
    simpa using h2
  · rintro ⟨h1, h2⟩
    have h3 : i + 1 < ls.length := by omega
    rw [List.drop_eq_getElem_cons h3, List.drop_of_length_le (by omega)]
    rw [List.getElem?_eq_getElem h3] at h2
    rw [Option.some.inj h2]

set_option maxRecDepth 100000 in
set_option maxHeartbeats 16000000 in
theorem refParse_any (s : S) (w : World) (hs : s.size ≤ 100000) : Calls Tryd.prog 8 #[.string s] w (RefParseOut w (parseB s.data.toList)) := by
  have HS := Lib.hid hs
  clear hs
  go_enter Tryd.func8, Tryd.ntmps8
  go_upto_region 1 with fail
  refine wp_world ?_
  intro W0 hW0
  have x0 : Box W0 w.heap.size [.string ⟨#[]⟩, .string ⟨#[]⟩, .string ⟨#[]⟩, .slice none 0 0] := by rw [hW0]; exact Box.new w [.string ⟨#[]⟩, .string ⟨#[]⟩, .string ⟨#[]⟩, .slice none 0 0] _ _ rfl
  have hb0 : Below w.heap.size w W0 := by rw [hW0]; exact (Below.refl _ w).alloc (Nat.le_refl _) _
  clear hW0
  have HLN := Lib.hid (lines_any s W0 (by have := HS.out; omega))
  go_wp2_with fail
  refine HLN.out.mono ?_
  rintro e w1 ⟨v, rfl, ho, hb1⟩
  have hls : piecesS 10 s.data.toList = (piecesB 10 s.data.toList).map bs := rfl
  have HT : Hid (parseB s.data.toList = stR (piecesB 10 s.data.toList) 0 noGav []) := parseB_L _
  have HNE : Hid (piecesB 10 s.data.toList ≠ []) := piecesB_ne _ _
  have HLZ : Hid (∀ x ∈ piecesB 10 s.data.toList, x.length ≤ s.size) := fun x hx => by have := piece_len 10 s.data.toList x hx; rw [size_data] at this; exact this
  have HLL : Hid ((piecesB 10 s.data.toList).length ≤ s.size + 1) := by
    have h := piecesS_len 10 s s.size
    rw [List.take_of_length_le (by rw [size_data]; exact Nat.le_refl _)] at h
    show _ ≤ _
    simpa [piecesS] using h
  obtain ⟨g0, cap0, rfl, hg, hc⟩ := ho.strs (piecesS_ne _ _)
  rw [hls] at hc
  rw [show (piecesS 10 s.data.toList).length = (piecesB 10 s.data.toList).length by simp [piecesS]]
  clear hls
  generalize piecesB 10 s.data.toList = ls at *
  have HC : Hid (∀ (j : Nat) (x : Bs), ls[j]? = some x → w1.cell? ⟨g0, j, none⟩ = some (.string (bs x))) := fun j x h => hc j (bs x) (by simp [h])
  have X0 := Lib.hid (x0.below hb1 x0.lt)
  have HB1 := Lib.hid (hb0.trans (hb1.mono hb0.size))
  clear hc ho x0 hb0 hb1 HLN
  go_upto_region 3 with fail
  refine wp_world ?_
  intro W2 hW2
  have x1 : Box W2 w1.heap.size [.string ⟨#[]⟩, .string ⟨#[]⟩, .string ⟨#[]⟩, .slice none 0 0] := by rw [hW2]; exact Box.new w1 [.string ⟨#[]⟩, .string ⟨#[]⟩, .string ⟨#[]⟩, .slice none 0 0] _ _ rfl
  have hb2 : Below w1.heap.size w1 W2 := by rw [hW2]; exact (Below.refl _ w1).alloc (Nat.le_refl _) _
  clear hW2
  have X1 := Lib.hid x1
  have HB2 := Lib.hid hb2
  have l1 := x1.lt
  have hA0 : w.heap.size < w1.heap.size := X0.out.lt
  clear x1 hb2
  generalize hA1 : w1.heap.size = A1 at *
  obtain ⟨N3, hN3⟩ : ∃ n, n = W2.heap.size := ⟨_, rfl⟩
  have nAN : A1 < N3 := by rw [hN3]; exact l1
  have HN3 := Lib.hid (Nat.le_of_eq hN3)
  have HA1 := Lib.hid hA1
  clear hN3 hA1 l1
  have hln : ls.length ≤ 100001 := by have := HLL.out; have := HS.out; omega
  go_wp2_with fail
  go_loopw [17] (fun iv wr => ∃ (i : Nat) (g : Gav) (acc : List Pin) (v : Value), i ≤ ls.length ∧ iv = .int .i64 i ∧ Below A1 w1 wr ∧ Box wr A1 [.string g.group, .string g.artifact, .string g.version, v] ∧ Owns N3 51 6 pinC wr v acc ∧ N3 ≤ wr.heap.size ∧ Hid (parseB s.data.toList = stR ls i g acc) ∧ acc.length ≤ i ∧ (i < 2 → acc = []) ∧ gavSm g) (fun iv _ => ls.length - (intOf iv).toNat)
  case atStart => exact ⟨0, noGav, [], .slice none 0 0, Nat.zero_le _, rfl, HB2.out, X1.out, Owns.nil, HN3.out, HT, by simp, fun _ => rfl, gavSm_no⟩
  case round =>
    obtain ⟨i, g, acc, v, hi, rfl, hB, hX1, hO, hN, HTr, hai, hacc, hgs⟩ := hrel
    obtain ⟨ao, cap, rfl⟩ := hO.shape
    have X1r := Lib.hid hX1
    have HO := Lib.hid hO
    have HB := Lib.hid hB
    have HAI := Lib.hid hai
    have HACC := Lib.hid hacc
    have HGS := Lib.hid hgs
    have hgA : g0 < A1 := by have := HA1.out; omega
    clear hX1 hO hB hai hacc hgs
    by_cases hlt : i < ls.length
    · have hltI : (i : Int) < (ls.length : Int) := by omega
      have HD := Lib.hid (drop_get hlt)
      have HTZ : Hid ((bs ls[i]).size ≤ 100000) := by have h1 := HLZ.out _ (List.getElem_mem hlt); have h2 := HS.out; show _ ≤ _; rw [bs_size]; omega
      have hcell : wr.cell? ⟨g0, i, none⟩ = some (.string (bs ls[i])) := (HB.out.cell (p := ⟨g0, i, none⟩) (by exact hgA)).trans (HC.out i _ (List.getElem?_eq_getElem hlt))
      have HDT : Hid ((bs ls[i]).data.toList = ls[i]) := bs_data _
      have HLAST : Hid (ls.drop (i + 1) = [] ↔ i + 1 = ls.length) := by show _ ↔ _; rw [drop_nil]; omega
      have HONE := Lib.hid (drop_one hlt)
      have HC1 : Hid (i + 1 < ls.length → wr.cell? ⟨g0, i + 1, none⟩ = some (.string (bs ((ls[i + 1]?).getD [])))) := fun h => (HB.out.cell (p := ⟨g0, i + 1, none⟩) (by exact hgA)).trans (HC.out (i + 1) _ (by simp [h]))
      generalize ls[i] = t at *
      obtain ⟨L', hL'⟩ : ∃ x, x = ls.drop (i + 1) := ⟨_, rfl⟩
      rw [← hL'] at HD HLAST HONE
      have HDN : Hid (ls.drop (i + 1) = L') := hL'.symm
      clear hL'
      obtain ⟨xt, hxt⟩ : ∃ x, x = bs t := ⟨_, rfl⟩
      rw [← hxt] at hcell HTZ HDT
      have HXT := Lib.hid hxt
      clear hxt
      by_cases hbad : i + 1 = ls.length ∧ t = []
      · have hq1 : ((i : Int) == (ls.length : Int) - 1) = true := by rw [beq_iff_eq]; omega
        have hq2 : (xt.toList == []) = true := by rw [str_lit, HDT.out, hbad.2]; rfl
        have hw : IntKind.i64.wrap ((ls.length : Int) - 1) = (i : Int) := by rw [show (ls.length : Int) - 1 = (i : Int) by omega]; exact IntWalk.i64_in _ (by omega)
        have HE : Hid (parseB s.data.toList = .error (i + 1)) := by show _ = _; rw [HTr.out]; exact stR_last (by rw [HD.out, HLAST.out.2 hbad.1, hbad.2])
        have hiI : (i : Int) ≤ 100001 := by omega
        have hi0 : (0 : Int) ≤ (i : Int) := by omega
        clear hbad hq1 HC1
        have X9 := Lib.hid (X0.out.below HB.out hA0)
        have HB9 := Lib.hid (HB1.out.trans (HB.out.mono (Nat.le_of_lt hA0)))
        have u0 := X9.out.free 0
        have z0 := X9.out.cell 0 _ rfl
        have u1 := X9.out.free 1
        have z1 := X9.out.cell 1 _ rfl
        have u2 := X9.out.free 2
        have z2 := X9.out.cell 2 _ rfl
        have u3 := X9.out.free 3
        have z3 := X9.out.cell 3 _ rfl
        have lz := X9.out.lt
        go_wp2
        refine bodyPost_ret (v := .tuple #[.agg #[.string ⟨#[]⟩, .string ⟨#[]⟩, .string ⟨#[]⟩, .slice none 0 0], .int .i64 ((i : Int) + 1)]) (by simp [results, Tryd.results8, go_sem, z0, z1, z2, z3]) rfl ?_
        rw [HE.out]
        exact ⟨rfl, (((HB9.out.setCell (by simp) _).setCell (by simp) _).setCell (by simp) _).setCell (by simp) _⟩
      · by_cases hl : i + 1 = ls.length
        · have hq3 : ¬ t = [] := fun h => hbad ⟨hl, h⟩
          have hq1 : ((i : Int) == (ls.length : Int) - 1) = true := by rw [beq_iff_eq]; omega
          have hq2 : (xt.toList == []) = false := by rw [str_lit, HDT.out]; exact decide_eq_false hq3
          have hw : IntKind.i64.wrap ((ls.length : Int) - 1) = (ls.length : Int) - 1 := IntWalk.i64_in _ (by omega)
          have hiI : (i : Int) ≤ 100001 := by omega
          have hp0 : (0 : Int) ≤ (i : Int) := by omega
          have HLQ := Lib.hid hl
          clear hbad hl
          by_cases hi0 : i = 0
          · subst hi0
            rw [show ((0 : Nat) : Int) = 0 from rfl] at hq1 hiI hp0 hltI
            have HA0 := Lib.hid (HACC.out (by omega))
            by_cases ht : t = headB
            rotate_left
            · have HE : Hid (parseB s.data.toList = .error 1) := by show _ = _; rw [HTr.out, stR_0 HD.out, if_neg ht]
              have he : (xt.toList == [112, 111, 109, 97, 99, 101, 32, 49]) = false := by rw [str_lit, HDT.out]; exact decide_eq_false ht
              have he2 : (xt.toList != [112, 111, 109, 97, 99, 101, 32, 49]) = true := by rw [bne, he]; rfl
              clear ht HC1
              have X9 := Lib.hid (X0.out.below HB.out hA0)
              have HB9 := Lib.hid (HB1.out.trans (HB.out.mono (Nat.le_of_lt hA0)))
              have u0 := X9.out.free 0
              have z0 := X9.out.cell 0 _ rfl
              have u1 := X9.out.free 1
              have z1 := X9.out.cell 1 _ rfl
              have u2 := X9.out.free 2
              have z2 := X9.out.cell 2 _ rfl
              have u3 := X9.out.free 3
              have z3 := X9.out.cell 3 _ rfl
              have lz := X9.out.lt
              go_wp2
              refine bodyPost_ret (v := .tuple #[.agg #[.string ⟨#[]⟩, .string ⟨#[]⟩, .string ⟨#[]⟩, .slice none 0 0], .int .i64 (1)]) (by simp [results, Tryd.results8, go_sem, z0, z1, z2, z3]) rfl ?_
              rw [HE.out]
              exact ⟨rfl, (((HB9.out.setCell (by simp) _).setCell (by simp) _).setCell (by simp) _).setCell (by simp) _⟩
            · have HE : Hid (parseB s.data.toList = stR ls 1 g acc) := by show _ = _; rw [HTr.out, stR_0 HD.out, if_pos ht]
              have he : (xt.toList == [112, 111, 109, 97, 99, 101, 32, 49]) = true := by rw [str_lit, HDT.out, ht]; rfl
              have he2 : (xt.toList != [112, 111, 109, 97, 99, 101, 32, 49]) = false := by rw [bne, he]; rfl
              clear ht HC1
              go_wp2
              go_roundw
              case rel => exact ⟨1, g, acc, .slice ao acc.length cap, by omega, by go_num, HB.out, X1r.out, HO.out, hN, HE, (by rw [HA0.out]; simp), fun _ => HA0.out, HGS.out⟩
              case measure => simp [intOf]; omega
          · by_cases hi1 : i = 1
            · subst hi1
              rw [show ((1 : Nat) : Int) = 1 from rfl] at hq1 hiI hp0 hltI
              have HA0 := Lib.hid (HACC.out (by omega))
              have HT1 : Hid (parseB s.data.toList = match rootP t with
                  | none => .error 2
                  | some g' => stR ls 2 g' []) := by show _ = _; rw [HTr.out]; exact stR_1 HD.out (fun h => absurd h hq3) acc
              have HPC := Lib.hid (pieces_any xt wr (by have := HTZ.out; omega))
              rw [HDT.out] at HPC
              clear hi0 HC1
              go_wp2_with fail
              refine HPC.out.mono ?_
              rintro e w5 ⟨v5, rfl, ho5, hb5⟩
              obtain ⟨g5, cap5, rfl, hg5, hc5⟩ := ho5.strs (piecesS_ne _ _)
              have X15 := Lib.hid (X1r.out.below hb5 X1r.out.lt)
              have HB5 := Lib.hid (HB.out.trans (hb5.mono (Nat.le_trans (Nat.le_of_lt nAN) hN)))
              have HO5 := Lib.hid (HO.out.below hb5)
              have n5 : N3 ≤ w5.heap.size := Nat.le_trans hN hb5.size
              have hgA5 : ¬ g5 = A1 := by have := (ho5.lt g5 rfl).1; omega
              clear ho5 hb5 HPC X1r HB HO hcell
              by_cases hl3 : (piecesS 58 t).length = 3
              rotate_left
              · have HE : Hid (parseB s.data.toList = .error 2) := by show _ = _; rw [HT1.out, root_no (by simpa [piecesS] using hl3)]
                have hlP : (((piecesS 58 t).length : Int) != 3) = true := by rw [bne_iff_ne]; omega
                clear hl3 hc5
                generalize (piecesS 58 t).length = nn at *
                have X9 := Lib.hid (X0.out.below HB5.out hA0)
                have HB9 := Lib.hid (HB1.out.trans (HB5.out.mono (Nat.le_of_lt hA0)))
                have u0 := X9.out.free 0
                have z0 := X9.out.cell 0 _ rfl
                have u1 := X9.out.free 1
                have z1 := X9.out.cell 1 _ rfl
                have u2 := X9.out.free 2
                have z2 := X9.out.cell 2 _ rfl
                have u3 := X9.out.free 3
                have z3 := X9.out.cell 3 _ rfl
                have lz := X9.out.lt
                go_wp2
                refine bodyPost_ret (v := .tuple #[.agg #[.string ⟨#[]⟩, .string ⟨#[]⟩, .string ⟨#[]⟩, .slice none 0 0], .int .i64 (2)]) (by simp [results, Tryd.results8, go_sem, z0, z1, z2, z3]) rfl ?_
                rw [HE.out]
                exact ⟨rfl, (((HB9.out.setCell (by simp) _).setCell (by simp) _).setCell (by simp) _).setCell (by simp) _⟩
              · obtain ⟨pa, pb, pc, hp⟩ := three (l := piecesB 58 t) (by simpa [piecesS] using hl3)
                have hps : piecesS 58 t = [bs pa, bs pb, bs pc] := by unfold piecesS; rw [hp]; rfl
                have HR3 := Lib.hid (root_three hp)
                have HPZ : Hid (∀ x ∈ piecesB 58 t, x.length ≤ 100000) := fun x hx => by have h1 := piece_len 58 t x hx; have h2 := HTZ.out; have h3 := size_data xt; rw [HDT.out] at h3; omega
                have HGM : Hid (gavSm ⟨bs (pa.drop 5), bs pb, bs pc⟩) := ⟨by rw [bs_size, List.length_drop]; have := HPZ.out pa (by rw [hp]; simp); omega, by rw [bs_size]; have := HPZ.out pb (by rw [hp]; simp); omega, by rw [bs_size]; have := HPZ.out pc (by rw [hp]; simp); omega⟩
                have hsa : (bs pa).size ≤ 100000 := by rw [bs_size]; exact HPZ.out pa (by rw [hp]; simp)
                rw [hps] at hc5
                rw [hps]
                have k0 := hc5 0 _ rfl
                have k1 := hc5 1 _ rfl
                have k2 := hc5 2 _ rfl
                have HSZ : Hid ((bs pa).size = pa.length) := bs_size pa
                have HX5 : Hid ((bs pa).extract 5 (bs pa).size = bs (pa.drop 5)) := by show _ = _; rw [bs_extract, bs_size, ← List.length_drop, List.take_length]
                have HX0 : Hid ((((bs pa).extract 0 5).toList == [114, 111, 111, 116, 32]) = decide (pa.take 5 = rootW)) := by show _ = _; rw [str_lit, bs_extract, bs_data]; rfl
                clear hl3 hc5 hps hp HPZ
                generalize bs pa = xa at *
                generalize bs pb = xb at *
                generalize bs pc = xc at *
                by_cases hsh : xa.size < 5
                · have HE : Hid (parseB s.data.toList = .error 2) := by show _ = _; rw [HT1.out, HR3.out, if_neg (root_short (by have := HSZ.out; omega))]
                  have dl : decide ((xa.size : Int) < 5) = true := decide_eq_true (by omega)
                  have dlN : decide (xa.size < 5) = true := decide_eq_true hsh
                  have hshI : (xa.size : Int) < 5 := by omega
                  clear k1 k2
                  have X9 := Lib.hid (X0.out.below HB5.out hA0)
                  have HB9 := Lib.hid (HB1.out.trans (HB5.out.mono (Nat.le_of_lt hA0)))
                  have u0 := X9.out.free 0
                  have z0 := X9.out.cell 0 _ rfl
                  have u1 := X9.out.free 1
                  have z1 := X9.out.cell 1 _ rfl
                  have u2 := X9.out.free 2
                  have z2 := X9.out.cell 2 _ rfl
                  have u3 := X9.out.free 3
                  have z3 := X9.out.cell 3 _ rfl
                  have lz := X9.out.lt
                  go_wp2
                  refine bodyPost_ret (v := .tuple #[.agg #[.string ⟨#[]⟩, .string ⟨#[]⟩, .string ⟨#[]⟩, .slice none 0 0], .int .i64 (2)]) (by simp [results, Tryd.results8, go_sem, z0, z1, z2, z3]) rfl ?_
                  rw [HE.out]
                  exact ⟨rfl, (((HB9.out.setCell (by simp) _).setCell (by simp) _).setCell (by simp) _).setCell (by simp) _⟩
                · have dl : decide ((xa.size : Int) < 5) = false := decide_eq_false (by omega)
                  have dlN : decide (xa.size < 5) = false := decide_eq_false hsh
                  have hshI : ¬ (xa.size : Int) < 5 := by omega
                  have hsh5 : (5 : Int) ≤ (xa.size : Int) := by omega
                  by_cases hr : pa.take 5 = rootW
                  rotate_left
                  · have HE : Hid (parseB s.data.toList = .error 2) := by show _ = _; rw [HT1.out, HR3.out, if_neg hr]
                    have hx0 : ((xa.extract 0 5).toList == [114, 111, 111, 116, 32]) = false := by rw [HX0.out]; exact decide_eq_false hr
                    have hx1 : ((xa.extract 0 5).toList != [114, 111, 111, 116, 32]) = true := by rw [bne, hx0]; rfl
                    clear k1 k2 hr
                    have X9 := Lib.hid (X0.out.below HB5.out hA0)
                    have HB9 := Lib.hid (HB1.out.trans (HB5.out.mono (Nat.le_of_lt hA0)))
                    have u0 := X9.out.free 0
                    have z0 := X9.out.cell 0 _ rfl
                    have u1 := X9.out.free 1
                    have z1 := X9.out.cell 1 _ rfl
                    have u2 := X9.out.free 2
                    have z2 := X9.out.cell 2 _ rfl
                    have u3 := X9.out.free 3
                    have z3 := X9.out.cell 3 _ rfl
                    have lz := X9.out.lt
                    go_wp2
                    refine bodyPost_ret (v := .tuple #[.agg #[.string ⟨#[]⟩, .string ⟨#[]⟩, .string ⟨#[]⟩, .slice none 0 0], .int .i64 (2)]) (by simp [results, Tryd.results8, go_sem, z0, z1, z2, z3]) rfl ?_
                    rw [HE.out]
                    exact ⟨rfl, (((HB9.out.setCell (by simp) _).setCell (by simp) _).setCell (by simp) _).setCell (by simp) _⟩
                  · have hx0 : ((xa.extract 0 5).toList == [114, 111, 111, 116, 32]) = true := by rw [HX0.out]; exact decide_eq_true hr
                    have hx1 : ((xa.extract 0 5).toList != [114, 111, 111, 116, 32]) = false := by rw [bne, hx0]; rfl
                    have HR4 : Hid (rootP t = if gavMay ⟨bs (pa.drop 5), xb, xc⟩ then some ⟨bs (pa.drop 5), xb, xc⟩ else none) := by show _ = _; rw [HR3.out, if_pos hr]
                    clear hr HR3
                    have v0 := X15.out.free 0
                    have v1 := X15.out.free 1
                    have v2 := X15.out.free 2
                    have c0 := X15.out.cell 0 _ rfl
                    have c1 := X15.out.cell 1 _ rfl
                    have c2 := X15.out.cell 2 _ rfl
                    have lv := X15.out.lt
                    have hx5 := HX5.out
                    go_upto_region 16 with fail
                    go_big_region
                    go_upto_region 17 with fail
                    refine wp_world ?_
                    intro W7 hW7
                    have X17 : Hid (Box W7 A1 [.string (bs (pa.drop 5)), .string xb, .string xc, .slice ao acc.length cap]) := by
                      show Box _ _ _
                      rw [hW7]
                      first
                        | exact (((X15.out.set 0 (.string (bs (pa.drop 5)))).set 1 (.string xb)).set 2 (.string xc)).drewN 1
                        | exact ((((X15.out.drewN 1).set 0 (.string (bs (pa.drop 5)))).set 1 (.string xb)).set 2 (.string xc))
                    have hk7 : Kx w5 W7 A1 A1 A1 := by
                      rw [hW7]
                      first
                        | exact ((((Kx.refl _ _ _ _).set (.inl rfl) _).set (.inl rfl) _).set (.inl rfl) _).drewN 1
                        | exact ((((Kx.refl _ _ _ _).drewN 1).set (.inl rfl) _).set (.inl rfl) _).set (.inl rfl) _
                    clear hW7 v0 v1 v2 c0 c1 c2 lv k0 k1 k2 hx0 hx1 hx5 dl dlN hshI hsh5 hsh hsa HX5 HX0 HSZ
                    have HB7 := Lib.hid (HB5.out.trans (hk7.below (B := A1) (by omega) (by omega) (by omega)))
                    have HO7 := Lib.hid (hk7.owns HO5.out (by omega) (by omega) (by omega))
                    have n7 : N3 ≤ W7.heap.size := by rw [hk7.size]; exact n5
                    clear hk7 X15 HB5 HO5
                    have HMG := Lib.hid (refMayGav_any ⟨bs (pa.drop 5), xb, xc⟩ W7 HGM.out)
                    generalize bs (pa.drop 5) = xd at *
                    obtain ⟨mg, hmg⟩ : ∃ b, b = gavMay ⟨xd, xb, xc⟩ := ⟨_, rfl⟩
                    rw [← hmg] at HR4 HMG
                    clear hmg
                    have c0 := X17.out.cell 0 _ rfl
                    have c1 := X17.out.cell 1 _ rfl
                    have c2 := X17.out.cell 2 _ rfl
                    go_wp2_with fail
                    refine HMG.out.mono ?_
                    rintro e w8 ⟨rfl, hb8⟩
                    have X18 := Lib.hid (X17.out.below hb8 X17.out.lt)
                    have HB8 := Lib.hid (HB7.out.trans (hb8.mono (Nat.le_trans (Nat.le_of_lt nAN) n7)))
                    have HO8 := Lib.hid (HO7.out.below hb8)
                    have n8 : N3 ≤ w8.heap.size := Nat.le_trans n7 hb8.size
                    clear hb8 X17 HB7 HO7 c0 c1 c2
                    cases mg with
                    | false =>
                      have HE : Hid (parseB s.data.toList = .error 2) := by show _ = _; rw [HT1.out, HR4.out]; rfl
                      have X9 := Lib.hid (X0.out.below HB8.out hA0)
                      have HB9 := Lib.hid (HB1.out.trans (HB8.out.mono (Nat.le_of_lt hA0)))
                      have u0 := X9.out.free 0
                      have z0 := X9.out.cell 0 _ rfl
                      have u1 := X9.out.free 1
                      have z1 := X9.out.cell 1 _ rfl
                      have u2 := X9.out.free 2
                      have z2 := X9.out.cell 2 _ rfl
                      have u3 := X9.out.free 3
                      have z3 := X9.out.cell 3 _ rfl
                      have lz := X9.out.lt
                      go_wp2
                      refine bodyPost_ret (v := .tuple #[.agg #[.string ⟨#[]⟩, .string ⟨#[]⟩, .string ⟨#[]⟩, .slice none 0 0], .int .i64 (2)]) (by simp [results, Tryd.results8, go_sem, z0, z1, z2, z3]) rfl ?_
                      rw [HE.out]
                      exact ⟨rfl, (((HB9.out.setCell (by simp) _).setCell (by simp) _).setCell (by simp) _).setCell (by simp) _⟩
                    | true =>
                      have HE : Hid (parseB s.data.toList = stR ls 2 ⟨xd, xb, xc⟩ []) := by show _ = _; rw [HT1.out, HR4.out]; rfl
                      go_wp2
                      go_roundw
                      case rel => exact ⟨2, ⟨xd, xb, xc⟩, [], .slice ao acc.length cap, by omega, by go_num, HB8.out, X18.out, (by have h := HO8.out; rw [HA0.out] at h ⊢; exact h), n8, HE, by simp, fun _ => rfl, HGM.out⟩
                      case measure => simp [intOf]; omega
            · have hi2 : 2 ≤ i := by omega
              have hj0 : ((i : Int) == 0) = false := by rw [beq_eq_false_iff_ne]; omega
              have hj1 : ((i : Int) == 1) = false := by rw [beq_eq_false_iff_ne]; omega
              have HT2 : Hid (parseB s.data.toList = withG g (pinsGo (t :: L') i acc)) := by show _ = _; rw [HTr.out, stR_2 hi2, HD.out]
              have c3 := X1r.out.cell 3 _ rfl
              have lv := X1r.out.lt
              have HNU := Lib.hid (fun V => refNumber_any acc.length V (by have := HAI.out; omega))
              have HNZ : Hid ((bs (numB acc.length)).size ≤ 100) := by
                have h1 := numB_len 7 acc.length (by have := HAI.out; omega)
                show _ ≤ _
                rw [bs_size]; omega
              have hsum : ¬ 9223372036854775807 < 4 + (bs (numB acc.length)).size := by have := HNZ.out; omega
              have HQ : Hid ((xt = ⟨#[101, 110, 100, 32]⟩ ++ bs (numB acc.length)) ↔ t = endB acc.length) := by
                show _ ↔ _
                rw [HXT.out, show (⟨#[101, 110, 100, 32]⟩ : S) = bs [101, 110, 100, 32] from rfl, cat_bs]
                exact ⟨fun h => bs_inj h, fun h => by rw [h]; rfl⟩
              clear hi0 hi1
              generalize bs (numB acc.length) = nb at *
              go_wp2_with fail
              refine (HNU.out _).mono ?_
              rintro e w5 ⟨rfl, hb5⟩
              have X15 := Lib.hid (X1r.out.below hb5 X1r.out.lt)
              have HB5 := Lib.hid (HB.out.trans (hb5.mono (Nat.le_trans (Nat.le_of_lt nAN) hN)))
              have HO5 := Lib.hid (HO.out.below hb5)
              have n5 : N3 ≤ w5.heap.size := Nat.le_trans hN hb5.size
              have HC5 : Hid (i + 1 < ls.length → w5.cell? ⟨g0, i + 1, none⟩ = some (.string (bs ((ls[i + 1]?).getD [])))) := fun h => (hb5.cell (p := ⟨g0, i + 1, none⟩) (by show g0 < wr.heap.size; omega)).trans (HC1.out h)
              clear hb5 X1r HB HO hcell c3 lv HC1 HNU
              have c3 := X15.out.cell 3 _ rfl
              have lv := X15.out.lt
              by_cases hte : t = endB acc.length
              · have he : (xt.toList == ((⟨#[101, 110, 100, 32]⟩ : S) ++ nb).toList) = true := by rw [HQ.out.2 hte]; simp
                have HE : Hid (parseB s.data.toList = withG g (if L' = [[]] then .ok acc else .error (i + 2))) := by show _ = _; rw [HT2.out, pinsGo_end hte]
                clear hte HQ
                have HE2 : Hid (parseB s.data.toList = .error (i + 2)) := by show _ = _; rw [HE.out, if_neg (fun h => by have := (HONE.out.1 h).1; have := HLQ.out; omega)]; rfl
                clear HE HC5 c3 lv
                have X9 := Lib.hid (X0.out.below HB5.out hA0)
                have HB9 := Lib.hid (HB1.out.trans (HB5.out.mono (Nat.le_of_lt hA0)))
                have u0 := X9.out.free 0
                have z0 := X9.out.cell 0 _ rfl
                have u1 := X9.out.free 1
                have z1 := X9.out.cell 1 _ rfl
                have u2 := X9.out.free 2
                have z2 := X9.out.cell 2 _ rfl
                have u3 := X9.out.free 3
                have z3 := X9.out.cell 3 _ rfl
                have lz := X9.out.lt
                go_wp2
                refine bodyPost_ret (v := .tuple #[.agg #[.string ⟨#[]⟩, .string ⟨#[]⟩, .string ⟨#[]⟩, .slice none 0 0], .int .i64 ((i : Int) + 2)]) (by simp [results, Tryd.results8, go_sem, z0, z1, z2, z3]) rfl ?_
                rw [HE2.out]
                exact ⟨rfl, (((HB9.out.setCell (by simp) _).setCell (by simp) _).setCell (by simp) _).setCell (by simp) _⟩
              · have he : (xt.toList == ((⟨#[101, 110, 100, 32]⟩ : S) ++ nb).toList) = false := str_neD (fun h => hte (HQ.out.1 h))
                have HE : Hid (parseB s.data.toList = withG g (match pinP t with
                    | none => .error (i + 1)
                    | some p => if 4096 ≤ acc.length ∨ nextOk acc p = false then .error (i + 1) else pinsGo L' (i + 1) (acc ++ [p]))) := by show _ = _; rw [HT2.out, pinsGo_pin (fun h => absurd h hq3) hte]; cases pinP t <;> rfl
                have HPN := Lib.hid (refPin_any xt w5 (by have := HTZ.out; omega))
                rw [HDT.out] at HPN
                obtain ⟨P, hP⟩ : ∃ P, P = pinP t := ⟨_, rfl⟩
                rw [← hP] at HE HPN
                clear hP hte HQ HTr HC5 HT2
                go_wp2_with fail
                refine HPN.out.mono ?_
                rintro e wz ⟨p, rfl, hp, hbz⟩
                have HP := Lib.hid hp
                have X1z := Lib.hid (X15.out.below hbz X15.out.lt)
                have HOz := Lib.hid (HO5.out.below hbz)
                have HBz := Lib.hid (HB5.out.trans (hbz.mono (Nat.le_trans (Nat.le_of_lt nAN) n5)))
                have nz : N3 ≤ wz.heap.size := Nat.le_trans n5 hbz.size
                clear hp hbz c3 lv he hsum HPN X15 HO5 HB5
                obtain ⟨sm, hsm⟩ : ∃ b, b = P.isSome := ⟨_, rfl⟩
                rw [← hsm]
                have HSM := Lib.hid hsm
                clear hsm
                go_upto_region 24 with fail
                refine wp_world ?_
                intro W9 hW9
                have xp : Box W9 wz.heap.size [.string p.key.group, .string p.key.artifact, .string p.key.type, .string p.key.classifier, .string p.version, .int .i64 p.scope] := by rw [hW9]; exact Box.new wz [.string p.key.group, .string p.key.artifact, .string p.key.type, .string p.key.classifier, .string p.version, .int .i64 p.scope] _ _ rfl
                have hb9 : Below wz.heap.size wz W9 := by rw [hW9]; exact (Below.refl _ wz).alloc (Nat.le_refl _) _
                clear hW9
                have XP := Lib.hid xp
                have X19 := Lib.hid (X1z.out.below hb9 X1z.out.lt)
                have HO9 := Lib.hid (HOz.out.below hb9)
                have HB9 := Lib.hid (HBz.out.trans (hb9.mono (Nat.le_trans (Nat.le_of_lt nAN) nz)))
                have n9 : N3 ≤ W9.heap.size := Nat.le_trans nz hb9.size
                clear xp hb9 X1z HOz HBz
                generalize wz.heap.size = bP at *
                have c3 := X19.out.cell 3 _ rfl
                go_upto_region 25 with fail
                have hLL := @Later.cells W9
                have l9 := X19.out.lt
                have lp := XP.out.lt
                cases P with
                | none =>
                  obtain rfl : sm = false := HSM.out
                  have HE2 : Hid (parseB s.data.toList = .error (i + 1)) := HE.out
                  refine region_later (by kernel_rfl) (by kernel_rfl) ?_
                  repeat (go_big_quiet_step ((fail)))
                  refine wpQuiet_nil ?_
                  rintro _ ⟨nx, rfl⟩
                  have X1n := Lib.hid (X19.out.below nx.below X19.out.lt)
                  have XPn := Lib.hid (XP.out.below nx.below XP.out.lt)
                  have HOn := Lib.hid (HO9.out.below nx.below)
                  have HBn := Lib.hid (HB9.out.trans (nx.below.mono (Nat.le_trans (Nat.le_of_lt nAN) n9)))
                  have nn : N3 ≤ nx.at_.heap.size := Nat.le_trans n9 nx.below.size
                  clear hLL c3 l9 lp 
                  generalize nx.at_ = wn at *
                  have X9 := Lib.hid (X0.out.below HBn.out hA0)
                  have HB9 := Lib.hid (HB1.out.trans (HBn.out.mono (Nat.le_of_lt hA0)))
                  have u0 := X9.out.free 0
                  have z0 := X9.out.cell 0 _ rfl
                  have u1 := X9.out.free 1
                  have z1 := X9.out.cell 1 _ rfl
                  have u2 := X9.out.free 2
                  have z2 := X9.out.cell 2 _ rfl
                  have u3 := X9.out.free 3
                  have z3 := X9.out.cell 3 _ rfl
                  have lz := X9.out.lt
                  go_wp2
                  refine bodyPost_ret (v := .tuple #[.agg #[.string ⟨#[]⟩, .string ⟨#[]⟩, .string ⟨#[]⟩, .slice none 0 0], .int .i64 ((i : Int) + 1)]) (by simp [results, Tryd.results8, go_sem, z0, z1, z2, z3]) rfl ?_
                  rw [HE2.out]
                  exact ⟨rfl, (((HB9.out.setCell (by simp) _).setCell (by simp) _).setCell (by simp) _).setCell (by simp) _⟩
                | some p' =>
                  obtain rfl : sm = true := HSM.out
                  obtain rfl : p = p' := HP.out _ rfl
                  by_cases h4 : 4096 ≤ acc.length
                  · have d4 : decide ((4096 : Int) ≤ (acc.length : Int)) = true := decide_eq_true (by omega)
                    have d4N : decide (4096 ≤ acc.length) = true := decide_eq_true h4
                    have HE2 : Hid (parseB s.data.toList = .error (i + 1)) := by show _ = _; rw [HE.out]; simp only; rw [if_pos (.inl h4)]; rfl
                    clear h4
                    refine region_later (by kernel_rfl) (by kernel_rfl) ?_
                    repeat (go_big_quiet_step ((fail)))
                    refine wpQuiet_nil ?_
                    rintro _ ⟨nx, rfl⟩
                    have X1n := Lib.hid (X19.out.below nx.below X19.out.lt)
                    have XPn := Lib.hid (XP.out.below nx.below XP.out.lt)
                    have HOn := Lib.hid (HO9.out.below nx.below)
                    have HBn := Lib.hid (HB9.out.trans (nx.below.mono (Nat.le_trans (Nat.le_of_lt nAN) n9)))
                    have nn : N3 ≤ nx.at_.heap.size := Nat.le_trans n9 nx.below.size
                    clear hLL c3 l9 lp d4 d4N
                    generalize nx.at_ = wn at *
                    have X9 := Lib.hid (X0.out.below HBn.out hA0)
                    have HB9 := Lib.hid (HB1.out.trans (HBn.out.mono (Nat.le_of_lt hA0)))
                    have u0 := X9.out.free 0
                    have z0 := X9.out.cell 0 _ rfl
                    have u1 := X9.out.free 1
                    have z1 := X9.out.cell 1 _ rfl
                    have u2 := X9.out.free 2
                    have z2 := X9.out.cell 2 _ rfl
                    have u3 := X9.out.free 3
                    have z3 := X9.out.cell 3 _ rfl
                    have lz := X9.out.lt
                    go_wp2
                    refine bodyPost_ret (v := .tuple #[.agg #[.string ⟨#[]⟩, .string ⟨#[]⟩, .string ⟨#[]⟩, .slice none 0 0], .int .i64 ((i : Int) + 1)]) (by simp [results, Tryd.results8, go_sem, z0, z1, z2, z3]) rfl ?_
                    rw [HE2.out]
                    exact ⟨rfl, (((HB9.out.setCell (by simp) _).setCell (by simp) _).setCell (by simp) _).setCell (by simp) _⟩
                  · have d4 : decide ((4096 : Int) ≤ (acc.length : Int)) = false := decide_eq_false (by omega)
                    have d4N : decide (4096 ≤ acc.length) = false := decide_eq_false h4
                    have H4 := Lib.hid h4
                    clear h4
                    by_cases h0 : acc.length = 0
                    · have d0 : decide ((0 : Int) < (acc.length : Int)) = false := decide_eq_false (by omega)
                      have d0N : decide (0 < acc.length) = false := decide_eq_false (by omega)
                      have HE2 : Hid (parseB s.data.toList = stR ls (i + 1) g (acc ++ [p])) := by
                        show _ = _
                        rw [HE.out, stR_2 (by omega), HDN.out]; simp only
                        rw [if_neg]
                        rintro (h | h)
                        · exact H4.out h
                        · rw [List.eq_nil_of_length_eq_zero h0, nextOk_empty] at h; simp at h
                      clear h0
                      refine region_later (by kernel_rfl) (by kernel_rfl) ?_
                      repeat (go_big_quiet_step ((fail)))
                      refine wpQuiet_nil ?_
                      rintro _ ⟨nx, rfl⟩
                      have X1n := Lib.hid (X19.out.below nx.below X19.out.lt)
                      have XPn := Lib.hid (XP.out.below nx.below XP.out.lt)
                      have HOn := Lib.hid (HO9.out.below nx.below)
                      have HBn := Lib.hid (HB9.out.trans (nx.below.mono (Nat.le_trans (Nat.le_of_lt nAN) n9)))
                      have nn : N3 ≤ nx.at_.heap.size := Nat.le_trans n9 nx.below.size
                      clear hLL c3 l9 lp d4 d4N d0 d0N
                      generalize nx.at_ = wn at *
                      have c3 := X1n.out.cell 3 _ rfl
                      have k0 := XPn.out.cell 0 _ rfl
                      have k1 := XPn.out.cell 1 _ rfl
                      have k2 := XPn.out.cell 2 _ rfl
                      have k3 := XPn.out.cell 3 _ rfl
                      have k4 := XPn.out.cell 4 _ rfl
                      have k5 := XPn.out.cell 5 _ rfl
                      have lv := X1n.out.lt
                      have lp := XPn.out.lt
                      have HLP := Lib.hid (pinLitD wn p wn.heap.size rfl)
                      go_wp2_with (at_builtin; refine wpList_append_slice _ rfl _ _ 24 rfl N3 51 Tryd.underlying24 info_pinD rfl (by decide) pinC_len (.slice ao acc.length cap) acc rfl (HOn.out.alloc _) _ [p] rfl HLP.out (fun _ _ => pinC_one) (by have h1 := HAI.out; simp only [List.length_cons, List.length_nil]; omega) (by decide) (by simp; omega) ?_; intro v9 w9 hown9 hgrow9 hloc9; obtain ⟨ro, rc, rfl⟩ := hown9.shape; have b9 := (X1n.out.alloc _).grown hgrow9 (own_neD HOn.out (by omega)); have c9 := b9.cell 3 _ rfl; have f9 := b9.free 3; have l9 := b9.lt; have X19' := Lib.hid b9; have HO9' : Hid (Owns N3 51 6 pinC w9 (.slice ro (acc.length + 1) rc) (acc ++ [p])) := (by have h := hown9; rw [List.length_append] at h; exact h); have HB9' := Lib.hid (own_belowD (HBn.out.alloc (Nat.le_trans (Nat.le_of_lt nAN) nn) _) (HOn.out.alloc _) hgrow9 (by omega) (by simp; omega)); have n9' : N3 ≤ w9.heap.size := (by have := hgrow9.size; simp at this; omega); clear hown9 hgrow9 hloc9 b9)
                      go_roundw
                      case rel => exact ⟨i + 1, g, acc ++ [p], .slice ro (acc.length + 1) rc, by omega, by go_num, HB9'.out.setCell (p := ⟨A1, 3, none⟩) (by show A1 ≤ A1; omega) _, X19'.out.set 3 _, HO9'.out.keptR (setCell_grown _ A1 3 _) (by omega), (by simpa [World.setCell] using n9'), HE2, (by have := HAI.out; simp only [List.length_append, List.length_cons, List.length_nil]; omega), (fun h => by omega), HGS.out⟩
                      case measure => simp [intOf]; omega
                    · obtain ⟨j, hj⟩ : ∃ j, acc.length = j + 1 := ⟨acc.length - 1, by omega⟩
                      have d0 : decide ((0 : Int) < (acc.length : Int)) = true := decide_eq_true (by omega)
                      have d0N : decide (0 < acc.length) = true := decide_eq_true (by omega)
                      have hjl : j < acc.length := by omega
                      have hjI : (j : Int) < (acc.length : Int) := by omega
                      have wj : IntKind.i64.wrap ((acc.length : Int) - 1) = (j : Int) := by rw [show (acc.length : Int) - 1 = (j : Int) by omega]; exact IntWalk.i64_in _ (by have := HAI.out; omega)
                      obtain ⟨bb, oo, hao, hbl, hcell⟩ := (HO9.out.slice pinC_len).at hjl
                      subst hao
                      have q0 : W9.cell? ⟨bb, oo + j * 6, none⟩ = some (.string acc[j].key.group) := by simpa using hcell 0 _ rfl
                      have q1 : W9.cell? ⟨bb, oo + j * 6 + 1, none⟩ = some (.string acc[j].key.artifact) := hcell 1 _ rfl
                      have q2 : W9.cell? ⟨bb, oo + j * 6 + 2, none⟩ = some (.string acc[j].key.type) := hcell 2 _ rfl
                      have q3 : W9.cell? ⟨bb, oo + j * 6 + 3, none⟩ = some (.string acc[j].key.classifier) := hcell 3 _ rfl
                      have HNX : Hid (nextOk acc p = decide (cmpK acc[j].key p.key = -1)) := nextOk_last hj p
                      clear hcell h0 hj
                      generalize acc[j] = lp' at *
                      obtain ⟨c, hc⟩ : ∃ c, c = cmpK lp'.key p.key := ⟨_, rfl⟩
                      have HCM := Lib.hid (fun (x : Later W9) => refCompare_l lp'.key p.key x c hc.symm)
                      rw [← hc] at HNX
                      clear hc
                      have k0 := XP.out.cell 0 _ rfl
                      have k1 := XP.out.cell 1 _ rfl
                      have k2 := XP.out.cell 2 _ rfl
                      have k3 := XP.out.cell 3 _ rfl
                      by_cases hc1 : c = -1
                      · have e2 : (c != -1) = false := by rw [hc1]; rfl
                        have HE2 : Hid (parseB s.data.toList = stR ls (i + 1) g (acc ++ [p])) := by
                          show _ = _
                          rw [HE.out, stR_2 (by omega), HDN.out]; simp only
                          rw [if_neg]
                          rintro (h | h)
                          · exact H4.out h
                          · rw [HNX.out, decide_eq_true hc1] at h; simp at h
                        clear hc1
                        refine region_later (by kernel_rfl) (by kernel_rfl) ?_
                        repeat (go_big_quiet_step ((go_at_call 30; exact HCM.out _)))
                        refine wpQuiet_nil ?_
                        rintro _ ⟨nx, rfl⟩
                        have X1n := Lib.hid (X19.out.below nx.below X19.out.lt)
                        have XPn := Lib.hid (XP.out.below nx.below XP.out.lt)
                        have HOn := Lib.hid (HO9.out.below nx.below)
                        have HBn := Lib.hid (HB9.out.trans (nx.below.mono (Nat.le_trans (Nat.le_of_lt nAN) n9)))
                        have nn : N3 ≤ nx.at_.heap.size := Nat.le_trans n9 nx.below.size
                        clear hLL c3 l9 lp d4 d4N d0 d0N hjl hjI wj q0 q1 q2 q3 k0 k1 k2 k3 e2 hbl
                        generalize nx.at_ = wn at *
                        have c3 := X1n.out.cell 3 _ rfl
                        have k0 := XPn.out.cell 0 _ rfl
                        have k1 := XPn.out.cell 1 _ rfl
                        have k2 := XPn.out.cell 2 _ rfl
                        have k3 := XPn.out.cell 3 _ rfl
                        have k4 := XPn.out.cell 4 _ rfl
                        have k5 := XPn.out.cell 5 _ rfl
                        have lv := X1n.out.lt
                        have lp := XPn.out.lt
                        have HLP := Lib.hid (pinLitD wn p wn.heap.size rfl)
                        go_wp2_with (at_builtin; refine wpList_append_slice _ rfl _ _ 24 rfl N3 51 Tryd.underlying24 info_pinD rfl (by decide) pinC_len (.slice (some ⟨bb, oo, none⟩) acc.length cap) acc rfl (HOn.out.alloc _) _ [p] rfl HLP.out (fun _ _ => pinC_one) (by have h1 := HAI.out; simp only [List.length_cons, List.length_nil]; omega) (by decide) (by simp; omega) ?_; intro v9 w9 hown9 hgrow9 hloc9; obtain ⟨ro, rc, rfl⟩ := hown9.shape; have b9 := (X1n.out.alloc _).grown hgrow9 (own_neD HOn.out (by omega)); have c9 := b9.cell 3 _ rfl; have f9 := b9.free 3; have l9 := b9.lt; have X19' := Lib.hid b9; have HO9' : Hid (Owns N3 51 6 pinC w9 (.slice ro (acc.length + 1) rc) (acc ++ [p])) := (by have h := hown9; rw [List.length_append] at h; exact h); have HB9' := Lib.hid (own_belowD (HBn.out.alloc (Nat.le_trans (Nat.le_of_lt nAN) nn) _) (HOn.out.alloc _) hgrow9 (by omega) (by simp; omega)); have n9' : N3 ≤ w9.heap.size := (by have := hgrow9.size; simp at this; omega); clear hown9 hgrow9 hloc9 b9)
                        go_roundw
                        case rel => exact ⟨i + 1, g, acc ++ [p], .slice ro (acc.length + 1) rc, by omega, by go_num, HB9'.out.setCell (p := ⟨A1, 3, none⟩) (by show A1 ≤ A1; omega) _, X19'.out.set 3 _, HO9'.out.keptR (setCell_grown _ A1 3 _) (by omega), (by simpa [World.setCell] using n9'), HE2, (by have := HAI.out; simp only [List.length_append, List.length_cons, List.length_nil]; omega), (fun h => by omega), HGS.out⟩
                        case measure => simp [intOf]; omega
                      · have e2 : (c != -1) = true := by rw [bne_iff_ne]; exact hc1
                        have HE2 : Hid (parseB s.data.toList = .error (i + 1)) := by
                          show _ = _
                          rw [HE.out]; simp only
                          rw [if_pos (.inr (by rw [HNX.out, decide_eq_false hc1]))]; rfl
                        clear hc1
                        refine region_later (by kernel_rfl) (by kernel_rfl) ?_
                        repeat (go_big_quiet_step ((go_at_call 30; exact HCM.out _)))
                        refine wpQuiet_nil ?_
                        rintro _ ⟨nx, rfl⟩
                        have X1n := Lib.hid (X19.out.below nx.below X19.out.lt)
                        have XPn := Lib.hid (XP.out.below nx.below XP.out.lt)
                        have HOn := Lib.hid (HO9.out.below nx.below)
                        have HBn := Lib.hid (HB9.out.trans (nx.below.mono (Nat.le_trans (Nat.le_of_lt nAN) n9)))
                        have nn : N3 ≤ nx.at_.heap.size := Nat.le_trans n9 nx.below.size
                        clear hLL c3 l9 lp d4 d4N d0 d0N hjl hjI wj q0 q1 q2 q3 k0 k1 k2 k3 e2 hbl
                        generalize nx.at_ = wn at *
                        have X9 := Lib.hid (X0.out.below HBn.out hA0)
                        have HB9 := Lib.hid (HB1.out.trans (HBn.out.mono (Nat.le_of_lt hA0)))
                        have u0 := X9.out.free 0
                        have z0 := X9.out.cell 0 _ rfl
                        have u1 := X9.out.free 1
                        have z1 := X9.out.cell 1 _ rfl
                        have u2 := X9.out.free 2
                        have z2 := X9.out.cell 2 _ rfl
                        have u3 := X9.out.free 3
                        have z3 := X9.out.cell 3 _ rfl
                        have lz := X9.out.lt
                        go_wp2
                        refine bodyPost_ret (v := .tuple #[.agg #[.string ⟨#[]⟩, .string ⟨#[]⟩, .string ⟨#[]⟩, .slice none 0 0], .int .i64 ((i : Int) + 1)]) (by simp [results, Tryd.results8, go_sem, z0, z1, z2, z3]) rfl ?_
                        rw [HE2.out]
                        exact ⟨rfl, (((HB9.out.setCell (by simp) _).setCell (by simp) _).setCell (by simp) _).setCell (by simp) _⟩
        · have hq1 : ((i : Int) == (ls.length : Int) - 1) = false := by rw [beq_eq_false_iff_ne]; omega
          have hw : IntKind.i64.wrap ((ls.length : Int) - 1) = (ls.length : Int) - 1 := IntWalk.i64_in _ (by omega)
          have hiI : (i : Int) ≤ 100001 := by omega
          have hp0 : (0 : Int) ≤ (i : Int) := by omega
          have HLQ := Lib.hid hl
          clear hbad hl
          by_cases hi0 : i = 0
          · subst hi0
            rw [show ((0 : Nat) : Int) = 0 from rfl] at hq1 hiI hp0 hltI
            have HA0 := Lib.hid (HACC.out (by omega))
            by_cases ht : t = headB
            rotate_left
            · have HE : Hid (parseB s.data.toList = .error 1) := by show _ = _; rw [HTr.out, stR_0 HD.out, if_neg ht]
              have he : (xt.toList == [112, 111, 109, 97, 99, 101, 32, 49]) = false := by rw [str_lit, HDT.out]; exact decide_eq_false ht
              have he2 : (xt.toList != [112, 111, 109, 97, 99, 101, 32, 49]) = true := by rw [bne, he]; rfl
              clear ht HC1
              have X9 := Lib.hid (X0.out.below HB.out hA0)
              have HB9 := Lib.hid (HB1.out.trans (HB.out.mono (Nat.le_of_lt hA0)))
              have u0 := X9.out.free 0
              have z0 := X9.out.cell 0 _ rfl
              have u1 := X9.out.free 1
              have z1 := X9.out.cell 1 _ rfl
              have u2 := X9.out.free 2
              have z2 := X9.out.cell 2 _ rfl
              have u3 := X9.out.free 3
              have z3 := X9.out.cell 3 _ rfl
              have lz := X9.out.lt
              go_wp2
              refine bodyPost_ret (v := .tuple #[.agg #[.string ⟨#[]⟩, .string ⟨#[]⟩, .string ⟨#[]⟩, .slice none 0 0], .int .i64 (1)]) (by simp [results, Tryd.results8, go_sem, z0, z1, z2, z3]) rfl ?_
              rw [HE.out]
              exact ⟨rfl, (((HB9.out.setCell (by simp) _).setCell (by simp) _).setCell (by simp) _).setCell (by simp) _⟩
            · have HE : Hid (parseB s.data.toList = stR ls 1 g acc) := by show _ = _; rw [HTr.out, stR_0 HD.out, if_pos ht]
              have he : (xt.toList == [112, 111, 109, 97, 99, 101, 32, 49]) = true := by rw [str_lit, HDT.out, ht]; rfl
              have he2 : (xt.toList != [112, 111, 109, 97, 99, 101, 32, 49]) = false := by rw [bne, he]; rfl
              clear ht HC1
              go_wp2
              go_roundw
              case rel => exact ⟨1, g, acc, .slice ao acc.length cap, by omega, by go_num, HB.out, X1r.out, HO.out, hN, HE, (by rw [HA0.out]; simp), fun _ => HA0.out, HGS.out⟩
              case measure => simp [intOf]; omega
          · by_cases hi1 : i = 1
            · subst hi1
              rw [show ((1 : Nat) : Int) = 1 from rfl] at hq1 hiI hp0 hltI
              have HA0 := Lib.hid (HACC.out (by omega))
              have HT1 : Hid (parseB s.data.toList = match rootP t with
                  | none => .error 2
                  | some g' => stR ls 2 g' []) := by show _ = _; rw [HTr.out]; exact stR_1 HD.out (fun _ h => HLQ.out (HLAST.out.1 h)) acc
              have HPC := Lib.hid (pieces_any xt wr (by have := HTZ.out; omega))
              rw [HDT.out] at HPC
              clear hi0 HC1
              go_wp2_with fail
              refine HPC.out.mono ?_
              rintro e w5 ⟨v5, rfl, ho5, hb5⟩
              obtain ⟨g5, cap5, rfl, hg5, hc5⟩ := ho5.strs (piecesS_ne _ _)
              have X15 := Lib.hid (X1r.out.below hb5 X1r.out.lt)
              have HB5 := Lib.hid (HB.out.trans (hb5.mono (Nat.le_trans (Nat.le_of_lt nAN) hN)))
              have HO5 := Lib.hid (HO.out.below hb5)
              have n5 : N3 ≤ w5.heap.size := Nat.le_trans hN hb5.size
              have hgA5 : ¬ g5 = A1 := by have := (ho5.lt g5 rfl).1; omega
              clear ho5 hb5 HPC X1r HB HO hcell
              by_cases hl3 : (piecesS 58 t).length = 3
              rotate_left
              · have HE : Hid (parseB s.data.toList = .error 2) := by show _ = _; rw [HT1.out, root_no (by simpa [piecesS] using hl3)]
                have hlP : (((piecesS 58 t).length : Int) != 3) = true := by rw [bne_iff_ne]; omega
                clear hl3 hc5
                generalize (piecesS 58 t).length = nn at *
                have X9 := Lib.hid (X0.out.below HB5.out hA0)
                have HB9 := Lib.hid (HB1.out.trans (HB5.out.mono (Nat.le_of_lt hA0)))
                have u0 := X9.out.free 0
                have z0 := X9.out.cell 0 _ rfl
                have u1 := X9.out.free 1
                have z1 := X9.out.cell 1 _ rfl
                have u2 := X9.out.free 2
                have z2 := X9.out.cell 2 _ rfl
                have u3 := X9.out.free 3
                have z3 := X9.out.cell 3 _ rfl
                have lz := X9.out.lt
                go_wp2
                refine bodyPost_ret (v := .tuple #[.agg #[.string ⟨#[]⟩, .string ⟨#[]⟩, .string ⟨#[]⟩, .slice none 0 0], .int .i64 (2)]) (by simp [results, Tryd.results8, go_sem, z0, z1, z2, z3]) rfl ?_
                rw [HE.out]
                exact ⟨rfl, (((HB9.out.setCell (by simp) _).setCell (by simp) _).setCell (by simp) _).setCell (by simp) _⟩
              · obtain ⟨pa, pb, pc, hp⟩ := three (l := piecesB 58 t) (by simpa [piecesS] using hl3)
                have hps : piecesS 58 t = [bs pa, bs pb, bs pc] := by unfold piecesS; rw [hp]; rfl
                have HR3 := Lib.hid (root_three hp)
                have HPZ : Hid (∀ x ∈ piecesB 58 t, x.length ≤ 100000) := fun x hx => by have h1 := piece_len 58 t x hx; have h2 := HTZ.out; have h3 := size_data xt; rw [HDT.out] at h3; omega
                have HGM : Hid (gavSm ⟨bs (pa.drop 5), bs pb, bs pc⟩) := ⟨by rw [bs_size, List.length_drop]; have := HPZ.out pa (by rw [hp]; simp); omega, by rw [bs_size]; have := HPZ.out pb (by rw [hp]; simp); omega, by rw [bs_size]; have := HPZ.out pc (by rw [hp]; simp); omega⟩
                have hsa : (bs pa).size ≤ 100000 := by rw [bs_size]; exact HPZ.out pa (by rw [hp]; simp)
                rw [hps] at hc5
                rw [hps]
                have k0 := hc5 0 _ rfl
                have k1 := hc5 1 _ rfl
                have k2 := hc5 2 _ rfl
                have HSZ : Hid ((bs pa).size = pa.length) := bs_size pa
                have HX5 : Hid ((bs pa).extract 5 (bs pa).size = bs (pa.drop 5)) := by show _ = _; rw [bs_extract, bs_size, ← List.length_drop, List.take_length]
                have HX0 : Hid ((((bs pa).extract 0 5).toList == [114, 111, 111, 116, 32]) = decide (pa.take 5 = rootW)) := by show _ = _; rw [str_lit, bs_extract, bs_data]; rfl
                clear hl3 hc5 hps hp HPZ
                generalize bs pa = xa at *
                generalize bs pb = xb at *
                generalize bs pc = xc at *
                by_cases hsh : xa.size < 5
                · have HE : Hid (parseB s.data.toList = .error 2) := by show _ = _; rw [HT1.out, HR3.out, if_neg (root_short (by have := HSZ.out; omega))]
                  have dl : decide ((xa.size : Int) < 5) = true := decide_eq_true (by omega)
                  have dlN : decide (xa.size < 5) = true := decide_eq_true hsh
                  have hshI : (xa.size : Int) < 5 := by omega
                  clear k1 k2
                  have X9 := Lib.hid (X0.out.below HB5.out hA0)
                  have HB9 := Lib.hid (HB1.out.trans (HB5.out.mono (Nat.le_of_lt hA0)))
                  have u0 := X9.out.free 0
                  have z0 := X9.out.cell 0 _ rfl
                  have u1 := X9.out.free 1
                  have z1 := X9.out.cell 1 _ rfl
                  have u2 := X9.out.free 2
                  have z2 := X9.out.cell 2 _ rfl
                  have u3 := X9.out.free 3
                  have z3 := X9.out.cell 3 _ rfl
                  have lz := X9.out.lt
                  go_wp2
                  refine bodyPost_ret (v := .tuple #[.agg #[.string ⟨#[]⟩, .string ⟨#[]⟩, .string ⟨#[]⟩, .slice none 0 0], .int .i64 (2)]) (by simp [results, Tryd.results8, go_sem, z0, z1, z2, z3]) rfl ?_
                  rw [HE.out]
                  exact ⟨rfl, (((HB9.out.setCell (by simp) _).setCell (by simp) _).setCell (by simp) _).setCell (by simp) _⟩
                · have dl : decide ((xa.size : Int) < 5) = false := decide_eq_false (by omega)
                  have dlN : decide (xa.size < 5) = false := decide_eq_false hsh
                  have hshI : ¬ (xa.size : Int) < 5 := by omega
                  have hsh5 : (5 : Int) ≤ (xa.size : Int) := by omega
                  by_cases hr : pa.take 5 = rootW
                  rotate_left
                  · have HE : Hid (parseB s.data.toList = .error 2) := by show _ = _; rw [HT1.out, HR3.out, if_neg hr]
                    have hx0 : ((xa.extract 0 5).toList == [114, 111, 111, 116, 32]) = false := by rw [HX0.out]; exact decide_eq_false hr
                    have hx1 : ((xa.extract 0 5).toList != [114, 111, 111, 116, 32]) = true := by rw [bne, hx0]; rfl
                    clear k1 k2 hr
                    have X9 := Lib.hid (X0.out.below HB5.out hA0)
                    have HB9 := Lib.hid (HB1.out.trans (HB5.out.mono (Nat.le_of_lt hA0)))
                    have u0 := X9.out.free 0
                    have z0 := X9.out.cell 0 _ rfl
                    have u1 := X9.out.free 1
                    have z1 := X9.out.cell 1 _ rfl
                    have u2 := X9.out.free 2
                    have z2 := X9.out.cell 2 _ rfl
                    have u3 := X9.out.free 3
                    have z3 := X9.out.cell 3 _ rfl
                    have lz := X9.out.lt
                    go_wp2
                    refine bodyPost_ret (v := .tuple #[.agg #[.string ⟨#[]⟩, .string ⟨#[]⟩, .string ⟨#[]⟩, .slice none 0 0], .int .i64 (2)]) (by simp [results, Tryd.results8, go_sem, z0, z1, z2, z3]) rfl ?_
                    rw [HE.out]
                    exact ⟨rfl, (((HB9.out.setCell (by simp) _).setCell (by simp) _).setCell (by simp) _).setCell (by simp) _⟩
                  · have hx0 : ((xa.extract 0 5).toList == [114, 111, 111, 116, 32]) = true := by rw [HX0.out]; exact decide_eq_true hr
                    have hx1 : ((xa.extract 0 5).toList != [114, 111, 111, 116, 32]) = false := by rw [bne, hx0]; rfl
                    have HR4 : Hid (rootP t = if gavMay ⟨bs (pa.drop 5), xb, xc⟩ then some ⟨bs (pa.drop 5), xb, xc⟩ else none) := by show _ = _; rw [HR3.out, if_pos hr]
                    clear hr HR3
                    have v0 := X15.out.free 0
                    have v1 := X15.out.free 1
                    have v2 := X15.out.free 2
                    have c0 := X15.out.cell 0 _ rfl
                    have c1 := X15.out.cell 1 _ rfl
                    have c2 := X15.out.cell 2 _ rfl
                    have lv := X15.out.lt
                    have hx5 := HX5.out
                    go_upto_region 16 with fail
                    go_big_region
                    go_upto_region 17 with fail
                    refine wp_world ?_
                    intro W7 hW7
                    have X17 : Hid (Box W7 A1 [.string (bs (pa.drop 5)), .string xb, .string xc, .slice ao acc.length cap]) := by
                      show Box _ _ _
                      rw [hW7]
                      first
                        | exact (((X15.out.set 0 (.string (bs (pa.drop 5)))).set 1 (.string xb)).set 2 (.string xc)).drewN 1
                        | exact ((((X15.out.drewN 1).set 0 (.string (bs (pa.drop 5)))).set 1 (.string xb)).set 2 (.string xc))
                    have hk7 : Kx w5 W7 A1 A1 A1 := by
                      rw [hW7]
                      first
                        | exact ((((Kx.refl _ _ _ _).set (.inl rfl) _).set (.inl rfl) _).set (.inl rfl) _).drewN 1
                        | exact ((((Kx.refl _ _ _ _).drewN 1).set (.inl rfl) _).set (.inl rfl) _).set (.inl rfl) _
                    clear hW7 v0 v1 v2 c0 c1 c2 lv k0 k1 k2 hx0 hx1 hx5 dl dlN hshI hsh5 hsh hsa HX5 HX0 HSZ
                    have HB7 := Lib.hid (HB5.out.trans (hk7.below (B := A1) (by omega) (by omega) (by omega)))
                    have HO7 := Lib.hid (hk7.owns HO5.out (by omega) (by omega) (by omega))
                    have n7 : N3 ≤ W7.heap.size := by rw [hk7.size]; exact n5
                    clear hk7 X15 HB5 HO5
                    have HMG := Lib.hid (refMayGav_any ⟨bs (pa.drop 5), xb, xc⟩ W7 HGM.out)
                    generalize bs (pa.drop 5) = xd at *
                    obtain ⟨mg, hmg⟩ : ∃ b, b = gavMay ⟨xd, xb, xc⟩ := ⟨_, rfl⟩
                    rw [← hmg] at HR4 HMG
                    clear hmg
                    have c0 := X17.out.cell 0 _ rfl
                    have c1 := X17.out.cell 1 _ rfl
                    have c2 := X17.out.cell 2 _ rfl
                    go_wp2_with fail
                    refine HMG.out.mono ?_
                    rintro e w8 ⟨rfl, hb8⟩
                    have X18 := Lib.hid (X17.out.below hb8 X17.out.lt)
                    have HB8 := Lib.hid (HB7.out.trans (hb8.mono (Nat.le_trans (Nat.le_of_lt nAN) n7)))
                    have HO8 := Lib.hid (HO7.out.below hb8)
                    have n8 : N3 ≤ w8.heap.size := Nat.le_trans n7 hb8.size
                    clear hb8 X17 HB7 HO7 c0 c1 c2
                    cases mg with
                    | false =>
                      have HE : Hid (parseB s.data.toList = .error 2) := by show _ = _; rw [HT1.out, HR4.out]; rfl
                      have X9 := Lib.hid (X0.out.below HB8.out hA0)
                      have HB9 := Lib.hid (HB1.out.trans (HB8.out.mono (Nat.le_of_lt hA0)))
                      have u0 := X9.out.free 0
                      have z0 := X9.out.cell 0 _ rfl
                      have u1 := X9.out.free 1
                      have z1 := X9.out.cell 1 _ rfl
                      have u2 := X9.out.free 2
                      have z2 := X9.out.cell 2 _ rfl
                      have u3 := X9.out.free 3
                      have z3 := X9.out.cell 3 _ rfl
                      have lz := X9.out.lt
                      go_wp2
                      refine bodyPost_ret (v := .tuple #[.agg #[.string ⟨#[]⟩, .string ⟨#[]⟩, .string ⟨#[]⟩, .slice none 0 0], .int .i64 (2)]) (by simp [results, Tryd.results8, go_sem, z0, z1, z2, z3]) rfl ?_
                      rw [HE.out]
                      exact ⟨rfl, (((HB9.out.setCell (by simp) _).setCell (by simp) _).setCell (by simp) _).setCell (by simp) _⟩
                    | true =>
                      have HE : Hid (parseB s.data.toList = stR ls 2 ⟨xd, xb, xc⟩ []) := by show _ = _; rw [HT1.out, HR4.out]; rfl
                      go_wp2
                      go_roundw
                      case rel => exact ⟨2, ⟨xd, xb, xc⟩, [], .slice ao acc.length cap, by omega, by go_num, HB8.out, X18.out, (by have h := HO8.out; rw [HA0.out] at h ⊢; exact h), n8, HE, by simp, fun _ => rfl, HGM.out⟩
                      case measure => simp [intOf]; omega
            · have hi2 : 2 ≤ i := by omega
              have hj0 : ((i : Int) == 0) = false := by rw [beq_eq_false_iff_ne]; omega
              have hj1 : ((i : Int) == 1) = false := by rw [beq_eq_false_iff_ne]; omega
              have HT2 : Hid (parseB s.data.toList = withG g (pinsGo (t :: L') i acc)) := by show _ = _; rw [HTr.out, stR_2 hi2, HD.out]
              have c3 := X1r.out.cell 3 _ rfl
              have lv := X1r.out.lt
              have HNU := Lib.hid (fun V => refNumber_any acc.length V (by have := HAI.out; omega))
              have HNZ : Hid ((bs (numB acc.length)).size ≤ 100) := by
                have h1 := numB_len 7 acc.length (by have := HAI.out; omega)
                show _ ≤ _
                rw [bs_size]; omega
              have hsum : ¬ 9223372036854775807 < 4 + (bs (numB acc.length)).size := by have := HNZ.out; omega
              have HQ : Hid ((xt = ⟨#[101, 110, 100, 32]⟩ ++ bs (numB acc.length)) ↔ t = endB acc.length) := by
                show _ ↔ _
                rw [HXT.out, show (⟨#[101, 110, 100, 32]⟩ : S) = bs [101, 110, 100, 32] from rfl, cat_bs]
                exact ⟨fun h => bs_inj h, fun h => by rw [h]; rfl⟩
              clear hi0 hi1
              generalize bs (numB acc.length) = nb at *
              go_wp2_with fail
              refine (HNU.out _).mono ?_
              rintro e w5 ⟨rfl, hb5⟩
              have X15 := Lib.hid (X1r.out.below hb5 X1r.out.lt)
              have HB5 := Lib.hid (HB.out.trans (hb5.mono (Nat.le_trans (Nat.le_of_lt nAN) hN)))
              have HO5 := Lib.hid (HO.out.below hb5)
              have n5 : N3 ≤ w5.heap.size := Nat.le_trans hN hb5.size
              have HC5 : Hid (i + 1 < ls.length → w5.cell? ⟨g0, i + 1, none⟩ = some (.string (bs ((ls[i + 1]?).getD [])))) := fun h => (hb5.cell (p := ⟨g0, i + 1, none⟩) (by show g0 < wr.heap.size; omega)).trans (HC1.out h)
              clear hb5 X1r HB HO hcell c3 lv HC1 HNU
              have c3 := X15.out.cell 3 _ rfl
              have lv := X15.out.lt
              by_cases hte : t = endB acc.length
              · have he : (xt.toList == ((⟨#[101, 110, 100, 32]⟩ : S) ++ nb).toList) = true := by rw [HQ.out.2 hte]; simp
                have HE : Hid (parseB s.data.toList = withG g (if L' = [[]] then .ok acc else .error (i + 2))) := by show _ = _; rw [HT2.out, pinsGo_end hte]
                clear hte HQ
                by_cases h2 : i + 2 = ls.length
                rotate_left
                · have HE2 : Hid (parseB s.data.toList = .error (i + 2)) := by show _ = _; rw [HE.out, if_neg (fun h => h2 (HONE.out.1 h).1)]; rfl
                  have hz2 : ((i : Int) + 2 != (ls.length : Int)) = true := by rw [bne_iff_ne]; omega
                  clear HE HC5 c3 lv h2
                  have X9 := Lib.hid (X0.out.below HB5.out hA0)
                  have HB9 := Lib.hid (HB1.out.trans (HB5.out.mono (Nat.le_of_lt hA0)))
                  have u0 := X9.out.free 0
                  have z0 := X9.out.cell 0 _ rfl
                  have u1 := X9.out.free 1
                  have z1 := X9.out.cell 1 _ rfl
                  have u2 := X9.out.free 2
                  have z2 := X9.out.cell 2 _ rfl
                  have u3 := X9.out.free 3
                  have z3 := X9.out.cell 3 _ rfl
                  have lz := X9.out.lt
                  go_wp2
                  refine bodyPost_ret (v := .tuple #[.agg #[.string ⟨#[]⟩, .string ⟨#[]⟩, .string ⟨#[]⟩, .slice none 0 0], .int .i64 ((i : Int) + 2)]) (by simp [results, Tryd.results8, go_sem, z0, z1, z2, z3]) rfl ?_
                  rw [HE2.out]
                  exact ⟨rfl, (((HB9.out.setCell (by simp) _).setCell (by simp) _).setCell (by simp) _).setCell (by simp) _⟩
                · have hz2 : ((i : Int) + 2 != (ls.length : Int)) = false := by rw [bne_eq_false_iff_eq]; omega
                  have hy := HC5.out (by omega)
                  have hiI2 : (i : Int) + 1 < (ls.length : Int) := by omega
                  have HLX := Lib.hid (show i + 1 < ls.length by omega)
                  obtain ⟨y, hyy⟩ : ∃ y, y = (ls[i + 1]?).getD [] := ⟨_, rfl⟩
                  have HY : Hid (ls[i + 1]? = some y) := by show _ = _; rw [hyy, List.getElem?_eq_getElem HLX.out]; rfl
                  rw [← hyy] at hy
                  clear hyy HC5
                  by_cases hye : y = []
                  rotate_left
                  · have HE2 : Hid (parseB s.data.toList = .error (i + 2)) := by show _ = _; rw [HE.out, if_neg (fun h => by have h1 := (HONE.out.1 h).2; rw [HY.out] at h1; exact hye (Option.some.inj h1))]; rfl
                    have hz3 : ((bs y).toList == []) = false := by rw [str_lit, bs_data]; exact decide_eq_false hye
                    have hz4 : ((bs y).toList != []) = true := by rw [bne, hz3]; rfl
                    clear HE c3 lv hye h2
                    generalize bs y = xy at *
                    have X9 := Lib.hid (X0.out.below HB5.out hA0)
                    have HB9 := Lib.hid (HB1.out.trans (HB5.out.mono (Nat.le_of_lt hA0)))
                    have u0 := X9.out.free 0
                    have z0 := X9.out.cell 0 _ rfl
                    have u1 := X9.out.free 1
                    have z1 := X9.out.cell 1 _ rfl
                    have u2 := X9.out.free 2
                    have z2 := X9.out.cell 2 _ rfl
                    have u3 := X9.out.free 3
                    have z3 := X9.out.cell 3 _ rfl
                    have lz := X9.out.lt
                    go_wp2
                    refine bodyPost_ret (v := .tuple #[.agg #[.string ⟨#[]⟩, .string ⟨#[]⟩, .string ⟨#[]⟩, .slice none 0 0], .int .i64 ((i : Int) + 2)]) (by simp [results, Tryd.results8, go_sem, z0, z1, z2, z3]) rfl ?_
                    rw [HE2.out]
                    exact ⟨rfl, (((HB9.out.setCell (by simp) _).setCell (by simp) _).setCell (by simp) _).setCell (by simp) _⟩
                  · have HE2 : Hid (parseB s.data.toList = .ok ⟨g, acc⟩) := by show _ = _; rw [HE.out, if_pos (HONE.out.2 ⟨h2, by rw [HY.out, hye]⟩)]; rfl
                    have hz3 : ((bs y).toList == []) = true := by rw [str_lit, bs_data, hye]; rfl
                    have hz4 : ((bs y).toList != []) = false := by rw [bne, hz3]; rfl
                    clear HE hye h2
                    generalize bs y = xy at *
                    have c0 := X15.out.cell 0 _ rfl
                    have c1 := X15.out.cell 1 _ rfl
                    have c2 := X15.out.cell 2 _ rfl
                    have X9 := Lib.hid (X0.out.below HB5.out hA0)
                    have HB9 := Lib.hid (HB1.out.trans (HB5.out.mono (Nat.le_of_lt hA0)))
                    have u0 := X9.out.free 0
                    have z0 := X9.out.cell 0 _ rfl
                    have u1 := X9.out.free 1
                    have z1 := X9.out.cell 1 _ rfl
                    have u2 := X9.out.free 2
                    have z2 := X9.out.cell 2 _ rfl
                    have u3 := X9.out.free 3
                    have z3 := X9.out.cell 3 _ rfl
                    have lz := X9.out.lt
                    go_wp2
                    refine bodyPost_ret (v := .tuple #[.agg #[.string g.group, .string g.artifact, .string g.version, .slice ao acc.length cap], .int .i64 0]) (by simp [results, Tryd.results8, go_sem, z0, z1, z2, z3]) rfl ?_
                    rw [HE2.out]
                    refine ⟨_, rfl, ?_, (((HB9.out.setCell (by simp) _).setCell (by simp) _).setCell (by simp) _).setCell (by simp) _⟩
                    exact ((((HO5.out.keptR (setCell_grown _ _ _ _) (by omega)).keptR (setCell_grown _ _ _ _) (by omega)).keptR (setCell_grown _ _ _ _) (by omega)).keptR (setCell_grown _ _ _ _) (by omega)).slice pinC_len
              · have he : (xt.toList == ((⟨#[101, 110, 100, 32]⟩ : S) ++ nb).toList) = false := str_neD (fun h => hte (HQ.out.1 h))
                have HE : Hid (parseB s.data.toList = withG g (match pinP t with
                    | none => .error (i + 1)
                    | some p => if 4096 ≤ acc.length ∨ nextOk acc p = false then .error (i + 1) else pinsGo L' (i + 1) (acc ++ [p]))) := by show _ = _; rw [HT2.out, pinsGo_pin (fun _ h => HLQ.out (HLAST.out.1 h)) hte]; cases pinP t <;> rfl
                have HPN := Lib.hid (refPin_any xt w5 (by have := HTZ.out; omega))
                rw [HDT.out] at HPN
                obtain ⟨P, hP⟩ : ∃ P, P = pinP t := ⟨_, rfl⟩
                rw [← hP] at HE HPN
                clear hP hte HQ HTr HC5 HT2
                go_wp2_with fail
                refine HPN.out.mono ?_
                rintro e wz ⟨p, rfl, hp, hbz⟩
                have HP := Lib.hid hp
                have X1z := Lib.hid (X15.out.below hbz X15.out.lt)
                have HOz := Lib.hid (HO5.out.below hbz)
                have HBz := Lib.hid (HB5.out.trans (hbz.mono (Nat.le_trans (Nat.le_of_lt nAN) n5)))
                have nz : N3 ≤ wz.heap.size := Nat.le_trans n5 hbz.size
                clear hp hbz c3 lv he hsum HPN X15 HO5 HB5
                obtain ⟨sm, hsm⟩ : ∃ b, b = P.isSome := ⟨_, rfl⟩
                rw [← hsm]
                have HSM := Lib.hid hsm
                clear hsm
                go_upto_region 24 with fail
                refine wp_world ?_
                intro W9 hW9
                have xp : Box W9 wz.heap.size [.string p.key.group, .string p.key.artifact, .string p.key.type, .string p.key.classifier, .string p.version, .int .i64 p.scope] := by rw [hW9]; exact Box.new wz [.string p.key.group, .string p.key.artifact, .string p.key.type, .string p.key.classifier, .string p.version, .int .i64 p.scope] _ _ rfl
                have hb9 : Below wz.heap.size wz W9 := by rw [hW9]; exact (Below.refl _ wz).alloc (Nat.le_refl _) _
                clear hW9
                have XP := Lib.hid xp
                have X19 := Lib.hid (X1z.out.below hb9 X1z.out.lt)
                have HO9 := Lib.hid (HOz.out.below hb9)
                have HB9 := Lib.hid (HBz.out.trans (hb9.mono (Nat.le_trans (Nat.le_of_lt nAN) nz)))
                have n9 : N3 ≤ W9.heap.size := Nat.le_trans nz hb9.size
                clear xp hb9 X1z HOz HBz
                generalize wz.heap.size = bP at *
                have c3 := X19.out.cell 3 _ rfl
                go_upto_region 25 with fail
                have hLL := @Later.cells W9
                have l9 := X19.out.lt
                have lp := XP.out.lt
                cases P with
                | none =>
                  obtain rfl : sm = false := HSM.out
                  have HE2 : Hid (parseB s.data.toList = .error (i + 1)) := HE.out
                  refine region_later (by kernel_rfl) (by kernel_rfl) ?_
                  repeat (go_big_quiet_step ((fail)))
                  refine wpQuiet_nil ?_
                  rintro _ ⟨nx, rfl⟩
                  have X1n := Lib.hid (X19.out.below nx.below X19.out.lt)
                  have XPn := Lib.hid (XP.out.below nx.below XP.out.lt)
                  have HOn := Lib.hid (HO9.out.below nx.below)
                  have HBn := Lib.hid (HB9.out.trans (nx.below.mono (Nat.le_trans (Nat.le_of_lt nAN) n9)))
                  have nn : N3 ≤ nx.at_.heap.size := Nat.le_trans n9 nx.below.size
                  clear hLL c3 l9 lp 
                  generalize nx.at_ = wn at *
                  have X9 := Lib.hid (X0.out.below HBn.out hA0)
                  have HB9 := Lib.hid (HB1.out.trans (HBn.out.mono (Nat.le_of_lt hA0)))
                  have u0 := X9.out.free 0
                  have z0 := X9.out.cell 0 _ rfl
                  have u1 := X9.out.free 1
                  have z1 := X9.out.cell 1 _ rfl
                  have u2 := X9.out.free 2
                  have z2 := X9.out.cell 2 _ rfl
                  have u3 := X9.out.free 3
                  have z3 := X9.out.cell 3 _ rfl
                  have lz := X9.out.lt
                  go_wp2
                  refine bodyPost_ret (v := .tuple #[.agg #[.string ⟨#[]⟩, .string ⟨#[]⟩, .string ⟨#[]⟩, .slice none 0 0], .int .i64 ((i : Int) + 1)]) (by simp [results, Tryd.results8, go_sem, z0, z1, z2, z3]) rfl ?_
                  rw [HE2.out]
                  exact ⟨rfl, (((HB9.out.setCell (by simp) _).setCell (by simp) _).setCell (by simp) _).setCell (by simp) _⟩
                | some p' =>
                  obtain rfl : sm = true := HSM.out
                  obtain rfl : p = p' := HP.out _ rfl
                  by_cases h4 : 4096 ≤ acc.length
                  · have d4 : decide ((4096 : Int) ≤ (acc.length : Int)) = true := decide_eq_true (by omega)
                    have d4N : decide (4096 ≤ acc.length) = true := decide_eq_true h4
                    have HE2 : Hid (parseB s.data.toList = .error (i + 1)) := by show _ = _; rw [HE.out]; simp only; rw [if_pos (.inl h4)]; rfl
                    clear h4
                    refine region_later (by kernel_rfl) (by kernel_rfl) ?_
                    repeat (go_big_quiet_step ((fail)))
                    refine wpQuiet_nil ?_
                    rintro _ ⟨nx, rfl⟩
                    have X1n := Lib.hid (X19.out.below nx.below X19.out.lt)
                    have XPn := Lib.hid (XP.out.below nx.below XP.out.lt)
                    have HOn := Lib.hid (HO9.out.below nx.below)
                    have HBn := Lib.hid (HB9.out.trans (nx.below.mono (Nat.le_trans (Nat.le_of_lt nAN) n9)))
                    have nn : N3 ≤ nx.at_.heap.size := Nat.le_trans n9 nx.below.size
                    clear hLL c3 l9 lp d4 d4N
                    generalize nx.at_ = wn at *
                    have X9 := Lib.hid (X0.out.below HBn.out hA0)
                    have HB9 := Lib.hid (HB1.out.trans (HBn.out.mono (Nat.le_of_lt hA0)))
                    have u0 := X9.out.free 0
                    have z0 := X9.out.cell 0 _ rfl
                    have u1 := X9.out.free 1
                    have z1 := X9.out.cell 1 _ rfl
                    have u2 := X9.out.free 2
                    have z2 := X9.out.cell 2 _ rfl
                    have u3 := X9.out.free 3
                    have z3 := X9.out.cell 3 _ rfl
                    have lz := X9.out.lt
                    go_wp2
                    refine bodyPost_ret (v := .tuple #[.agg #[.string ⟨#[]⟩, .string ⟨#[]⟩, .string ⟨#[]⟩, .slice none 0 0], .int .i64 ((i : Int) + 1)]) (by simp [results, Tryd.results8, go_sem, z0, z1, z2, z3]) rfl ?_
                    rw [HE2.out]
                    exact ⟨rfl, (((HB9.out.setCell (by simp) _).setCell (by simp) _).setCell (by simp) _).setCell (by simp) _⟩
                  · have d4 : decide ((4096 : Int) ≤ (acc.length : Int)) = false := decide_eq_false (by omega)
                    have d4N : decide (4096 ≤ acc.length) = false := decide_eq_false h4
                    have H4 := Lib.hid h4
                    clear h4
                    by_cases h0 : acc.length = 0
                    · have d0 : decide ((0 : Int) < (acc.length : Int)) = false := decide_eq_false (by omega)
                      have d0N : decide (0 < acc.length) = false := decide_eq_false (by omega)
                      have HE2 : Hid (parseB s.data.toList = stR ls (i + 1) g (acc ++ [p])) := by
                        show _ = _
                        rw [HE.out, stR_2 (by omega), HDN.out]; simp only
                        rw [if_neg]
                        rintro (h | h)
                        · exact H4.out h
                        · rw [List.eq_nil_of_length_eq_zero h0, nextOk_empty] at h; simp at h
                      clear h0
                      refine region_later (by kernel_rfl) (by kernel_rfl) ?_
                      repeat (go_big_quiet_step ((fail)))
                      refine wpQuiet_nil ?_
                      rintro _ ⟨nx, rfl⟩
                      have X1n := Lib.hid (X19.out.below nx.below X19.out.lt)
                      have XPn := Lib.hid (XP.out.below nx.below XP.out.lt)
                      have HOn := Lib.hid (HO9.out.below nx.below)
                      have HBn := Lib.hid (HB9.out.trans (nx.below.mono (Nat.le_trans (Nat.le_of_lt nAN) n9)))
                      have nn : N3 ≤ nx.at_.heap.size := Nat.le_trans n9 nx.below.size
                      clear hLL c3 l9 lp d4 d4N d0 d0N
                      generalize nx.at_ = wn at *
                      have c3 := X1n.out.cell 3 _ rfl
                      have k0 := XPn.out.cell 0 _ rfl
                      have k1 := XPn.out.cell 1 _ rfl
                      have k2 := XPn.out.cell 2 _ rfl
                      have k3 := XPn.out.cell 3 _ rfl
                      have k4 := XPn.out.cell 4 _ rfl
                      have k5 := XPn.out.cell 5 _ rfl
                      have lv := X1n.out.lt
                      have lp := XPn.out.lt
                      have HLP := Lib.hid (pinLitD wn p wn.heap.size rfl)
                      go_wp2_with (at_builtin; refine wpList_append_slice _ rfl _ _ 24 rfl N3 51 Tryd.underlying24 info_pinD rfl (by decide) pinC_len (.slice ao acc.length cap) acc rfl (HOn.out.alloc _) _ [p] rfl HLP.out (fun _ _ => pinC_one) (by have h1 := HAI.out; simp only [List.length_cons, List.length_nil]; omega) (by decide) (by simp; omega) ?_; intro v9 w9 hown9 hgrow9 hloc9; obtain ⟨ro, rc, rfl⟩ := hown9.shape; have b9 := (X1n.out.alloc _).grown hgrow9 (own_neD HOn.out (by omega)); have c9 := b9.cell 3 _ rfl; have f9 := b9.free 3; have l9 := b9.lt; have X19' := Lib.hid b9; have HO9' : Hid (Owns N3 51 6 pinC w9 (.slice ro (acc.length + 1) rc) (acc ++ [p])) := (by have h := hown9; rw [List.length_append] at h; exact h); have HB9' := Lib.hid (own_belowD (HBn.out.alloc (Nat.le_trans (Nat.le_of_lt nAN) nn) _) (HOn.out.alloc _) hgrow9 (by omega) (by simp; omega)); have n9' : N3 ≤ w9.heap.size := (by have := hgrow9.size; simp at this; omega); clear hown9 hgrow9 hloc9 b9)
                      go_roundw
                      case rel => exact ⟨i + 1, g, acc ++ [p], .slice ro (acc.length + 1) rc, by omega, by go_num, HB9'.out.setCell (p := ⟨A1, 3, none⟩) (by show A1 ≤ A1; omega) _, X19'.out.set 3 _, HO9'.out.keptR (setCell_grown _ A1 3 _) (by omega), (by simpa [World.setCell] using n9'), HE2, (by have := HAI.out; simp only [List.length_append, List.length_cons, List.length_nil]; omega), (fun h => by omega), HGS.out⟩
                      case measure => simp [intOf]; omega
                    · obtain ⟨j, hj⟩ : ∃ j, acc.length = j + 1 := ⟨acc.length - 1, by omega⟩
                      have d0 : decide ((0 : Int) < (acc.length : Int)) = true := decide_eq_true (by omega)
                      have d0N : decide (0 < acc.length) = true := decide_eq_true (by omega)
                      have hjl : j < acc.length := by omega
                      have hjI : (j : Int) < (acc.length : Int) := by omega
                      have wj : IntKind.i64.wrap ((acc.length : Int) - 1) = (j : Int) := by rw [show (acc.length : Int) - 1 = (j : Int) by omega]; exact IntWalk.i64_in _ (by have := HAI.out; omega)
                      obtain ⟨bb, oo, hao, hbl, hcell⟩ := (HO9.out.slice pinC_len).at hjl
                      subst hao
                      have q0 : W9.cell? ⟨bb, oo + j * 6, none⟩ = some (.string acc[j].key.group) := by simpa using hcell 0 _ rfl
                      have q1 : W9.cell? ⟨bb, oo + j * 6 + 1, none⟩ = some (.string acc[j].key.artifact) := hcell 1 _ rfl
                      have q2 : W9.cell? ⟨bb, oo + j * 6 + 2, none⟩ = some (.string acc[j].key.type) := hcell 2 _ rfl
                      have q3 : W9.cell? ⟨bb, oo + j * 6 + 3, none⟩ = some (.string acc[j].key.classifier) := hcell 3 _ rfl
                      have HNX : Hid (nextOk acc p = decide (cmpK acc[j].key p.key = -1)) := nextOk_last hj p
                      clear hcell h0 hj
                      generalize acc[j] = lp' at *
                      obtain ⟨c, hc⟩ : ∃ c, c = cmpK lp'.key p.key := ⟨_, rfl⟩
                      have HCM := Lib.hid (fun (x : Later W9) => refCompare_l lp'.key p.key x c hc.symm)
                      rw [← hc] at HNX
                      clear hc
                      have k0 := XP.out.cell 0 _ rfl
                      have k1 := XP.out.cell 1 _ rfl
                      have k2 := XP.out.cell 2 _ rfl
                      have k3 := XP.out.cell 3 _ rfl
                      by_cases hc1 : c = -1
                      · have e2 : (c != -1) = false := by rw [hc1]; rfl
                        have HE2 : Hid (parseB s.data.toList = stR ls (i + 1) g (acc ++ [p])) := by
                          show _ = _
                          rw [HE.out, stR_2 (by omega), HDN.out]; simp only
                          rw [if_neg]
                          rintro (h | h)
                          · exact H4.out h
                          · rw [HNX.out, decide_eq_true hc1] at h; simp at h
                        clear hc1
                        refine region_later (by kernel_rfl) (by kernel_rfl) ?_
                        repeat (go_big_quiet_step ((go_at_call 30; exact HCM.out _)))
                        refine wpQuiet_nil ?_
                        rintro _ ⟨nx, rfl⟩
                        have X1n := Lib.hid (X19.out.below nx.below X19.out.lt)
                        have XPn := Lib.hid (XP.out.below nx.below XP.out.lt)
                        have HOn := Lib.hid (HO9.out.below nx.below)
                        have HBn := Lib.hid (HB9.out.trans (nx.below.mono (Nat.le_trans (Nat.le_of_lt nAN) n9)))
                        have nn : N3 ≤ nx.at_.heap.size := Nat.le_trans n9 nx.below.size
                        clear hLL c3 l9 lp d4 d4N d0 d0N hjl hjI wj q0 q1 q2 q3 k0 k1 k2 k3 e2 hbl
                        generalize nx.at_ = wn at *
                        have c3 := X1n.out.cell 3 _ rfl
                        have k0 := XPn.out.cell 0 _ rfl
                        have k1 := XPn.out.cell 1 _ rfl
                        have k2 := XPn.out.cell 2 _ rfl
                        have k3 := XPn.out.cell 3 _ rfl
                        have k4 := XPn.out.cell 4 _ rfl
                        have k5 := XPn.out.cell 5 _ rfl
                        have lv := X1n.out.lt
                        have lp := XPn.out.lt
                        have HLP := Lib.hid (pinLitD wn p wn.heap.size rfl)
                        go_wp2_with (at_builtin; refine wpList_append_slice _ rfl _ _ 24 rfl N3 51 Tryd.underlying24 info_pinD rfl (by decide) pinC_len (.slice (some ⟨bb, oo, none⟩) acc.length cap) acc rfl (HOn.out.alloc _) _ [p] rfl HLP.out (fun _ _ => pinC_one) (by have h1 := HAI.out; simp only [List.length_cons, List.length_nil]; omega) (by decide) (by simp; omega) ?_; intro v9 w9 hown9 hgrow9 hloc9; obtain ⟨ro, rc, rfl⟩ := hown9.shape; have b9 := (X1n.out.alloc _).grown hgrow9 (own_neD HOn.out (by omega)); have c9 := b9.cell 3 _ rfl; have f9 := b9.free 3; have l9 := b9.lt; have X19' := Lib.hid b9; have HO9' : Hid (Owns N3 51 6 pinC w9 (.slice ro (acc.length + 1) rc) (acc ++ [p])) := (by have h := hown9; rw [List.length_append] at h; exact h); have HB9' := Lib.hid (own_belowD (HBn.out.alloc (Nat.le_trans (Nat.le_of_lt nAN) nn) _) (HOn.out.alloc _) hgrow9 (by omega) (by simp; omega)); have n9' : N3 ≤ w9.heap.size := (by have := hgrow9.size; simp at this; omega); clear hown9 hgrow9 hloc9 b9)
                        go_roundw
                        case rel => exact ⟨i + 1, g, acc ++ [p], .slice ro (acc.length + 1) rc, by omega, by go_num, HB9'.out.setCell (p := ⟨A1, 3, none⟩) (by show A1 ≤ A1; omega) _, X19'.out.set 3 _, HO9'.out.keptR (setCell_grown _ A1 3 _) (by omega), (by simpa [World.setCell] using n9'), HE2, (by have := HAI.out; simp only [List.length_append, List.length_cons, List.length_nil]; omega), (fun h => by omega), HGS.out⟩
                        case measure => simp [intOf]; omega
                      · have e2 : (c != -1) = true := by rw [bne_iff_ne]; exact hc1
                        have HE2 : Hid (parseB s.data.toList = .error (i + 1)) := by
                          show _ = _
                          rw [HE.out]; simp only
                          rw [if_pos (.inr (by rw [HNX.out, decide_eq_false hc1]))]; rfl
                        clear hc1
                        refine region_later (by kernel_rfl) (by kernel_rfl) ?_
                        repeat (go_big_quiet_step ((go_at_call 30; exact HCM.out _)))
                        refine wpQuiet_nil ?_
                        rintro _ ⟨nx, rfl⟩
                        have X1n := Lib.hid (X19.out.below nx.below X19.out.lt)
                        have XPn := Lib.hid (XP.out.below nx.below XP.out.lt)
                        have HOn := Lib.hid (HO9.out.below nx.below)
                        have HBn := Lib.hid (HB9.out.trans (nx.below.mono (Nat.le_trans (Nat.le_of_lt nAN) n9)))
                        have nn : N3 ≤ nx.at_.heap.size := Nat.le_trans n9 nx.below.size
                        clear hLL c3 l9 lp d4 d4N d0 d0N hjl hjI wj q0 q1 q2 q3 k0 k1 k2 k3 e2 hbl
                        generalize nx.at_ = wn at *
                        have X9 := Lib.hid (X0.out.below HBn.out hA0)
                        have HB9 := Lib.hid (HB1.out.trans (HBn.out.mono (Nat.le_of_lt hA0)))
                        have u0 := X9.out.free 0
                        have z0 := X9.out.cell 0 _ rfl
                        have u1 := X9.out.free 1
                        have z1 := X9.out.cell 1 _ rfl
                        have u2 := X9.out.free 2
                        have z2 := X9.out.cell 2 _ rfl
                        have u3 := X9.out.free 3
                        have z3 := X9.out.cell 3 _ rfl
                        have lz := X9.out.lt
                        go_wp2
                        refine bodyPost_ret (v := .tuple #[.agg #[.string ⟨#[]⟩, .string ⟨#[]⟩, .string ⟨#[]⟩, .slice none 0 0], .int .i64 ((i : Int) + 1)]) (by simp [results, Tryd.results8, go_sem, z0, z1, z2, z3]) rfl ?_
                        rw [HE2.out]
                        exact ⟨rfl, (((HB9.out.setCell (by simp) _).setCell (by simp) _).setCell (by simp) _).setCell (by simp) _⟩
    · obtain rfl : i = ls.length := by omega
      have HE : Hid (parseB s.data.toList = .error (ls.length + 1)) := by show _ = _; rw [HTr.out]; exact stR_end HNE.out
      clear hlt
      have X9 := Lib.hid (X0.out.below HB.out hA0)
      have HB9 := Lib.hid (HB1.out.trans (HB.out.mono (Nat.le_of_lt hA0)))
      have u0 := X9.out.free 0
      have z0 := X9.out.cell 0 _ rfl
      have u1 := X9.out.free 1
      have z1 := X9.out.cell 1 _ rfl
      have u2 := X9.out.free 2
      have z2 := X9.out.cell 2 _ rfl
      have u3 := X9.out.free 3
      have z3 := X9.out.cell 3 _ rfl
      have lz := X9.out.lt
      go_wp2
      refine bodyPost_ret (v := .tuple #[.agg #[.string ⟨#[]⟩, .string ⟨#[]⟩, .string ⟨#[]⟩, .slice none 0 0], .int .i64 ((ls.length : Int) + 1)]) (by simp [results, Tryd.results8, go_sem, z0, z1, z2, z3]) rfl ?_
      rw [HE.out]
      exact ⟨rfl, (((HB9.out.setCell (by simp) _).setCell (by simp) _).setCell (by simp) _).setCell (by simp) _⟩

end Go.Proofs.YtmcjpmogjmnfpaaDoor
