/- Walk: lock.Parse; the conditions stand in the theorems. -/
import Derived.Test.YtopknpainclmgaaGreatDoorD6
import Derived.Test.YtopknpainclmgaaGreatDoorD8

namespace Go.Proofs.YtopknpainclmgaaGreatDoor
open Go Go.RowKit

def withG (g : Gav) : Except Nat (List Pin) → Except Nat Lock
  | .error k => .error k
  | .ok ps => .ok ⟨g, ps⟩
/-- The lines behind the first one. -/
def parse1 : List Bs → Except Nat Lock
  | [] => .error 2
  | t1 :: r1 => if t1 = [] ∧ r1 = [] then .error 2 else (match rootP t1 with
    | none => .error 2
    | some g => withG g (pinsGo r1 2 []))
def parseL : List Bs → Except Nat Lock
  | [] => .error 1
  | t0 :: r0 => if t0 = headB then parse1 r0 else .error 1
theorem parseB_L (s : Bs) : parseB s = parseL (piecesB 10 s) := by
  unfold parseB parseL
  cases piecesB 10 s with
  | nil => rfl
  | cons t0 r0 =>
    by_cases h : t0 = headB
    · simp only [h, if_true]
      unfold parse1
      cases r0 with
      | nil => rfl
      | cons t1 r1 =>
        simp only
        split
        · rfl
        · cases rootP t1 with
          | none => rfl
          | some g => simp only; cases pinsGo r1 2 [] <;> rfl
    · simp only [h, if_false]
theorem parseL_cons (t : Bs) (r : List Bs) : parseL (t :: r) = if t = headB then parse1 r else .error 1 := rfl
theorem parse1_cons (t : Bs) (r : List Bs) : parse1 (t :: r) = if t = [] ∧ r = [] then .error 2 else (match rootP t with
    | none => .error 2
    | some g => withG g (pinsGo r 2 [])) := rfl
theorem parseL_none {L : List Bs} (h : L = [] ∨ L = [[]]) : parseL L = .error 1 := by
  rcases h with rfl | rfl
  · rfl
  · rw [parseL_cons, if_neg (by decide)]
theorem parse1_none {L : List Bs} (h : L = [] ∨ L = [[]]) : parse1 L = .error 2 := by
  rcases h with rfl | rfl
  · rfl
  · rw [parse1_cons, if_pos ⟨rfl, rfl⟩]
theorem parse1_some {t : Bs} {L : List Bs} (h : t = [] → L ≠ []) : parse1 (t :: L) = match rootP t with
    | none => .error 2
    | some g => withG g (pinsGo L 2 []) := by
  rw [parse1_cons, if_neg (fun e => h e.1 e.2)]
theorem pinsGo_none {L : List Bs} (h : L = [] ∨ L = [[]]) (i : Nat) (acc : List Pin) : pinsGo L i acc = .error (i + 1) := by
  rcases h with rfl | rfl
  · rfl
  · unfold pinsGo; rw [if_pos ⟨rfl, rfl⟩]
theorem pinsGo_end {t : Bs} {L : List Bs} {i : Nat} {acc : List Pin} (h : t = endB acc.length) : pinsGo (t :: L) i acc = if L = [[]] then .ok acc else .error (i + 2) := by
  unfold pinsGo
  rw [if_neg (by rintro ⟨e, -⟩; rw [h] at e; simp [endB] at e), if_pos h]
theorem pinsGo_pin {t : Bs} {L : List Bs} {i : Nat} {acc : List Pin} (h : t = [] → L ≠ []) (hn : t ≠ endB acc.length) : pinsGo (t :: L) i acc = match pinP t with
    | none => .error (i + 1)
    | some p => if 4096 ≤ acc.length ∨ nextOk acc p = false then .error (i + 1) else pinsGo L (i + 1) (acc ++ [p]) := by
  rw [pinsGo, if_neg (fun e => h e.1 e.2), if_neg hn]
  cases pinP t <;> rfl
theorem rootP_trim (t : Bs) : rootP t = if Lib.hasPrefix t rootW then gavP (Lib.trimPrefix t rootW) else none := by
  unfold rootP Lib.trimPrefix Lib.hasPrefix
  by_cases h : rootW.isPrefixOf t = true
  · rw [if_pos h, if_pos h, if_pos h]; rfl
  · rw [if_neg h, if_neg h]
theorem trim_len (t p : Bs) : (Lib.trimPrefix t p).length ≤ t.length := by
  unfold Lib.trimPrefix
  split
  · simp
  · exact Nat.le_refl _
/-- What Parse gives. -/
def ParseOut (w : World) (r : Except Nat Lock) (e : Ending) (w' : World) : Prop := match r with
  | .error k => e = .returned (.tuple #[.agg #[.string ⟨#[]⟩, .string ⟨#[]⟩, .string ⟨#[]⟩, .slice none 0 0], .int .i64 1, .int .i64 k]) ∧ Below w.heap.size w w'
  | .ok l => ∃ v, e = .returned (.tuple #[.agg #[.string l.root.group, .string l.root.artifact, .string l.root.version, v], .int .i64 0, .int .i64 0]) ∧ SliceOf 6 pinC w' v l.pins ∧ Below w.heap.size w w'
theorem info_pinD : (Tryz.prog.info? 33).map (fun i => (i.zero, i.size, i.bytes)) = some (some (.agg #[.string ⟨#[]⟩, .string ⟨#[]⟩, .string ⟨#[]⟩, .string ⟨#[]⟩, .string ⟨#[]⟩, .int .i64 0]), 6, 88) := by kernel_rfl
theorem cat_bs (a b : Bs) : bs a ++ bs b = bs (a ++ b) := bs_append a b
theorem own_neD {α : Type} {base E n b : Nat} {C : α → List Value} {w : World} {v : Value} {l : List α} (h : Owns base E n C w v l) (hb : b < base) : some b ≠ v.ownBlock := fun e => by
  have := (h.lt b e.symm).1; omega
theorem own_belowD {α : Type} {B : Nat} {w2 w8 w9 : World} {E n N : Nat} {C : α → List Value} {v : Value} {l : List α} (h : Below B w2 w8) (ho : Owns N E n C w8 v l) (hg : w8.grownBy w9 v.ownBlock) (hN : B ≤ N) (hB : B ≤ w8.heap.size) : Below B w2 w9 :=
  h.trans ⟨hg.os, hg.tape, hg.output, hg.size, fun k hk => hg.block k (Nat.lt_of_lt_of_le hk hB) fun e => by have := (ho.lt k e.symm).1; omega⟩
theorem pinLitD (w : World) (p : Pin) (H : Nat) (hH : w.heap.size = H) : SliceOf 6 pinC (w.alloc (.cells #[.string p.key.group, .string p.key.artifact, .string p.key.type, .string p.key.classifier, .string p.version, .int .i64 p.scope] 33)) (.slice (some ⟨H, 0, none⟩) 1 1) [p] :=
  sliceLit pinC_len w [p] _ H 1 hH rfl (by show 1 ≤ maxLen; decide)
theorem str_neD {a b : S} (h : a ≠ b) : (a.toList == b.toList) = false := by
  rw [beq_eq_false_iff_ne]
  intro e
  rw [ByteArray.toList_eq, ByteArray.toList_eq] at e
  exact h (by rw [← data_bs a, ← data_bs b, e])
theorem box_int {w : World} {b : Nat} {x y : Int} (h : Box w b [.int .i64 x]) (e : x = y) : Box w b [.int .i64 y] := by rw [← e]; exact h
theorem lines_only {q : Bool} {r : Bs} {L : List Bs} (h : LinesOf q r L) : L = [[]] ↔ (q = true ∧ r = []) := by
  unfold LinesOf at h
  cases q
  · simp only [Bool.false_eq_true, if_false] at h
    rw [h.1]; simp
  · simp only [if_true] at h
    constructor
    · intro e
      refine ⟨rfl, ?_⟩
      have := glued_pieces 10 r
      rw [h, e] at this
      exact this.symm
    · rintro ⟨-, e⟩
      rw [← h, e]; rfl
theorem nextOk_empty (p : Pin) : nextOk [] p = true := rfl
theorem nextOk_last {acc : List Pin} {j : Nat} (h : acc.length = j + 1) (p : Pin) : nextOk acc p = decide (cmpK (acc[j]'(by omega)).key p.key = -1) := by
  have h1 : acc.getLast? = some (acc[j]'(by omega)) := by rw [List.getLast?_eq_getElem?]; simp [h]
  unfold nextOk
  rw [h1]
/-- How long the text in a variable is. -/
def strAt (w : World) (b : Nat) : Nat := match w.cell? ⟨b, 0, none⟩ with
  | some (.string s) => s.size
  | _ => 0
theorem strAt_box {w : World} {b : Nat} {s : S} (h : Box w b [.string s]) : strAt w b = s.size := by unfold strAt; rw [h.cell 0 _ rfl]
set_option maxRecDepth 100000 in
set_option maxHeartbeats 16000000 in
theorem parse_any (s : S) (m : Int) (w : World) (hs : s.size ≤ 100000) (hm : w.cell? ⟨0, 0, none⟩ = some (.int .i64 m)) : Calls Tryz.prog 10 #[.string s] w (ParseOut w (parseB s.data.toList)) := by
  have hw0 : 0 < w.heap.size := World.block_lt_of_cell? w _ hm
  have HM := Lib.hid hm
  have HS := Lib.hid hs
  clear hm hs
  go_enter Tryz.func10, Tryz.ntmps10
  go_upto_region 1 with fail
  refine wp_world ?_
  intro W1 hW1
  have x0 : Box W1 w.heap.size [.string ⟨#[]⟩, .string ⟨#[]⟩, .string ⟨#[]⟩, .slice none 0 0] := by rw [hW1]; exact Box.new w [.string ⟨#[]⟩, .string ⟨#[]⟩, .string ⟨#[]⟩, .slice none 0 0] _ _ rfl
  have hb1 : Below w.heap.size w W1 := by rw [hW1]; exact (Below.refl _ w).alloc (Nat.le_refl _) _
  clear hW1
  go_upto_region 2 with fail
  refine wp_world ?_
  intro W2 hW2
  have x1 : Box W2 W1.heap.size [.string ⟨#[]⟩, .string ⟨#[]⟩, .string ⟨#[]⟩, .slice none 0 0] := by rw [hW2]; exact (Box.new W1 [.string ⟨#[]⟩, .string ⟨#[]⟩, .string ⟨#[]⟩, .slice none 0 0] _ _ rfl).alloc _
  have xa : Box W2 (W1.heap.size + 1) [.int .i64 0] := by rw [hW2]; exact Box.new _ [.int .i64 0] _ _ (by simp)
  have hb2 : Below W1.heap.size W1 W2 := by rw [hW2]; exact ((Below.refl _ W1).alloc (Nat.le_refl _) _).alloc (by simp) _
  clear hW2
  go_upto_region 3 with fail
  refine wp_world ?_
  intro W3 hW3
  have xr : Box W3 W2.heap.size [.string s] := by rw [hW3]; exact (Box.new W2 [.string s] _ _ rfl).alloc _
  have xw : Box W3 (W2.heap.size + 1) [.bool true] := by rw [hW3]; exact Box.new _ [.bool true] _ _ (by simp)
  have hb3 : Below W2.heap.size W2 W3 := by rw [hW3]; exact ((Below.refl _ W2).alloc (Nat.le_refl _) _).alloc (by simp) _
  clear hW3
  have l0 := x0.lt
  have l1 := xa.lt
  have l3 := xw.lt
  have X0 := Lib.hid ((x0.below hb2 l0).below hb3 (Nat.lt_of_lt_of_le l0 hb2.size))
  have X1 := Lib.hid (x1.below hb3 x1.lt)
  have XA := Lib.hid (xa.below hb3 l1)
  have XR := Lib.hid xr
  have XW := Lib.hid xw
  have HB := Lib.hid ((hb1.trans (hb2.mono hb1.size)).trans (hb3.mono (Nat.le_trans hb1.size hb2.size)))
  clear x0 x1 xa xr xw hb1 hb2 hb3
  generalize hA1 : W1.heap.size = A1 at *
  generalize hA : A1 + 1 = A at *
  generalize hR : W2.heap.size = R at *
  generalize hW : R + 1 = W at *
  have n01 : w.heap.size < A1 := l0
  have n1A : A1 < A := by omega
  have nAR : A < R := l1
  have nRW : R < W := by omega
  clear hA1 hA hR hW l0 l1
  go_upto_region 5 with fail
  have HLL : Hid (LinesOf true s.data.toList (piecesB 10 s.data.toList)) := rfl
  have HT : Hid (parseB s.data.toList = parseL (piecesB 10 s.data.toList)) := parseB_L _
  generalize piecesB 10 s.data.toList = L at *
  have HM3 : Hid (W3.cell? ⟨0, 0, none⟩ = some (.int .i64 m)) := (HB.out.cell (p := ⟨0, 0, none⟩) (by exact hw0)).trans HM.out
  have HN := Lib.hid (next_any A R W 0 m s true L W3 (by have := HS.out; omega) HM3.out (by omega) (by omega) XA.out XR.out XW.out (by omega) (by omega) (by omega) (by omega) HLL.out)
  go_wp2_with fail
  refine HN.out.mono ?_
  rintro e w4 ⟨hK, hA4, hN⟩
  have X04 := Lib.hid (hK.box X0.out (by omega) (by omega) (by omega))
  have X14 := Lib.hid (hK.box X1.out (by omega) (by omega) (by omega))
  have HB4 := Lib.hid (HB.out.trans (hK.below (B := w.heap.size) (by omega) (by omega) (by omega)))
  have XA4 : Hid (Box w4 A [.int .i64 1]) := hA4
  have HS4 : Hid (w4.heap.size = W3.heap.size) := hK.size
  clear hK hA4 HN X0 X1 XA XR XW HB HLL HM3
  rcases hN with ⟨hr0, hL0, rfl, hRx, hWx⟩ | ⟨t, L1, r1, q1, rfl, hne1, rfl, hRx, hWx, hsz1, hts1, hL1, hlt1⟩
  · have HE : Hid (parseB s.data.toList = .error 1) := by show _ = _; rw [HT.out, parseL_none hL0]
    clear hr0 hL0 hRx hWx
    have HWR := Lib.hid (fun V h => wrong_any A (1) V h)
    go_wp2_with fail
    refine (HWR.out _ XA4.out).mono ?_
    rintro e w9 ⟨rfl, hb9⟩
    have X9 := Lib.hid (X04.out.below hb9 X04.out.lt)
    have HB9 := Lib.hid (HB4.out.trans (hb9.mono HB4.out.size))
    clear hb9 HWR
    have u0 := X9.out.free 0
    have z0 := X9.out.cell 0 _ rfl
    have u1 := X9.out.free 1
    have z1 := X9.out.cell 1 _ rfl
    have u2 := X9.out.free 2
    have z2 := X9.out.cell 2 _ rfl
    have u3 := X9.out.free 3
    have z3 := X9.out.cell 3 _ rfl
    have lz := X9.out.lt
    go_wp2
    refine bodyPost_ret (v := .tuple #[.agg #[.string ⟨#[]⟩, .string ⟨#[]⟩, .string ⟨#[]⟩, .slice none 0 0], .int .i64 1, .int .i64 (1)]) (by simp [results, Tryz.results10, go_sem, z0, z1, z2, z3]) rfl ?_
    rw [HE.out]
    exact ⟨rfl, (((HB9.out.setCell (by simp) _).setCell (by simp) _).setCell (by simp) _).setCell (by simp) _⟩
  · have XR4 := Lib.hid hRx
    have XW4 := Lib.hid hWx
    have HL1 := Lib.hid hL1
    have HSZ1 := Lib.hid hsz1
    have HLT1 := Lib.hid hlt1
    have HTS1 := Lib.hid hts1
    have HNE1 := Lib.hid hne1
    clear hRx hWx hL1 hsz1 hlt1 hts1 hne1
    by_cases ht : t = headB
    rotate_left
    · have HE : Hid (parseB s.data.toList = .error 1) := by show _ = _; rw [HT.out]; show (if _ then _ else _) = _; rw [if_neg ht]
      have he : ((bs t).toList == [112, 111, 109, 97, 99, 101, 32, 49]) = false := by rw [str_lit, bs_data]; exact decide_eq_false ht
      have he2 : ((bs t).toList != [112, 111, 109, 97, 99, 101, 32, 49]) = true := by rw [bne, he]; rfl
      clear ht HT HL1 HNE1
      generalize bs t = xt at *
      have HWR := Lib.hid (fun V h => wrong_any A (1) V h)
      go_wp2_with fail
      refine (HWR.out _ XA4.out).mono ?_
      rintro e w9 ⟨rfl, hb9⟩
      have X9 := Lib.hid (X04.out.below hb9 X04.out.lt)
      have HB9 := Lib.hid (HB4.out.trans (hb9.mono HB4.out.size))
      clear hb9 HWR
      have u0 := X9.out.free 0
      have z0 := X9.out.cell 0 _ rfl
      have u1 := X9.out.free 1
      have z1 := X9.out.cell 1 _ rfl
      have u2 := X9.out.free 2
      have z2 := X9.out.cell 2 _ rfl
      have u3 := X9.out.free 3
      have z3 := X9.out.cell 3 _ rfl
      have lz := X9.out.lt
      go_wp2
      refine bodyPost_ret (v := .tuple #[.agg #[.string ⟨#[]⟩, .string ⟨#[]⟩, .string ⟨#[]⟩, .slice none 0 0], .int .i64 1, .int .i64 (1)]) (by simp [results, Tryz.results10, go_sem, z0, z1, z2, z3]) rfl ?_
      rw [HE.out]
      exact ⟨rfl, (((HB9.out.setCell (by simp) _).setCell (by simp) _).setCell (by simp) _).setCell (by simp) _⟩
    · have HE : Hid (parseB s.data.toList = parse1 L1) := by show _ = _; rw [HT.out, ht]; rfl
      have he : ((bs t).toList == [112, 111, 109, 97, 99, 101, 32, 49]) = true := by rw [str_lit, bs_data, ht]; rfl
      have he2 : ((bs t).toList != [112, 111, 109, 97, 99, 101, 32, 49]) = false := by rw [bne, he]; rfl
      clear ht HT HNE1
      generalize bs t = xt at *
      have HM4 : Hid (w4.cell? ⟨0, 0, none⟩ = some (.int .i64 m)) := (HB4.out.cell (p := ⟨0, 0, none⟩) (by exact hw0)).trans HM.out
      have HN := Lib.hid (next_any A R W 1 m r1 q1 L1 w4 (by have := HS.out; have := HSZ1.out; omega) HM4.out (by omega) (by omega) XA4.out XR4.out XW4.out (by omega) (by omega) (by omega) (by omega) HL1.out)
      go_wp2_with fail
      refine HN.out.mono ?_
      rintro e w5 ⟨hK, hA4, hN⟩
      have X05 := Lib.hid (hK.box X04.out (by omega) (by omega) (by omega))
      have X15 := Lib.hid (hK.box X14.out (by omega) (by omega) (by omega))
      have HB5 := Lib.hid (HB4.out.trans (hK.below (B := w.heap.size) (by omega) (by omega) (by omega)))
      have XA5 : Hid (Box w5 A [.int .i64 2]) := hA4
      have HS5 : Hid (w5.heap.size = W3.heap.size) := hK.size.trans HS4.out
      clear hK hA4 HN X04 X14 XA4 XR4 XW4 HB4 HM4 HS4
      have HU : ∃ t2 okb r2 q2 L2, e = .returned (.tuple #[.string t2, .bool okb]) ∧ Box w5 R [.string r2] ∧ Box w5 W [.bool q2] ∧ t2.size ≤ s.size ∧ r2.size ≤ s.size ∧ (okb = true → 2 + r2.size ≤ s.size) ∧ LinesOf q2 r2.data.toList L2 ∧
          parseB s.data.toList = if okb then (match rootP t2.data.toList with
            | none => .error 2
            | some g => withG g (pinsGo L2 2 [])) else .error 2 := by
        rcases hN with ⟨hr0, hL0, rfl, hRx, hWx⟩ | ⟨t, L2, r2, q2, rfl, hne2, rfl, hRx, hWx, hsz2, hts2, hL2, hlt2⟩
        · exact ⟨⟨#[]⟩, false, r1, q1, L1, rfl, hRx, hWx, Nat.zero_le _, HSZ1.out, (by simp), HL1.out, by rw [HE.out, parse1_none hL0]; rfl⟩
        · exact ⟨bs t, true, r2, q2, L2, rfl, hRx, hWx, Nat.le_trans hts2 HSZ1.out, Nat.le_trans hsz2 HSZ1.out, (fun _ => by have := HLT1.out; omega), hL2, by rw [HE.out, parse1_some hne2, bs_data, if_pos rfl]⟩
      clear hN HE HL1 HSZ1 HLT1 HTS1 he he2
      obtain ⟨t2, okb, r2, q2, L2, rfl, hR5, hW5, hts, hrs, hrn, hl2, hpe⟩ := HU
      have XR5 := Lib.hid hR5
      have XW5 := Lib.hid hW5
      have HTS := Lib.hid hts
      have HRS := Lib.hid hrs
      have HRN := Lib.hid hrn
      have HL2 := Lib.hid hl2
      have HE := Lib.hid hpe
      clear hR5 hW5 hts hrs hrn hl2 hpe
      have HCP := Lib.hid (Tryz.strings_CutPrefix t2 ⟨#[114, 111, 111, 116, 32]⟩ w5)
      rw [show (ByteArray.mk #[114, 111, 111, 116, 32]).data.toList = rootW from rfl] at HCP
      have HTL : Hid ((bs (Lib.trimPrefix t2.data.toList rootW)).size ≤ 1000000) := by
        show _ ≤ _
        rw [bs_size]
        have h1 := trim_len t2.data.toList rootW
        have h2 := size_data t2
        have h3 := HTS.out
        have h4 := HS.out
        omega
      have HM5 : Hid (w5.cell? ⟨0, 0, none⟩ = some (.int .i64 m)) := (HB5.out.cell (p := ⟨0, 0, none⟩) (by exact hw0)).trans HM.out
      have HPG := Lib.hid (parseGav_any (bs (Lib.trimPrefix t2.data.toList rootW)) m w5 HTL.out HM5.out)
      rw [bs_data] at HPG
      simp only [rootP_trim] at HE
      obtain ⟨G, hG⟩ : ∃ G, G = gavP (Lib.trimPrefix t2.data.toList rootW) := ⟨_, rfl⟩
      rw [← hG] at HE HPG
      clear hG HTL HM5
      have HCP := Lib.hid (show Calls _ _ _ _ fun e w' => e = .returned (.tuple #[.string (bs (Lib.trimPrefix t2.data.toList rootW)), .bool (Lib.hasPrefix t2.data.toList rootW)]) ∧ w' = w5 from HCP.out)
      generalize bs (Lib.trimPrefix t2.data.toList rootW) = tp at *
      generalize Lib.hasPrefix t2.data.toList rootW = pf at *
      go_wp2_with fail
      refine HCP.out.mono ?_
      rintro e w5' ⟨rfl, rfl⟩
      go_wp2_with fail
      refine HPG.out.mono ?_
      rintro e w6 ⟨rfl, hb6⟩
      have X06 := Lib.hid (X05.out.below hb6 X05.out.lt)
      have X16 := Lib.hid (X15.out.below hb6 X15.out.lt)
      have XA6 := Lib.hid (XA5.out.below hb6 XA5.out.lt)
      have XR6 := Lib.hid (XR5.out.below hb6 XR5.out.lt)
      have XW6 := Lib.hid (XW5.out.below hb6 XW5.out.lt)
      have HB6 := Lib.hid (HB5.out.trans (hb6.mono HB5.out.size))
      clear hb6 X05 X15 XA5 XR5 XW5 HB5 HCP HPG HS5
      obtain ⟨e1, he1⟩ : ∃ x : Int, x = if G.isSome then 0 else 1 := ⟨_, rfl⟩
      have HE1 := Lib.hid he1
      rw [← he1]
      clear he1
      obtain ⟨g, hg⟩ : ∃ x, x = G.getD noGav := ⟨_, rfl⟩
      have HG := Lib.hid hg
      rw [← hg]
      clear hg
      go_upto_region 11 with fail
      refine wp_world ?_
      intro W7 hW7
      have xg : Box W7 w6.heap.size [.string g.group, .string g.artifact, .string g.version] := by rw [hW7]; exact Box.new w6 [.string g.group, .string g.artifact, .string g.version] _ _ rfl
      have hb7 : Below w6.heap.size w6 W7 := by rw [hW7]; exact (Below.refl _ w6).alloc (Nat.le_refl _) _
      clear hW7
      have X07 := Lib.hid (X06.out.below hb7 X06.out.lt)
      have X17 := Lib.hid (X16.out.below hb7 X16.out.lt)
      have XA7 := Lib.hid (XA6.out.below hb7 XA6.out.lt)
      have XR7 := Lib.hid (XR6.out.below hb7 XR6.out.lt)
      have XW7 := Lib.hid (XW6.out.below hb7 XW6.out.lt)
      have HB7 := Lib.hid (HB6.out.trans (hb7.mono HB6.out.size))
      have XG := Lib.hid xg
      have nWG : W < w6.heap.size := XW6.out.lt
      clear hb7 xg X06 X16 XA6 XR6 XW6 HB6
      generalize w6.heap.size = bG at *
      cases okb with
      | false =>
        have HE2 : Hid (parseB s.data.toList = .error 2) := HE.out
        have HWR := Lib.hid (fun V h => wrong_any A (2) V h)
        go_wp2_with fail
        refine (HWR.out _ XA7.out).mono ?_
        rintro e w9 ⟨rfl, hb9⟩
        have X9 := Lib.hid (X07.out.below hb9 X07.out.lt)
        have HB9 := Lib.hid (HB7.out.trans (hb9.mono HB7.out.size))
        clear hb9 HWR
        have u0 := X9.out.free 0
        have z0 := X9.out.cell 0 _ rfl
        have u1 := X9.out.free 1
        have z1 := X9.out.cell 1 _ rfl
        have u2 := X9.out.free 2
        have z2 := X9.out.cell 2 _ rfl
        have u3 := X9.out.free 3
        have z3 := X9.out.cell 3 _ rfl
        have lz := X9.out.lt
        go_wp2
        refine bodyPost_ret (v := .tuple #[.agg #[.string ⟨#[]⟩, .string ⟨#[]⟩, .string ⟨#[]⟩, .slice none 0 0], .int .i64 1, .int .i64 (2)]) (by simp [results, Tryz.results10, go_sem, z0, z1, z2, z3]) rfl ?_
        rw [HE2.out]
        exact ⟨rfl, (((HB9.out.setCell (by simp) _).setCell (by simp) _).setCell (by simp) _).setCell (by simp) _⟩
      | true =>
        cases pf with
        | false =>
          have HE2 : Hid (parseB s.data.toList = .error 2) := HE.out
          have HWR := Lib.hid (fun V h => wrong_any A (2) V h)
          go_wp2_with fail
          refine (HWR.out _ XA7.out).mono ?_
          rintro e w9 ⟨rfl, hb9⟩
          have X9 := Lib.hid (X07.out.below hb9 X07.out.lt)
          have HB9 := Lib.hid (HB7.out.trans (hb9.mono HB7.out.size))
          clear hb9 HWR
          have u0 := X9.out.free 0
          have z0 := X9.out.cell 0 _ rfl
          have u1 := X9.out.free 1
          have z1 := X9.out.cell 1 _ rfl
          have u2 := X9.out.free 2
          have z2 := X9.out.cell 2 _ rfl
          have u3 := X9.out.free 3
          have z3 := X9.out.cell 3 _ rfl
          have lz := X9.out.lt
          go_wp2
          refine bodyPost_ret (v := .tuple #[.agg #[.string ⟨#[]⟩, .string ⟨#[]⟩, .string ⟨#[]⟩, .slice none 0 0], .int .i64 1, .int .i64 (2)]) (by simp [results, Tryz.results10, go_sem, z0, z1, z2, z3]) rfl ?_
          rw [HE2.out]
          exact ⟨rfl, (((HB9.out.setCell (by simp) _).setCell (by simp) _).setCell (by simp) _).setCell (by simp) _⟩
        | true =>
          cases G with
          | none =>
            obtain rfl : e1 = 1 := HE1.out
            have HE2 : Hid (parseB s.data.toList = .error 2) := HE.out
            have HWR := Lib.hid (fun V h => wrong_any A (2) V h)
            go_wp2_with fail
            refine (HWR.out _ XA7.out).mono ?_
            rintro e w9 ⟨rfl, hb9⟩
            have X9 := Lib.hid (X07.out.below hb9 X07.out.lt)
            have HB9 := Lib.hid (HB7.out.trans (hb9.mono HB7.out.size))
            clear hb9 HWR
            have u0 := X9.out.free 0
            have z0 := X9.out.cell 0 _ rfl
            have u1 := X9.out.free 1
            have z1 := X9.out.cell 1 _ rfl
            have u2 := X9.out.free 2
            have z2 := X9.out.cell 2 _ rfl
            have u3 := X9.out.free 3
            have z3 := X9.out.cell 3 _ rfl
            have lz := X9.out.lt
            go_wp2
            refine bodyPost_ret (v := .tuple #[.agg #[.string ⟨#[]⟩, .string ⟨#[]⟩, .string ⟨#[]⟩, .slice none 0 0], .int .i64 1, .int .i64 (2)]) (by simp [results, Tryz.results10, go_sem, z0, z1, z2, z3]) rfl ?_
            rw [HE2.out]
            exact ⟨rfl, (((HB9.out.setCell (by simp) _).setCell (by simp) _).setCell (by simp) _).setCell (by simp) _⟩
          | some g' =>
            obtain rfl : e1 = 0 := HE1.out
            obtain rfl : g = g' := HG.out
            have HT : Hid (parseB s.data.toList = withG g (pinsGo L2 2 [])) := HE.out
            have HRZ := Lib.hid (HRN.out rfl)
            clear HE HE1 HG HRN HRS HTS
            have v0 := X17.out.free 0
            have v1 := X17.out.free 1
            have v2 := X17.out.free 2
            have c0 := X17.out.cell 0 _ rfl
            have c1 := X17.out.cell 1 _ rfl
            have c2 := X17.out.cell 2 _ rfl
            have lv := X17.out.lt
            have g0 := XG.out.cell 0 _ rfl
            have g1 := XG.out.cell 1 _ rfl
            have g2 := XG.out.cell 2 _ rfl
            have gl := XG.out.lt
            go_upto_region 14 with fail
            refine wp_world ?_
            intro W8 hW8
            have X18 : Hid (Box W8 A1 [.string g.group, .string g.artifact, .string g.version, .slice none 0 0]) := by show Box _ _ _; rw [hW8]; exact ((X17.out.set 0 (.string g.group)).set 1 (.string g.artifact)).set 2 (.string g.version)
            have hk8 : Kx W7 W8 A1 A1 A1 := by rw [hW8]; exact (((Kx.refl _ _ _ _).set (.inl rfl) _).set (.inl rfl) _).set (.inl rfl) _
            clear hW8 v0 v1 v2 c0 c1 c2 lv g0 g1 g2 gl
            have X08 := Lib.hid (hk8.box X07.out (by omega) (by omega) (by omega))
            have XA8 := Lib.hid (hk8.box XA7.out (by omega) (by omega) (by omega))
            have XR8 := Lib.hid (hk8.box XR7.out (by omega) (by omega) (by omega))
            have XW8 := Lib.hid (hk8.box XW7.out (by omega) (by omega) (by omega))
            have HB8 := Lib.hid (HB7.out.trans (hk8.below (B := w.heap.size) (by omega) (by omega) (by omega)))
            clear hk8 X07 X17 XA7 XR7 XW7 HB7 XG nWG l3
            obtain ⟨N3, hN3⟩ : ∃ n, n = W8.heap.size := ⟨_, rfl⟩
            have nWN : W < N3 := by rw [hN3]; exact XW8.out.lt
            have HN3 := Lib.hid (Nat.le_of_eq hN3)
            clear hN3
            have HS' : Hid (2 + r2.size ≤ s.size) := HRZ.out
            clear HRZ
            go_loopw [] (fun wr => ∃ (i : Nat) (acc : List Pin) (q : Bool) (r : S) (L : List Bs) (v : Value), Box wr A [.int .i64 i] ∧ Box wr R [.string r] ∧ Box wr W [.bool q] ∧ Box wr A1 [.string g.group, .string g.artifact, .string g.version, v] ∧ Box wr w.heap.size [.string ⟨#[]⟩, .string ⟨#[]⟩, .string ⟨#[]⟩, .slice none 0 0] ∧ Owns N3 33 6 pinC wr v acc ∧ Below w.heap.size w wr ∧ N3 ≤ wr.heap.size ∧ LinesOf q r.data.toList L ∧ Hid (parseB s.data.toList = withG g (pinsGo L i acc)) ∧ i + r.size ≤ s.size ∧ acc.length ≤ i) (fun wr => strAt wr R)
            case atStart => exact ⟨2, [], q2, r2, L2, .slice none 0 0, XA8.out, XR8.out, XW8.out, X18.out, X08.out, Owns.nil, HB8.out, HN3.out, HL2.out, HT, HS'.out, by simp⟩
            case round =>
              obtain ⟨i, acc, q, r, L, v, hA, hR, hW, hX1, hX0, hO, hB, hN, hL, HTr, hir, hai⟩ := hrel
              obtain ⟨ao, cap, rfl⟩ := hO.shape
              have hb : i + r.size ≤ 100000 := by have := HS.out; omega
              have HMr : Hid (wr.cell? ⟨0, 0, none⟩ = some (.int .i64 m)) := (hB.cell (p := ⟨0, 0, none⟩) (by exact hw0)).trans HM.out
              have HN := Lib.hid (next_any A R W i m r q L wr (by omega) HMr.out (by omega) (by omega) hA hR hW (by omega) (by omega) (by omega) (by omega) hL)
              have XA := Lib.hid hA
              have XR := Lib.hid hR
              have XW := Lib.hid hW
              have X1 := Lib.hid hX1
              have X0 := Lib.hid hX0
              have HO := Lib.hid hO
              have HB := Lib.hid hB
              have HIR := Lib.hid hir
              have HAI := Lib.hid hai
              have HBD := Lib.hid hb
              clear hA hR hW hX1 hX0 hO hB hL hir hai hb HMr
              go_wp2_with fail
              refine HN.out.mono ?_
              rintro e wx ⟨hK, hAx, hNx⟩
              have X0x := Lib.hid (hK.box X0.out (by omega) (by omega) (by omega))
              have X1x := Lib.hid (hK.box X1.out (by omega) (by omega) (by omega))
              have HOx := Lib.hid (hK.owns HO.out (by omega) (by omega) (by omega))
              have HBx := Lib.hid (HB.out.trans (hK.below (B := w.heap.size) (by omega) (by omega) (by omega)))
              have HNx : N3 ≤ wx.heap.size := by rw [hK.size]; exact hN
              have XAx := Lib.hid hAx
              have HSA : Hid (strAt wr R = r.size) := strAt_box XR.out
              clear hK hAx HN XA XR XW X1 X0 HO HB hN
              rcases hNx with ⟨hr0, hL0, rfl, hRx, hWx⟩ | ⟨t, L', r', q', rfl, hne, rfl, hRx, hWx, hsz, hts, hL', hlt⟩
              · have HE : Hid (parseB s.data.toList = .error (i + 1)) := by show _ = _; rw [HTr.out, pinsGo_none hL0]; rfl
                clear hr0 hL0 hRx hWx
                have HWR := Lib.hid (fun V h => wrong_any A ((i : Int) + 1) V h)
                go_wp2_with fail
                refine (HWR.out _ XAx.out).mono ?_
                rintro e w9 ⟨rfl, hb9⟩
                have X9 := Lib.hid (X0x.out.below hb9 X0x.out.lt)
                have HB9 := Lib.hid (HBx.out.trans (hb9.mono HBx.out.size))
                clear hb9 HWR
                have u0 := X9.out.free 0
                have z0 := X9.out.cell 0 _ rfl
                have u1 := X9.out.free 1
                have z1 := X9.out.cell 1 _ rfl
                have u2 := X9.out.free 2
                have z2 := X9.out.cell 2 _ rfl
                have u3 := X9.out.free 3
                have z3 := X9.out.cell 3 _ rfl
                have lz := X9.out.lt
                go_wp2
                refine bodyPost_ret (v := .tuple #[.agg #[.string ⟨#[]⟩, .string ⟨#[]⟩, .string ⟨#[]⟩, .slice none 0 0], .int .i64 1, .int .i64 ((i : Int) + 1)]) (by simp [results, Tryz.results10, go_sem, z0, z1, z2, z3]) rfl ?_
                rw [HE.out]
                exact ⟨rfl, (((HB9.out.setCell (by simp) _).setCell (by simp) _).setCell (by simp) _).setCell (by simp) _⟩
              · have XRx := Lib.hid hRx
                have XWx := Lib.hid hWx
                have HLx := Lib.hid hL'
                have HLT := Lib.hid hlt
                have HNE := Lib.hid hne
                have HTZ : Hid ((bs t).size ≤ 1000000) := by have := HBD.out; show _ ≤ _; omega
                have c3 := X1x.out.cell 3 _ rfl
                have v3 := X1x.out.free 3
                have lv := X1x.out.lt
                clear hRx hWx hsz hts hL' hlt hne
                have HNU := Lib.hid (fun V => number_any acc.length V (by have := HAI.out; have := HBD.out; omega))
                have HNZ : Hid ((bs (numB acc.length)).size ≤ 100) := by
                  have h1 := numB_len 7 acc.length (by have := HAI.out; have := HBD.out; omega)
                  show _ ≤ _
                  rw [bs_size]; omega
                have hsum : ¬ 9223372036854775807 < 4 + (bs (numB acc.length)).size := by have := HNZ.out; omega
                have HQ : Hid ((bs t = ⟨#[101, 110, 100, 32]⟩ ++ bs (numB acc.length)) ↔ t = endB acc.length) := by
                  show _ ↔ _
                  rw [show (⟨#[101, 110, 100, 32]⟩ : S) = bs [101, 110, 100, 32] from rfl, cat_bs]
                  exact ⟨fun h => bs_inj h, fun h => by rw [h]; rfl⟩
                have HDT : Hid ((bs t).data.toList = t) := bs_data t
                generalize hxt : bs t = xt at *
                generalize bs (numB acc.length) = nb at *
                clear hxt
                go_wp2_with fail
                refine (HNU.out _).mono ?_
                rintro e wy ⟨rfl, rfl⟩
                by_cases hte : t = endB acc.length
                · have he : (xt.toList == ((⟨#[101, 110, 100, 32]⟩ : S) ++ nb).toList) = true := by rw [HQ.out.2 hte]; simp
                  have HE : Hid (parseB s.data.toList = withG g (if L' = [[]] then .ok acc else .error (i + 2))) := by show _ = _; rw [HTr.out, pinsGo_end hte]
                  have HLO := Lib.hid (lines_only HLx.out)
                  have d0 := XWx.out.cell 0 _ rfl
                  have d1 := XRx.out.cell 0 _ rfl
                  have a0 := XAx.out.cell 0 _ rfl
                  have a1 := XAx.out.free 0
                  have al := XAx.out.lt
                  clear hte HQ HLx
                  cases q' with
                  | false =>
                    have HE2 : Hid (parseB s.data.toList = .error (i + 2)) := by show _ = _; rw [HE.out, if_neg (fun h => by have := HLO.out.1 h; simp at this)]; rfl
                    clear HE HLO
                    have hbI : (i : Int) ≤ 100000 := by have := HBD.out; omega
                    go_upto_region 25 with fail
                    refine wp_world ?_
                    intro Wa hWa
                    have XAa : Hid (Box Wa A [.int .i64 ((i : Int) + 2)]) := by show Box _ _ _; rw [hWa]; exact box_int (x := (i : Int) + 1 + 1) (XAx.out.set 0 (.int .i64 ((i : Int) + 1 + 1))) (by omega)
                    have X0a : Hid (Box Wa w.heap.size [.string ⟨#[]⟩, .string ⟨#[]⟩, .string ⟨#[]⟩, .slice none 0 0]) := by show Box _ _ _; rw [hWa]; exact X0x.out.grown (setCell_grown wx A 0 _) (by simp; omega)
                    have HBa : Hid (Below w.heap.size w Wa) := by show Below _ _ _; rw [hWa]; exact HBx.out.setCell (p := ⟨A, 0, none⟩) (by show w.heap.size ≤ A; omega) _
                    clear hWa d0 d1 a0 a1 al c3 v3
                    have HWR := Lib.hid (fun V h => wrong_any A ((i : Int) + 2) V h)
                    go_wp2_with fail
                    refine (HWR.out _ XAa.out).mono ?_
                    rintro e w9 ⟨rfl, hb9⟩
                    have X9 := Lib.hid (X0a.out.below hb9 X0a.out.lt)
                    have HB9 := Lib.hid (HBa.out.trans (hb9.mono HBa.out.size))
                    clear hb9 HWR
                    have u0 := X9.out.free 0
                    have z0 := X9.out.cell 0 _ rfl
                    have u1 := X9.out.free 1
                    have z1 := X9.out.cell 1 _ rfl
                    have u2 := X9.out.free 2
                    have z2 := X9.out.cell 2 _ rfl
                    have u3 := X9.out.free 3
                    have z3 := X9.out.cell 3 _ rfl
                    have lz := X9.out.lt
                    go_wp2
                    refine bodyPost_ret (v := .tuple #[.agg #[.string ⟨#[]⟩, .string ⟨#[]⟩, .string ⟨#[]⟩, .slice none 0 0], .int .i64 1, .int .i64 ((i : Int) + 2)]) (by simp [results, Tryz.results10, go_sem, z0, z1, z2, z3]) rfl ?_
                    rw [HE2.out]
                    exact ⟨rfl, (((HB9.out.setCell (by simp) _).setCell (by simp) _).setCell (by simp) _).setCell (by simp) _⟩
                  | true =>
                    by_cases hr0 : r'.data.toList = []
                    · have he3 : (r'.toList == []) = true := by rw [str_lit, hr0]; rfl
                      have he4 : (r'.toList != []) = false := by rw [bne, he3]; rfl
                      have HE2 : Hid (parseB s.data.toList = .ok ⟨g, acc⟩) := by show _ = _; rw [HE.out, if_pos (HLO.out.2 ⟨rfl, hr0⟩)]; rfl
                      have HSO := Lib.hid (HOx.out.slice pinC_len)
                      clear HE HLO hr0
                      have c0 := X1x.out.cell 0 _ rfl
                      have c1 := X1x.out.cell 1 _ rfl
                      have c2 := X1x.out.cell 2 _ rfl
                      have u0 := X0x.out.free 0
                      have z0 := X0x.out.cell 0 _ rfl
                      have u1 := X0x.out.free 1
                      have z1 := X0x.out.cell 1 _ rfl
                      have u2 := X0x.out.free 2
                      have z2 := X0x.out.cell 2 _ rfl
                      have u3 := X0x.out.free 3
                      have z3 := X0x.out.cell 3 _ rfl
                      have lz := X0x.out.lt
                      have HX0 := Lib.hid (X0x.out)
                      clear v3
                      go_wp2
                      refine bodyPost_ret (v := .tuple #[.agg #[.string g.group, .string g.artifact, .string g.version, .slice ao acc.length cap], .int .i64 0, .int .i64 0]) (by simp [results, Tryz.results10, go_sem, z0, z1, z2, z3]) rfl ?_
                      rw [HE2.out]
                      have hbz : Below wx.heap.size wx wx := Below.refl _ _
                      refine ⟨_, rfl, ?_, (((HBx.out.setCell (by simp) _).setCell (by simp) _).setCell (by simp) _).setCell (by simp) _⟩
                      exact ((((HOx.out.keptR (setCell_grown _ _ _ _) (by omega)).keptR (setCell_grown _ _ _ _) (by omega)).keptR (setCell_grown _ _ _ _) (by omega)).keptR (setCell_grown _ _ _ _) (by omega)).slice pinC_len
                    · have he3 : (r'.toList == []) = false := by rw [str_lit]; exact decide_eq_false hr0
                      have he4 : (r'.toList != []) = true := by rw [bne, he3]; rfl
                      have HE2 : Hid (parseB s.data.toList = .error (i + 2)) := by show _ = _; rw [HE.out, if_neg (fun h => hr0 (HLO.out.1 h).2)]; rfl
                      clear HE HLO hr0
                      have hbI : (i : Int) ≤ 100000 := by have := HBD.out; omega
                      go_upto_region 25 with fail
                      refine wp_world ?_
                      intro Wa hWa
                      have XAa : Hid (Box Wa A [.int .i64 ((i : Int) + 2)]) := by show Box _ _ _; rw [hWa]; exact box_int (x := (i : Int) + 1 + 1) (XAx.out.set 0 (.int .i64 ((i : Int) + 1 + 1))) (by omega)
                      have X0a : Hid (Box Wa w.heap.size [.string ⟨#[]⟩, .string ⟨#[]⟩, .string ⟨#[]⟩, .slice none 0 0]) := by show Box _ _ _; rw [hWa]; exact X0x.out.grown (setCell_grown wx A 0 _) (by simp; omega)
                      have HBa : Hid (Below w.heap.size w Wa) := by show Below _ _ _; rw [hWa]; exact HBx.out.setCell (p := ⟨A, 0, none⟩) (by show w.heap.size ≤ A; omega) _
                      clear hWa d0 d1 a0 a1 al c3 v3
                      have HWR := Lib.hid (fun V h => wrong_any A ((i : Int) + 2) V h)
                      go_wp2_with fail
                      refine (HWR.out _ XAa.out).mono ?_
                      rintro e w9 ⟨rfl, hb9⟩
                      have X9 := Lib.hid (X0a.out.below hb9 X0a.out.lt)
                      have HB9 := Lib.hid (HBa.out.trans (hb9.mono HBa.out.size))
                      clear hb9 HWR
                      have u0 := X9.out.free 0
                      have z0 := X9.out.cell 0 _ rfl
                      have u1 := X9.out.free 1
                      have z1 := X9.out.cell 1 _ rfl
                      have u2 := X9.out.free 2
                      have z2 := X9.out.cell 2 _ rfl
                      have u3 := X9.out.free 3
                      have z3 := X9.out.cell 3 _ rfl
                      have lz := X9.out.lt
                      go_wp2
                      refine bodyPost_ret (v := .tuple #[.agg #[.string ⟨#[]⟩, .string ⟨#[]⟩, .string ⟨#[]⟩, .slice none 0 0], .int .i64 1, .int .i64 ((i : Int) + 2)]) (by simp [results, Tryz.results10, go_sem, z0, z1, z2, z3]) rfl ?_
                      rw [HE2.out]
                      exact ⟨rfl, (((HB9.out.setCell (by simp) _).setCell (by simp) _).setCell (by simp) _).setCell (by simp) _⟩
                · have he : (xt.toList == ((⟨#[101, 110, 100, 32]⟩ : S) ++ nb).toList) = false := str_neD (fun h => hte (HQ.out.1 h))
                  have HE : Hid (parseB s.data.toList = withG g (match pinP t with
                      | none => .error (i + 1)
                      | some p => if 4096 ≤ acc.length ∨ nextOk acc p = false then .error (i + 1) else pinsGo L' (i + 1) (acc ++ [p]))) := by show _ = _; rw [HTr.out, pinsGo_pin HNE.out hte]
                  have HMx : wx.cell? ⟨0, 0, none⟩ = some (.int .i64 m) := (HBx.out.cell (p := ⟨0, 0, none⟩) (by exact hw0)).trans HM.out
                  have HPN := Lib.hid (pin_any xt m wx HTZ.out HMx)
                  rw [HDT.out] at HPN
                  obtain ⟨P, hP⟩ : ∃ P, P = pinP t := ⟨_, rfl⟩
                  rw [← hP] at HE HPN
                  clear hP hte HQ HTr HMx HNE
                  go_wp2_with fail
                  refine HPN.out.mono ?_
                  rintro e wz ⟨p, rfl, hp, hbz⟩
                  have HP := Lib.hid hp
                  have X0z := Lib.hid (X0x.out.below hbz X0x.out.lt)
                  have X1z := Lib.hid (X1x.out.below hbz X1x.out.lt)
                  have XAz := Lib.hid (XAx.out.below hbz XAx.out.lt)
                  have XRz := Lib.hid (XRx.out.below hbz XRx.out.lt)
                  have XWz := Lib.hid (XWx.out.below hbz XWx.out.lt)
                  have HOz := Lib.hid (HOx.out.below hbz)
                  have HBz := Lib.hid (HBx.out.trans (hbz.mono HBx.out.size))
                  have nz : N3 ≤ wz.heap.size := Nat.le_trans HNx hbz.size
                  clear hp hbz c3 v3 lv he hsum HNU HPN X0x X1x XAx XRx XWx HOx HBx HNx
                  obtain ⟨sm, hsm⟩ : ∃ b, b = P.isSome := ⟨_, rfl⟩
                  rw [← hsm]
                  have HSM := Lib.hid hsm
                  clear hsm
                  go_upto_region 19 with fail
                  refine wp_world ?_
                  intro W9 hW9
                  have xp : Box W9 wz.heap.size [.string p.key.group, .string p.key.artifact, .string p.key.type, .string p.key.classifier, .string p.version, .int .i64 p.scope] := by rw [hW9]; exact Box.new wz [.string p.key.group, .string p.key.artifact, .string p.key.type, .string p.key.classifier, .string p.version, .int .i64 p.scope] _ _ rfl
                  have hb9 : Below wz.heap.size wz W9 := by rw [hW9]; exact (Below.refl _ wz).alloc (Nat.le_refl _) _
                  clear hW9
                  have XP := Lib.hid xp
                  have X09 := Lib.hid (X0z.out.below hb9 X0z.out.lt)
                  have X19 := Lib.hid (X1z.out.below hb9 X1z.out.lt)
                  have XA9 := Lib.hid (XAz.out.below hb9 XAz.out.lt)
                  have XR9 := Lib.hid (XRz.out.below hb9 XRz.out.lt)
                  have XW9 := Lib.hid (XWz.out.below hb9 XWz.out.lt)
                  have HO9 := Lib.hid (HOz.out.below hb9)
                  have HB9 := Lib.hid (HBz.out.trans (hb9.mono HBz.out.size))
                  have n9 : N3 ≤ W9.heap.size := Nat.le_trans nz hb9.size
                  clear xp hb9 X0z X1z XAz XRz XWz HOz HBz
                  generalize wz.heap.size = bP at *
                  have c3 := X19.out.cell 3 _ rfl
                  go_upto_region 20 with fail
                  have hLL := @Later.cells W9
                  have l9 := X19.out.lt
                  have lp := XP.out.lt
                  cases P with
                  | none =>
                    obtain rfl : sm = false := HSM.out
                    have HE2 : Hid (parseB s.data.toList = .error (i + 1)) := HE.out
                    refine region_later (by kernel_rfl) (by kernel_rfl) ?_
                    repeat (go_big_quiet_step ((fail)))
                    refine wpQuiet_nil ?_
                    rintro _ ⟨nx, rfl⟩
                    have X0n := Lib.hid (X09.out.below nx.below X09.out.lt)
                    have X1n := Lib.hid (X19.out.below nx.below X19.out.lt)
                    have XAn := Lib.hid (XA9.out.below nx.below XA9.out.lt)
                    have XRn := Lib.hid (XR9.out.below nx.below XR9.out.lt)
                    have XWn := Lib.hid (XW9.out.below nx.below XW9.out.lt)
                    have XPn := Lib.hid (XP.out.below nx.below XP.out.lt)
                    have HOn := Lib.hid (HO9.out.below nx.below)
                    have HBn := Lib.hid (HB9.out.trans (nx.below.mono HB9.out.size))
                    have nn : N3 ≤ nx.at_.heap.size := Nat.le_trans n9 nx.below.size
                    clear hLL c3 l9 lp 
                    generalize nx.at_ = wn at *
                    have HWR := Lib.hid (fun V h => wrong_any A ((i : Int) + 1) V h)
                    go_wp2_with fail
                    refine (HWR.out _ XAn.out).mono ?_
                    rintro e w9 ⟨rfl, hb9⟩
                    have X9 := Lib.hid (X0n.out.below hb9 X0n.out.lt)
                    have HB9 := Lib.hid (HBn.out.trans (hb9.mono HBn.out.size))
                    clear hb9 HWR
                    have u0 := X9.out.free 0
                    have z0 := X9.out.cell 0 _ rfl
                    have u1 := X9.out.free 1
                    have z1 := X9.out.cell 1 _ rfl
                    have u2 := X9.out.free 2
                    have z2 := X9.out.cell 2 _ rfl
                    have u3 := X9.out.free 3
                    have z3 := X9.out.cell 3 _ rfl
                    have lz := X9.out.lt
                    go_wp2
                    refine bodyPost_ret (v := .tuple #[.agg #[.string ⟨#[]⟩, .string ⟨#[]⟩, .string ⟨#[]⟩, .slice none 0 0], .int .i64 1, .int .i64 ((i : Int) + 1)]) (by simp [results, Tryz.results10, go_sem, z0, z1, z2, z3]) rfl ?_
                    rw [HE2.out]
                    exact ⟨rfl, (((HB9.out.setCell (by simp) _).setCell (by simp) _).setCell (by simp) _).setCell (by simp) _⟩
                  | some p' =>
                    obtain rfl : sm = true := HSM.out
                    obtain rfl : p = p' := HP.out _ rfl
                    by_cases h4 : 4096 ≤ acc.length
                    · have d4 : decide ((4096 : Int) ≤ (acc.length : Int)) = true := decide_eq_true (by omega)
                      have d4N : decide (4096 ≤ acc.length) = true := decide_eq_true h4
                      have HE2 : Hid (parseB s.data.toList = .error (i + 1)) := by show _ = _; rw [HE.out]; simp only; rw [if_pos (.inl h4)]; rfl
                      clear h4
                      refine region_later (by kernel_rfl) (by kernel_rfl) ?_
                      repeat (go_big_quiet_step ((fail)))
                      refine wpQuiet_nil ?_
                      rintro _ ⟨nx, rfl⟩
                      have X0n := Lib.hid (X09.out.below nx.below X09.out.lt)
                      have X1n := Lib.hid (X19.out.below nx.below X19.out.lt)
                      have XAn := Lib.hid (XA9.out.below nx.below XA9.out.lt)
                      have XRn := Lib.hid (XR9.out.below nx.below XR9.out.lt)
                      have XWn := Lib.hid (XW9.out.below nx.below XW9.out.lt)
                      have XPn := Lib.hid (XP.out.below nx.below XP.out.lt)
                      have HOn := Lib.hid (HO9.out.below nx.below)
                      have HBn := Lib.hid (HB9.out.trans (nx.below.mono HB9.out.size))
                      have nn : N3 ≤ nx.at_.heap.size := Nat.le_trans n9 nx.below.size
                      clear hLL c3 l9 lp d4 d4N
                      generalize nx.at_ = wn at *
                      have HWR := Lib.hid (fun V h => wrong_any A ((i : Int) + 1) V h)
                      go_wp2_with fail
                      refine (HWR.out _ XAn.out).mono ?_
                      rintro e w9 ⟨rfl, hb9⟩
                      have X9 := Lib.hid (X0n.out.below hb9 X0n.out.lt)
                      have HB9 := Lib.hid (HBn.out.trans (hb9.mono HBn.out.size))
                      clear hb9 HWR
                      have u0 := X9.out.free 0
                      have z0 := X9.out.cell 0 _ rfl
                      have u1 := X9.out.free 1
                      have z1 := X9.out.cell 1 _ rfl
                      have u2 := X9.out.free 2
                      have z2 := X9.out.cell 2 _ rfl
                      have u3 := X9.out.free 3
                      have z3 := X9.out.cell 3 _ rfl
                      have lz := X9.out.lt
                      go_wp2
                      refine bodyPost_ret (v := .tuple #[.agg #[.string ⟨#[]⟩, .string ⟨#[]⟩, .string ⟨#[]⟩, .slice none 0 0], .int .i64 1, .int .i64 ((i : Int) + 1)]) (by simp [results, Tryz.results10, go_sem, z0, z1, z2, z3]) rfl ?_
                      rw [HE2.out]
                      exact ⟨rfl, (((HB9.out.setCell (by simp) _).setCell (by simp) _).setCell (by simp) _).setCell (by simp) _⟩
                    · have d4 : decide ((4096 : Int) ≤ (acc.length : Int)) = false := decide_eq_false (by omega)
                      have d4N : decide (4096 ≤ acc.length) = false := decide_eq_false h4
                      have H4 := Lib.hid h4
                      clear h4
                      by_cases h0 : acc.length = 0
                      · have d0 : decide ((0 : Int) < (acc.length : Int)) = false := decide_eq_false (by omega)
                        have d0N : decide (0 < acc.length) = false := decide_eq_false (by omega)
                        have HE2 : Hid (parseB s.data.toList = withG g (pinsGo L' (i + 1) (acc ++ [p]))) := by
                          show _ = _
                          rw [HE.out]; simp only
                          rw [if_neg]
                          rintro (h | h)
                          · exact H4.out h
                          · rw [List.eq_nil_of_length_eq_zero h0, nextOk_empty] at h; simp at h
                        clear h0
                        refine region_later (by kernel_rfl) (by kernel_rfl) ?_
                        repeat (go_big_quiet_step ((fail)))
                        refine wpQuiet_nil ?_
                        rintro _ ⟨nx, rfl⟩
                        have X0n := Lib.hid (X09.out.below nx.below X09.out.lt)
                        have X1n := Lib.hid (X19.out.below nx.below X19.out.lt)
                        have XAn := Lib.hid (XA9.out.below nx.below XA9.out.lt)
                        have XRn := Lib.hid (XR9.out.below nx.below XR9.out.lt)
                        have XWn := Lib.hid (XW9.out.below nx.below XW9.out.lt)
                        have XPn := Lib.hid (XP.out.below nx.below XP.out.lt)
                        have HOn := Lib.hid (HO9.out.below nx.below)
                        have HBn := Lib.hid (HB9.out.trans (nx.below.mono HB9.out.size))
                        have nn : N3 ≤ nx.at_.heap.size := Nat.le_trans n9 nx.below.size
                        clear hLL c3 l9 lp d4 d4N d0 d0N
                        generalize nx.at_ = wn at *
                        have c3 := X1n.out.cell 3 _ rfl
                        have k0 := XPn.out.cell 0 _ rfl
                        have k1 := XPn.out.cell 1 _ rfl
                        have k2 := XPn.out.cell 2 _ rfl
                        have k3 := XPn.out.cell 3 _ rfl
                        have k4 := XPn.out.cell 4 _ rfl
                        have k5 := XPn.out.cell 5 _ rfl
                        have lv := X1n.out.lt
                        have lp := XPn.out.lt
                        have HLP := Lib.hid (pinLitD wn p wn.heap.size rfl)
                        go_wp2_with (at_builtin; refine wpList_append_slice _ rfl _ _ 24 rfl N3 33 Tryz.underlying24 info_pinD rfl (by decide) pinC_len (.slice ao acc.length cap) acc rfl (HOn.out.alloc _) _ [p] rfl HLP.out (fun _ _ => pinC_one) (by have h1 := HAI.out; have h2 := HBD.out; simp only [List.length_cons, List.length_nil]; omega) (by decide) (by simp; omega) ?_; intro v9 w9 hown9 hgrow9 hloc9; obtain ⟨ro, rc, rfl⟩ := hown9.shape; have b9 := (X1n.out.alloc _).grown hgrow9 (own_neD HOn.out (by omega)); have c9 := b9.cell 3 _ rfl; have f9 := b9.free 3; have l9 := b9.lt; have X19' := Lib.hid b9; have X09' := Lib.hid ((X0n.out.alloc _).grown hgrow9 (own_neD HOn.out (by omega))); have XA9' := Lib.hid ((XAn.out.alloc _).grown hgrow9 (own_neD HOn.out (by omega))); have XR9' := Lib.hid ((XRn.out.alloc _).grown hgrow9 (own_neD HOn.out (by omega))); have XW9' := Lib.hid ((XWn.out.alloc _).grown hgrow9 (own_neD HOn.out (by omega))); have HO9' : Hid (Owns N3 33 6 pinC w9 (.slice ro (acc.length + 1) rc) (acc ++ [p])) := (by have h := hown9; rw [List.length_append] at h; exact h); have HB9' := Lib.hid (own_belowD (HBn.out.alloc HBn.out.size _) (HOn.out.alloc _) hgrow9 (by omega) (by have := HBn.out.size; simp; omega)); have n9' : N3 ≤ w9.heap.size := (by have := hgrow9.size; simp at this; omega); clear hown9 hgrow9 hloc9 b9)
                        go_roundw
                        case rel => exact ⟨i + 1, acc ++ [p], q', r', L', .slice ro (acc.length + 1) rc, XA9'.out.grown (setCell_grown _ A1 3 _) (by simp; omega), XR9'.out.grown (setCell_grown _ A1 3 _) (by simp; omega), XW9'.out.grown (setCell_grown _ A1 3 _) (by simp; omega), X19'.out.set 3 _, X09'.out.grown (setCell_grown _ A1 3 _) (by simp; omega), HO9'.out.keptR (setCell_grown _ A1 3 _) (by omega), HB9'.out.setCell (p := ⟨A1, 3, none⟩) (by show w.heap.size ≤ A1; omega) _, (by simpa [World.setCell] using n9'), HLx.out, HE2, (by have := HIR.out; have := HLT.out; omega), (by have := HAI.out; simp only [List.length_append, List.length_cons, List.length_nil]; omega)⟩
                        case measure => rw [HSA.out]; rw [strAt_box (XR9'.out.grown (setCell_grown _ A1 3 _) (by simp; omega))]; exact HLT.out
                      · obtain ⟨j, hj⟩ : ∃ j, acc.length = j + 1 := ⟨acc.length - 1, by omega⟩
                        have d0 : decide ((0 : Int) < (acc.length : Int)) = true := decide_eq_true (by omega)
                        have d0N : decide (0 < acc.length) = true := decide_eq_true (by omega)
                        have hjl : j < acc.length := by omega
                        have hjI : (j : Int) < (acc.length : Int) := by omega
                        have wj : IntKind.i64.wrap ((acc.length : Int) - 1) = (j : Int) := by rw [show (acc.length : Int) - 1 = (j : Int) by omega]; exact IntWalk.i64_in _ (by have := HAI.out; have := HBD.out; omega)
                        obtain ⟨bb, oo, hao, hbl, hcell⟩ := (HO9.out.slice pinC_len).at hjl
                        subst hao
                        have q0 : W9.cell? ⟨bb, oo + j * 6, none⟩ = some (.string acc[j].key.group) := by simpa using hcell 0 _ rfl
                        have q1 : W9.cell? ⟨bb, oo + j * 6 + 1, none⟩ = some (.string acc[j].key.artifact) := hcell 1 _ rfl
                        have q2 : W9.cell? ⟨bb, oo + j * 6 + 2, none⟩ = some (.string acc[j].key.type) := hcell 2 _ rfl
                        have q3 : W9.cell? ⟨bb, oo + j * 6 + 3, none⟩ = some (.string acc[j].key.classifier) := hcell 3 _ rfl
                        have HNX : Hid (nextOk acc p = decide (cmpK acc[j].key p.key = -1)) := nextOk_last hj p
                        clear hcell h0 hj
                        generalize acc[j] = lp' at *
                        obtain ⟨c, hc⟩ : ∃ c, c = cmpK lp'.key p.key := ⟨_, rfl⟩
                        have HC := Lib.hid (fun (x : Later W9) => compare_l lp'.key p.key x c hc.symm)
                        rw [← hc] at HNX
                        have hcr : c = -1 ∨ c = 0 ∨ c = 1 := by rw [hc]; exact cmpK_range _ _
                        have HCR := Lib.hid hcr
                        clear hc hcr
                        have k0 := XP.out.cell 0 _ rfl
                        have k1 := XP.out.cell 1 _ rfl
                        have k2 := XP.out.cell 2 _ rfl
                        have k3 := XP.out.cell 3 _ rfl
                        by_cases hc1 : c = -1
                        · have e1 : decide ((0 : Int) ≤ c) = false := by rw [decide_eq_false_iff_not]; omega
                          have HE2 : Hid (parseB s.data.toList = withG g (pinsGo L' (i + 1) (acc ++ [p]))) := by
                            show _ = _
                            rw [HE.out]; simp only
                            rw [if_neg]
                            rintro (h | h)
                            · exact H4.out h
                            · rw [HNX.out, decide_eq_true hc1] at h; simp at h
                          clear hc1
                          refine region_later (by kernel_rfl) (by kernel_rfl) ?_
                          repeat (go_big_quiet_step ((go_at_call 21; exact HC.out _)))
                          refine wpQuiet_nil ?_
                          rintro _ ⟨nx, rfl⟩
                          have X0n := Lib.hid (X09.out.below nx.below X09.out.lt)
                          have X1n := Lib.hid (X19.out.below nx.below X19.out.lt)
                          have XAn := Lib.hid (XA9.out.below nx.below XA9.out.lt)
                          have XRn := Lib.hid (XR9.out.below nx.below XR9.out.lt)
                          have XWn := Lib.hid (XW9.out.below nx.below XW9.out.lt)
                          have XPn := Lib.hid (XP.out.below nx.below XP.out.lt)
                          have HOn := Lib.hid (HO9.out.below nx.below)
                          have HBn := Lib.hid (HB9.out.trans (nx.below.mono HB9.out.size))
                          have nn : N3 ≤ nx.at_.heap.size := Nat.le_trans n9 nx.below.size
                          clear hLL c3 l9 lp d4 d4N d0 d0N hjl hjI wj q0 q1 q2 q3 k0 k1 k2 k3 e1 hbl
                          generalize nx.at_ = wn at *
                          have c3 := X1n.out.cell 3 _ rfl
                          have k0 := XPn.out.cell 0 _ rfl
                          have k1 := XPn.out.cell 1 _ rfl
                          have k2 := XPn.out.cell 2 _ rfl
                          have k3 := XPn.out.cell 3 _ rfl
                          have k4 := XPn.out.cell 4 _ rfl
                          have k5 := XPn.out.cell 5 _ rfl
                          have lv := X1n.out.lt
                          have lp := XPn.out.lt
                          have HLP := Lib.hid (pinLitD wn p wn.heap.size rfl)
                          go_wp2_with (at_builtin; refine wpList_append_slice _ rfl _ _ 24 rfl N3 33 Tryz.underlying24 info_pinD rfl (by decide) pinC_len (.slice (some ⟨bb, oo, none⟩) acc.length cap) acc rfl (HOn.out.alloc _) _ [p] rfl HLP.out (fun _ _ => pinC_one) (by have h1 := HAI.out; have h2 := HBD.out; simp only [List.length_cons, List.length_nil]; omega) (by decide) (by simp; omega) ?_; intro v9 w9 hown9 hgrow9 hloc9; obtain ⟨ro, rc, rfl⟩ := hown9.shape; have b9 := (X1n.out.alloc _).grown hgrow9 (own_neD HOn.out (by omega)); have c9 := b9.cell 3 _ rfl; have f9 := b9.free 3; have l9 := b9.lt; have X19' := Lib.hid b9; have X09' := Lib.hid ((X0n.out.alloc _).grown hgrow9 (own_neD HOn.out (by omega))); have XA9' := Lib.hid ((XAn.out.alloc _).grown hgrow9 (own_neD HOn.out (by omega))); have XR9' := Lib.hid ((XRn.out.alloc _).grown hgrow9 (own_neD HOn.out (by omega))); have XW9' := Lib.hid ((XWn.out.alloc _).grown hgrow9 (own_neD HOn.out (by omega))); have HO9' : Hid (Owns N3 33 6 pinC w9 (.slice ro (acc.length + 1) rc) (acc ++ [p])) := (by have h := hown9; rw [List.length_append] at h; exact h); have HB9' := Lib.hid (own_belowD (HBn.out.alloc HBn.out.size _) (HOn.out.alloc _) hgrow9 (by omega) (by have := HBn.out.size; simp; omega)); have n9' : N3 ≤ w9.heap.size := (by have := hgrow9.size; simp at this; omega); clear hown9 hgrow9 hloc9 b9)
                          go_roundw
                          case rel => exact ⟨i + 1, acc ++ [p], q', r', L', .slice ro (acc.length + 1) rc, XA9'.out.grown (setCell_grown _ A1 3 _) (by simp; omega), XR9'.out.grown (setCell_grown _ A1 3 _) (by simp; omega), XW9'.out.grown (setCell_grown _ A1 3 _) (by simp; omega), X19'.out.set 3 _, X09'.out.grown (setCell_grown _ A1 3 _) (by simp; omega), HO9'.out.keptR (setCell_grown _ A1 3 _) (by omega), HB9'.out.setCell (p := ⟨A1, 3, none⟩) (by show w.heap.size ≤ A1; omega) _, (by simpa [World.setCell] using n9'), HLx.out, HE2, (by have := HIR.out; have := HLT.out; omega), (by have := HAI.out; simp only [List.length_append, List.length_cons, List.length_nil]; omega)⟩
                          case measure => rw [HSA.out]; rw [strAt_box (XR9'.out.grown (setCell_grown _ A1 3 _) (by simp; omega))]; exact HLT.out
                        · have e1 : decide ((0 : Int) ≤ c) = true := by rw [decide_eq_true_iff]; rcases HCR.out with h | h | h <;> omega
                          have HE2 : Hid (parseB s.data.toList = .error (i + 1)) := by
                            show _ = _
                            rw [HE.out]; simp only
                            rw [if_pos (.inr (by rw [HNX.out, decide_eq_false hc1]))]; rfl
                          clear hc1
                          refine region_later (by kernel_rfl) (by kernel_rfl) ?_
                          repeat (go_big_quiet_step ((go_at_call 21; exact HC.out _)))
                          refine wpQuiet_nil ?_
                          rintro _ ⟨nx, rfl⟩
                          have X0n := Lib.hid (X09.out.below nx.below X09.out.lt)
                          have X1n := Lib.hid (X19.out.below nx.below X19.out.lt)
                          have XAn := Lib.hid (XA9.out.below nx.below XA9.out.lt)
                          have XRn := Lib.hid (XR9.out.below nx.below XR9.out.lt)
                          have XWn := Lib.hid (XW9.out.below nx.below XW9.out.lt)
                          have XPn := Lib.hid (XP.out.below nx.below XP.out.lt)
                          have HOn := Lib.hid (HO9.out.below nx.below)
                          have HBn := Lib.hid (HB9.out.trans (nx.below.mono HB9.out.size))
                          have nn : N3 ≤ nx.at_.heap.size := Nat.le_trans n9 nx.below.size
                          clear hLL c3 l9 lp d4 d4N d0 d0N hjl hjI wj q0 q1 q2 q3 k0 k1 k2 k3 e1 hbl
                          generalize nx.at_ = wn at *
                          have HWR := Lib.hid (fun V h => wrong_any A ((i : Int) + 1) V h)
                          go_wp2_with fail
                          refine (HWR.out _ XAn.out).mono ?_
                          rintro e w9 ⟨rfl, hb9⟩
                          have X9 := Lib.hid (X0n.out.below hb9 X0n.out.lt)
                          have HB9 := Lib.hid (HBn.out.trans (hb9.mono HBn.out.size))
                          clear hb9 HWR
                          have u0 := X9.out.free 0
                          have z0 := X9.out.cell 0 _ rfl
                          have u1 := X9.out.free 1
                          have z1 := X9.out.cell 1 _ rfl
                          have u2 := X9.out.free 2
                          have z2 := X9.out.cell 2 _ rfl
                          have u3 := X9.out.free 3
                          have z3 := X9.out.cell 3 _ rfl
                          have lz := X9.out.lt
                          go_wp2
                          refine bodyPost_ret (v := .tuple #[.agg #[.string ⟨#[]⟩, .string ⟨#[]⟩, .string ⟨#[]⟩, .slice none 0 0], .int .i64 1, .int .i64 ((i : Int) + 1)]) (by simp [results, Tryz.results10, go_sem, z0, z1, z2, z3]) rfl ?_
                          rw [HE2.out]
                          exact ⟨rfl, (((HB9.out.setCell (by simp) _).setCell (by simp) _).setCell (by simp) _).setCell (by simp) _⟩

end Go.Proofs.YtopknpainclmgaaGreatDoor
