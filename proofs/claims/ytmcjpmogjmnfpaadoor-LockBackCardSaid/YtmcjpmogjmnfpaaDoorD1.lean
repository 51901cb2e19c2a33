/- Walks: the document's cutting of texts: Lines, Pieces, words; the conditions stand in the theorems. -/
import Derived.Test.YtmcjpmogjmnfpaaDoorD0
import Derived.Test.YtmcjpmogjmnfpaaDoorL4
import Derived.StillTailTactics
import Derived.IntWalk
namespace Go.Proofs.YtmcjpmogjmnfpaaDoor
open Go Go.RowKit

theorem info_str : (Tryd.prog.info? 9).map (fun i => (i.zero, i.size, i.bytes)) = some (some (.string ⟨#[]⟩), 1, 16) := by kernel_rfl
theorem strC_len (s : S) : (strC s).length = 1 := rfl
theorem flat_str (l : List S) : l.flatMap strC = l.map Value.string := by
  induction l with
  | nil => rfl
  | cons a l ih => rw [List.flatMap_cons, List.map_cons, ih]; rfl
theorem Owns.setStr {base : Nat} {E : TypeId} {w : World} {g cap : Nat} {l : List S} (h : Owns base E 1 strC w (.slice (some ⟨g, 0, none⟩) l.length cap) l) (k : Nat) (v : S) :
    Owns base E 1 strC (w.setCell ⟨g, k, none⟩ (.string v)) (.slice (some ⟨g, 0, none⟩) l.length cap) (l.set k v) := by
  unfold Owns at h ⊢
  rw [flat_str] at h ⊢
  rcases h.2 with ⟨h1, -⟩ | ⟨g', cap', cur, h1, hb, hg, hnc, hm, hcs, ht⟩
  · cases h1
  · cases h1
    refine ⟨by simp, .inr ⟨g, cap, cur.setIfInBounds k (.string v), by simp, hb, ?_, by simpa using hnc, hm, by simpa using hcs, ?_⟩⟩
    · exact heap_setCell_same w g k cur E (.string v) hg
    · rw [Array.toList_setIfInBounds, List.length_set, List.take_set, ht, List.map_set]
/-- The pieces of a text, as strings. -/
def piecesS (c : UInt8) (s : Bs) : List S := (piecesB c s).map bs
theorem piecesS_pos (c : UInt8) (s : Bs) : 0 < (piecesS c s).length := by
  obtain ⟨p, ps, h⟩ := piecesB_cons c s
  simp [piecesS, h]
theorem piecesS_snoc (c : UInt8) (s : Bs) : piecesS c (s ++ [c]) = piecesS c s ++ [⟨#[]⟩] := by
  unfold piecesS
  rw [piecesB_snoc, List.map_append]; rfl
theorem piecesS_snoc_ne {c x : UInt8} (hx : x ≠ c) (s : Bs) (n : Nat) (hn : (piecesS c s).length = n + 1) : piecesS c (s ++ [x]) = (piecesS c s).set n (((piecesS c s)[n]'(by omega)) ++ ⟨#[x]⟩) := by
  have hne := piecesB_ne c s
  have hd := List.dropLast_concat_getLast hne
  have h1 := piecesB_snoc_ne hx s _ _ hd.symm
  have hl : (piecesB c s).length = n + 1 := by simpa [piecesS] using hn
  have hlen : (piecesB c s).dropLast.length = n := by rw [List.length_dropLast]; omega
  unfold piecesS
  rw [h1]
  apply List.ext_getElem
  · simp; omega
  · intro i hi hi'
    rw [List.getElem_set]
    by_cases h : n = i
    · subst h
      rw [if_pos rfl]
      simp only [List.getElem_map]
      rw [List.getElem_append_right (by omega)]
      simp only [hlen, Nat.sub_self, List.getElem_cons_zero]
      rw [List.getLast_eq_getElem]
      simp only [hl, Nat.add_sub_cancel]
      exact bs_append _ _
    · rw [if_neg h]
      have hi2 : i < n := by simp at hi; omega
      simp only [List.getElem_map]
      rw [List.getElem_append_left (by omega), List.getElem_dropLast]
theorem piece_len (c : UInt8) : ∀ l : Bs, ∀ p ∈ piecesB c l, p.length ≤ l.length
  | [], p, hp => by
    have : p = [] := by simpa [piecesB] using hp
    rw [this]; simp
  | x :: l, p, hp => by
    obtain ⟨q, qs, h⟩ := piecesB_cons c l
    have ih := piece_len c l
    by_cases hx : x = c
    · subst hx
      rw [piecesB_hit] at hp
      rcases List.mem_cons.1 hp with rfl | hp
      · simp
      · exact Nat.le_succ_of_le (ih p hp)
    · rw [piecesB_miss hx h] at hp
      rw [h] at ih
      rcases List.mem_cons.1 hp with rfl | hp
      · exact Nat.succ_le_succ (ih q (List.mem_cons_self ..))
      · exact Nat.le_succ_of_le (ih p (List.mem_cons_of_mem _ hp))
theorem pieceS_size (c : UInt8) (l : Bs) (x : S) (h : x ∈ piecesS c l) : x.size ≤ l.length := by
  unfold piecesS at h
  obtain ⟨p, hp, rfl⟩ := List.mem_map.1 h
  rw [bs_size]; exact piece_len c l p hp
theorem extract_one (s : S) (i : Nat) (h : i < s.size) : s.extract i (i + 1) = ⟨#[s[i]]⟩ := by
  rw [Lib.extract_eq, Nat.add_sub_cancel_left, List.drop_eq_getElem_cons (by simpa using h)]; rfl
theorem piecesS_len (c : UInt8) (s : S) : ∀ i, (piecesS c (s.data.toList.take i)).length ≤ i + 1
  | 0 => by simp [piecesS, piecesB]
  | i + 1 => by
    have ih := piecesS_len c s i
    by_cases h : i < s.data.toList.length
    · rw [List.take_succ_eq_append_getElem h]
      by_cases hx : s.data.toList[i] = c
      · rw [hx, piecesS_snoc, List.length_append]
        simp only [List.length_singleton]
        omega
      · obtain ⟨n, hn⟩ : ∃ n, (piecesS c (s.data.toList.take i)).length = n + 1 := ⟨_, (Nat.succ_pred_eq_of_pos (piecesS_pos c _)).symm⟩
        rw [piecesS_snoc_ne hx _ n hn, List.length_set]
        omega
    · rw [List.take_of_length_le (by omega)] at ih ⊢
      omega
theorem strC_one {x : S} : ∀ u ∈ strC x, u.oneCell' = true := by intro u hu; simp [strC] at hu; subst hu; rfl
theorem own_below3 {α : Type} {B : Nat} {w2 w8 w9 : World} {E n : Nat} {C : α → List Value} {v : Value} {l : List α} (h : Below B w2 w8) (ho : Owns B E n C w8 v l) (hg : w8.grownBy w9 v.ownBlock) (hB : B ≤ w8.heap.size) : Below B w2 w9 :=
  h.trans ⟨hg.os, hg.tape, hg.output, hg.size, fun k hk => hg.block k (Nat.lt_of_lt_of_le hk hB) fun e => by have := (ho.lt k e.symm).1; omega⟩
theorem ownsStr (w : World) (x : S) (base N : Nat) (hN : w.heap.size = N) (hb : base ≤ N) : Owns base 9 1 strC (w.alloc (.cells #[.string x] 9)) (.slice (some ⟨N, 0, none⟩) 1 1) [x] := by
  subst hN
  refine ⟨rfl, .inr ⟨w.heap.size, 1, #[.string x], rfl, hb, heap_alloc_new w _, Nat.le_refl _, by decide, rfl, rfl⟩⟩
def PiecesOut (w : World) (l : List S) (e : Ending) (w' : World) : Prop := ∃ v, e = .returned v ∧ Owns w.heap.size 9 1 strC w' v l ∧ Below w.heap.size w w'

set_option maxRecDepth 100000 in
set_option maxHeartbeats 8000000 in
theorem lines_any (s : S) (w : World) (hs : s.size ≤ 1000000) : Calls Tryd.prog 25 #[.string s] w (PiecesOut w (piecesS 10 s.data.toList)) := by
  have hs1 : s.size ≤ 9223372036854775807 := by omega
  have HLE : Hid (∀ i, (piecesS 10 (s.data.toList.take i)).length ≤ i + 1) := fun i => piecesS_len 10 s i
  go_enter Tryd.func25, Tryd.ntmps25
  go_upto_region 2 with fail
  refine wp_world ?_
  intro W hW
  have ho : Owns w.heap.size 9 1 strC W (.slice (some ⟨w.heap.size, 0, none⟩) 1 1) [⟨#[]⟩] := by rw [hW]; exact ownsStr w ⟨#[]⟩ _ _ rfl (Nat.le_refl _)
  have hb : Below w.heap.size w W := by rw [hW]; exact (Below.refl _ w).alloc (Nat.le_refl _) _
  clear hW
  have HO := Lib.hid ho
  have HB := Lib.hid hb
  have hsz : w.heap.size ≤ W.heap.size := hb.size
  clear ho hb
  go_wp2_with fail
  go_loopw [3, 4] (fun v iv wr => ∃ i : Nat, i ≤ s.size ∧ iv = .int .i64 i ∧ Owns w.heap.size 9 1 strC wr v (piecesS 10 (s.data.toList.take i)) ∧ Below w.heap.size w wr) (fun _ iv _ => s.size - (intOf iv).toNat)
  case atStart => exact ⟨0, Nat.zero_le _, rfl, HO.out, HB.out⟩
  case round =>
    obtain ⟨i, hi, rfl, ho, hb⟩ := hrel
    obtain ⟨vo, vc, rfl⟩ := ho.shape
    have HOW := Lib.hid ho
    have HBW := Lib.hid hb
    have hsw := hb.size
    have hpos := piecesS_pos 10 (s.data.toList.take i)
    have hle := HLE.out i
    by_cases hlt : i < s.size
    · have hts := take_byte s i hlt
      by_cases hx : s[i] = 10
      · have hP : Hid (piecesS 10 (s.data.toList.take (i + 1)) = piecesS 10 (s.data.toList.take i) ++ [⟨#[]⟩]) := by show _ = _; rw [hts, hx, piecesS_snoc]
        have hbt : (((s[i].toNat : Nat) : Int) == 10) = true := by rw [hx]; rfl
        clear hts hx ho hb
        generalize piecesS 10 (s.data.toList.take i) = L at *
        have HLT : Hid (SliceOf 1 strC (wr.alloc (.cells #[.string ⟨#[]⟩] 9)) (.slice (some ⟨wr.heap.size, 0, none⟩) 1 1) [⟨#[]⟩]) := sliceStr wr [⟨#[]⟩] _ _ rfl (by decide)
        go_wp2_with (at_builtin; refine wpList_append_slice _ rfl _ _ 55 rfl w.heap.size 9 Tryd.underlying55 info_str rfl (by decide) strC_len (.slice vo L.length vc) L rfl (HOW.out.alloc _) _ [⟨#[]⟩] rfl HLT.out (fun _ _ => strC_one) (by simp only [List.length_cons, List.length_nil]; omega) (by decide) (by simp; omega) ?_; intro v8 w8 hown8 hgrow8 hloc8; have HO8 := Lib.hid hown8; have HB8 := Lib.hid (own_below3 (HBW.out.trans (((Below.refl _ wr).alloc (Nat.le_refl _) _).mono hsw)) (HOW.out.alloc _) hgrow8 (by simp; omega)); clear hown8 hgrow8 hloc8)
        go_roundw
        case rel => exact ⟨i + 1, hlt, by go_num, by rw [hP.out]; exact HO8.out, HB8.out⟩
        case measure => simp [intOf]; omega
      · obtain ⟨n, hn⟩ : ∃ n, (piecesS 10 (s.data.toList.take i)).length = n + 1 := ⟨_, (Nat.succ_pred_eq_of_pos hpos).symm⟩
        have hnl : n < (piecesS 10 (s.data.toList.take i)).length := by omega
        have hP : Hid (piecesS 10 (s.data.toList.take (i + 1)) = (piecesS 10 (s.data.toList.take i)).set n (((piecesS 10 (s.data.toList.take i))[n]'hnl) ++ ⟨#[s[i]]⟩)) := by show _ = _; rw [hts]; exact piecesS_snoc_ne hx _ n hn
        have hbt : (((s[i].toNat : Nat) : Int) == 10) = false := by rw [beq_eq_false_iff_ne]; intro e; exact hx (UInt8.toNat_inj.1 (by show _ = 10; omega))
        obtain ⟨hn1, -⟩ | ⟨g, cap, cur, hv, hgb, hgr, hnc, hm, hcs, ht⟩ := id ho.2
        · simp only [Value.slice.injEq] at hn1; omega
        · simp only [Value.slice.injEq] at hv
          obtain ⟨rfl, -, rfl⟩ := hv
          have hxs := pieceS_size 10 (s.data.toList.take i) ((piecesS 10 (s.data.toList.take i))[n]'hnl) (List.getElem_mem _)
          have hxs2 : (s.data.toList.take i).length ≤ i := List.length_take_le _ _
          have hex := extract_one s i hlt
          have hcell : wr.cell? ⟨g, n, none⟩ = some (.string ((piecesS 10 (s.data.toList.take i))[n]'hnl)) := by
            rw [World.ownsRow.cellAt ho n (by omega), flat_str]; simp
          have hfz : wr.frozen? ⟨g, n, none⟩ = false := World.ownsRow.frozenAt ho n
          have hlt2 := World.block_lt_of_cell? _ _ hcell
          have HSET : Hid (∀ v, Owns w.heap.size 9 1 strC (wr.setCell ⟨g, n, none⟩ (.string v)) (.slice (some ⟨g, 0, none⟩) (piecesS 10 (s.data.toList.take i)).length vc) ((piecesS 10 (s.data.toList.take i)).set n v)) := fun v => ho.setStr n v
          clear hts ho hb hgr hcs ht
          generalize hL : piecesS 10 (s.data.toList.take i) = L at *
          clear hL
          generalize hLn : L[n] = x at *
          have hnI : (L.length : Int) = n + 1 := by omega
          have hn0 : (0 : Int) ≤ (n : Int) := by omega
          have hn2 : (n : Int) < (n : Int) + 1 := by omega
          have hsum : ¬ 9223372036854775807 < x.size + 1 := by omega
          have hni : n ≤ i := by omega
          have HLN := Lib.hid hLn
          have HN := Lib.hid hn
          have hsz1 : ByteArray.size ⟨#[s[i]]⟩ = 1 := rfl
          have ht1 : ((i : Int) + 1).toNat = i + 1 := by omega
          have hp0 : (0 : Int) ≤ (i : Int) + 1 := by omega
          have hp1 : (i : Int) + 1 ≤ (s.size : Int) := by omega
          have hp2 : (i : Int) ≤ (i : Int) + 1 := by omega
          have hp3 : (0 : Int) ≤ (i : Int) := by omega
          clear hLn hn hx hpos hle hxs hxs2
          have hw1 : IntKind.i64.wrap (n : Int) = n := IntWalk.i64_in _ (by omega)
          have hw2 : IntKind.i64.wrap ((i : Int) + 1) = (i : Int) + 1 := IntWalk.i64_in _ (by omega)
          go_wp2_with fail
          go_still_tail 11, (by kernel_rfl)
          change wpList _ _ _ _ _ wr.drew
          go_wp2
          go_roundw
          case rel => exact ⟨i + 1, hlt, by go_num, by rw [hP.out]; exact HSET.out _, (belowN HBW.out 1).setCell (p := ⟨g, n, none⟩) (by exact hgb) _⟩
          case measure => simp [intOf]; omega
    · obtain rfl : i = s.size := by omega
      have hP : Hid (piecesS 10 (s.data.toList.take s.size) = piecesS 10 s.data.toList) := by show _ = _; rw [List.take_of_length_le (by simp)]
      clear hpos hle hb ho
      go_wp2
      go_ret
      rw [← hP.out]
      exact ⟨_, rfl, HOW.out, HBW.out⟩

set_option maxRecDepth 100000 in
set_option maxHeartbeats 8000000 in
theorem pieces_any (s : S) (w : World) (hs : s.size ≤ 1000000) : Calls Tryd.prog 26 #[.string s] w (PiecesOut w (piecesS 58 s.data.toList)) := by
  have hs1 : s.size ≤ 9223372036854775807 := by omega
  have HLE : Hid (∀ i, (piecesS 58 (s.data.toList.take i)).length ≤ i + 1) := fun i => piecesS_len 58 s i
  go_enter Tryd.func26, Tryd.ntmps26
  go_upto_region 2 with fail
  refine wp_world ?_
  intro W hW
  have ho : Owns w.heap.size 9 1 strC W (.slice (some ⟨w.heap.size, 0, none⟩) 1 1) [⟨#[]⟩] := by rw [hW]; exact ownsStr w ⟨#[]⟩ _ _ rfl (Nat.le_refl _)
  have hb : Below w.heap.size w W := by rw [hW]; exact (Below.refl _ w).alloc (Nat.le_refl _) _
  clear hW
  have HO := Lib.hid ho
  have HB := Lib.hid hb
  have hsz : w.heap.size ≤ W.heap.size := hb.size
  clear ho hb
  go_wp2_with fail
  go_loopw [3, 4] (fun v iv wr => ∃ i : Nat, i ≤ s.size ∧ iv = .int .i64 i ∧ Owns w.heap.size 9 1 strC wr v (piecesS 58 (s.data.toList.take i)) ∧ Below w.heap.size w wr) (fun _ iv _ => s.size - (intOf iv).toNat)
  case atStart => exact ⟨0, Nat.zero_le _, rfl, HO.out, HB.out⟩
  case round =>
    obtain ⟨i, hi, rfl, ho, hb⟩ := hrel
    obtain ⟨vo, vc, rfl⟩ := ho.shape
    have HOW := Lib.hid ho
    have HBW := Lib.hid hb
    have hsw := hb.size
    have hpos := piecesS_pos 58 (s.data.toList.take i)
    have hle := HLE.out i
    by_cases hlt : i < s.size
    · have hts := take_byte s i hlt
      by_cases hx : s[i] = 58
      · have hP : Hid (piecesS 58 (s.data.toList.take (i + 1)) = piecesS 58 (s.data.toList.take i) ++ [⟨#[]⟩]) := by show _ = _; rw [hts, hx, piecesS_snoc]
        have hbt : (((s[i].toNat : Nat) : Int) == 58) = true := by rw [hx]; rfl
        clear hts hx ho hb
        generalize piecesS 58 (s.data.toList.take i) = L at *
        have HLT : Hid (SliceOf 1 strC (wr.alloc (.cells #[.string ⟨#[]⟩] 9)) (.slice (some ⟨wr.heap.size, 0, none⟩) 1 1) [⟨#[]⟩]) := sliceStr wr [⟨#[]⟩] _ _ rfl (by decide)
        go_wp2_with (at_builtin; refine wpList_append_slice _ rfl _ _ 55 rfl w.heap.size 9 Tryd.underlying55 info_str rfl (by decide) strC_len (.slice vo L.length vc) L rfl (HOW.out.alloc _) _ [⟨#[]⟩] rfl HLT.out (fun _ _ => strC_one) (by simp only [List.length_cons, List.length_nil]; omega) (by decide) (by simp; omega) ?_; intro v8 w8 hown8 hgrow8 hloc8; have HO8 := Lib.hid hown8; have HB8 := Lib.hid (own_below3 (HBW.out.trans (((Below.refl _ wr).alloc (Nat.le_refl _) _).mono hsw)) (HOW.out.alloc _) hgrow8 (by simp; omega)); clear hown8 hgrow8 hloc8)
        go_roundw
        case rel => exact ⟨i + 1, hlt, by go_num, by rw [hP.out]; exact HO8.out, HB8.out⟩
        case measure => simp [intOf]; omega
      · obtain ⟨n, hn⟩ : ∃ n, (piecesS 58 (s.data.toList.take i)).length = n + 1 := ⟨_, (Nat.succ_pred_eq_of_pos hpos).symm⟩
        have hnl : n < (piecesS 58 (s.data.toList.take i)).length := by omega
        have hP : Hid (piecesS 58 (s.data.toList.take (i + 1)) = (piecesS 58 (s.data.toList.take i)).set n (((piecesS 58 (s.data.toList.take i))[n]'hnl) ++ ⟨#[s[i]]⟩)) := by show _ = _; rw [hts]; exact piecesS_snoc_ne hx _ n hn
        have hbt : (((s[i].toNat : Nat) : Int) == 58) = false := by rw [beq_eq_false_iff_ne]; intro e; exact hx (UInt8.toNat_inj.1 (by show _ = 58; omega))
        obtain ⟨hn1, -⟩ | ⟨g, cap, cur, hv, hgb, hgr, hnc, hm, hcs, ht⟩ := id ho.2
        · simp only [Value.slice.injEq] at hn1; omega
        · simp only [Value.slice.injEq] at hv
          obtain ⟨rfl, -, rfl⟩ := hv
          have hxs := pieceS_size 58 (s.data.toList.take i) ((piecesS 58 (s.data.toList.take i))[n]'hnl) (List.getElem_mem _)
          have hxs2 : (s.data.toList.take i).length ≤ i := List.length_take_le _ _
          have hex := extract_one s i hlt
          have hcell : wr.cell? ⟨g, n, none⟩ = some (.string ((piecesS 58 (s.data.toList.take i))[n]'hnl)) := by
            rw [World.ownsRow.cellAt ho n (by omega), flat_str]; simp
          have hfz : wr.frozen? ⟨g, n, none⟩ = false := World.ownsRow.frozenAt ho n
          have hlt2 := World.block_lt_of_cell? _ _ hcell
          have HSET : Hid (∀ v, Owns w.heap.size 9 1 strC (wr.setCell ⟨g, n, none⟩ (.string v)) (.slice (some ⟨g, 0, none⟩) (piecesS 58 (s.data.toList.take i)).length vc) ((piecesS 58 (s.data.toList.take i)).set n v)) := fun v => ho.setStr n v
          clear hts ho hb hgr hcs ht
          generalize hL : piecesS 58 (s.data.toList.take i) = L at *
          clear hL
          generalize hLn : L[n] = x at *
          have hnI : (L.length : Int) = n + 1 := by omega
          have hn0 : (0 : Int) ≤ (n : Int) := by omega
          have hn2 : (n : Int) < (n : Int) + 1 := by omega
          have hsum : ¬ 9223372036854775807 < x.size + 1 := by omega
          have hni : n ≤ i := by omega
          have HLN := Lib.hid hLn
          have HN := Lib.hid hn
          have hsz1 : ByteArray.size ⟨#[s[i]]⟩ = 1 := rfl
          have ht1 : ((i : Int) + 1).toNat = i + 1 := by omega
          have hp0 : (0 : Int) ≤ (i : Int) + 1 := by omega
          have hp1 : (i : Int) + 1 ≤ (s.size : Int) := by omega
          have hp2 : (i : Int) ≤ (i : Int) + 1 := by omega
          have hp3 : (0 : Int) ≤ (i : Int) := by omega
          clear hLn hn hx hpos hle hxs hxs2
          have hw1 : IntKind.i64.wrap (n : Int) = n := IntWalk.i64_in _ (by omega)
          have hw2 : IntKind.i64.wrap ((i : Int) + 1) = (i : Int) + 1 := IntWalk.i64_in _ (by omega)
          go_wp2_with fail
          go_still_tail 11, (by kernel_rfl)
          change wpList _ _ _ _ _ wr.drew
          go_wp2
          go_roundw
          case rel => exact ⟨i + 1, hlt, by go_num, by rw [hP.out]; exact HSET.out _, (belowN HBW.out 1).setCell (p := ⟨g, n, none⟩) (by exact hgb) _⟩
          case measure => simp [intOf]; omega
    · obtain rfl : i = s.size := by omega
      have hP : Hid (piecesS 58 (s.data.toList.take s.size) = piecesS 58 s.data.toList) := by show _ = _; rw [List.take_of_length_le (by simp)]
      clear hpos hle hb ho
      go_wp2
      go_ret
      rw [← hP.out]
      exact ⟨_, rfl, HOW.out, HBW.out⟩

set_option maxRecDepth 100000 in
set_option maxHeartbeats 8000000 in
theorem words_any (s : S) (w : World) (hs : s.size ≤ 1000000) : Calls Tryd.prog 53 #[.string s] w (PiecesOut w (piecesS 32 s.data.toList)) := by
  have hs1 : s.size ≤ 9223372036854775807 := by omega
  have HLE : Hid (∀ i, (piecesS 32 (s.data.toList.take i)).length ≤ i + 1) := fun i => piecesS_len 32 s i
  go_enter Tryd.func53, Tryd.ntmps53
  go_upto_region 2 with fail
  refine wp_world ?_
  intro W hW
  have ho : Owns w.heap.size 9 1 strC W (.slice (some ⟨w.heap.size, 0, none⟩) 1 1) [⟨#[]⟩] := by rw [hW]; exact ownsStr w ⟨#[]⟩ _ _ rfl (Nat.le_refl _)
  have hb : Below w.heap.size w W := by rw [hW]; exact (Below.refl _ w).alloc (Nat.le_refl _) _
  clear hW
  have HO := Lib.hid ho
  have HB := Lib.hid hb
  have hsz : w.heap.size ≤ W.heap.size := hb.size
  clear ho hb
  go_wp2_with fail
  go_loopw [3, 4] (fun v iv wr => ∃ i : Nat, i ≤ s.size ∧ iv = .int .i64 i ∧ Owns w.heap.size 9 1 strC wr v (piecesS 32 (s.data.toList.take i)) ∧ Below w.heap.size w wr) (fun _ iv _ => s.size - (intOf iv).toNat)
  case atStart => exact ⟨0, Nat.zero_le _, rfl, HO.out, HB.out⟩
  case round =>
    obtain ⟨i, hi, rfl, ho, hb⟩ := hrel
    obtain ⟨vo, vc, rfl⟩ := ho.shape
    have HOW := Lib.hid ho
    have HBW := Lib.hid hb
    have hsw := hb.size
    have hpos := piecesS_pos 32 (s.data.toList.take i)
    have hle := HLE.out i
    by_cases hlt : i < s.size
    · have hts := take_byte s i hlt
      by_cases hx : s[i] = 32
      · have hP : Hid (piecesS 32 (s.data.toList.take (i + 1)) = piecesS 32 (s.data.toList.take i) ++ [⟨#[]⟩]) := by show _ = _; rw [hts, hx, piecesS_snoc]
        have hbt : (((s[i].toNat : Nat) : Int) == 32) = true := by rw [hx]; rfl
        clear hts hx ho hb
        generalize piecesS 32 (s.data.toList.take i) = L at *
        have HLT : Hid (SliceOf 1 strC (wr.alloc (.cells #[.string ⟨#[]⟩] 9)) (.slice (some ⟨wr.heap.size, 0, none⟩) 1 1) [⟨#[]⟩]) := sliceStr wr [⟨#[]⟩] _ _ rfl (by decide)
        go_wp2_with (at_builtin; refine wpList_append_slice _ rfl _ _ 55 rfl w.heap.size 9 Tryd.underlying55 info_str rfl (by decide) strC_len (.slice vo L.length vc) L rfl (HOW.out.alloc _) _ [⟨#[]⟩] rfl HLT.out (fun _ _ => strC_one) (by simp only [List.length_cons, List.length_nil]; omega) (by decide) (by simp; omega) ?_; intro v8 w8 hown8 hgrow8 hloc8; have HO8 := Lib.hid hown8; have HB8 := Lib.hid (own_below3 (HBW.out.trans (((Below.refl _ wr).alloc (Nat.le_refl _) _).mono hsw)) (HOW.out.alloc _) hgrow8 (by simp; omega)); clear hown8 hgrow8 hloc8)
        go_roundw
        case rel => exact ⟨i + 1, hlt, by go_num, by rw [hP.out]; exact HO8.out, HB8.out⟩
        case measure => simp [intOf]; omega
      · obtain ⟨n, hn⟩ : ∃ n, (piecesS 32 (s.data.toList.take i)).length = n + 1 := ⟨_, (Nat.succ_pred_eq_of_pos hpos).symm⟩
        have hnl : n < (piecesS 32 (s.data.toList.take i)).length := by omega
        have hP : Hid (piecesS 32 (s.data.toList.take (i + 1)) = (piecesS 32 (s.data.toList.take i)).set n (((piecesS 32 (s.data.toList.take i))[n]'hnl) ++ ⟨#[s[i]]⟩)) := by show _ = _; rw [hts]; exact piecesS_snoc_ne hx _ n hn
        have hbt : (((s[i].toNat : Nat) : Int) == 32) = false := by rw [beq_eq_false_iff_ne]; intro e; exact hx (UInt8.toNat_inj.1 (by show _ = 32; omega))
        obtain ⟨hn1, -⟩ | ⟨g, cap, cur, hv, hgb, hgr, hnc, hm, hcs, ht⟩ := id ho.2
        · simp only [Value.slice.injEq] at hn1; omega
        · simp only [Value.slice.injEq] at hv
          obtain ⟨rfl, -, rfl⟩ := hv
          have hxs := pieceS_size 32 (s.data.toList.take i) ((piecesS 32 (s.data.toList.take i))[n]'hnl) (List.getElem_mem _)
          have hxs2 : (s.data.toList.take i).length ≤ i := List.length_take_le _ _
          have hex := extract_one s i hlt
          have hcell : wr.cell? ⟨g, n, none⟩ = some (.string ((piecesS 32 (s.data.toList.take i))[n]'hnl)) := by
            rw [World.ownsRow.cellAt ho n (by omega), flat_str]; simp
          have hfz : wr.frozen? ⟨g, n, none⟩ = false := World.ownsRow.frozenAt ho n
          have hlt2 := World.block_lt_of_cell? _ _ hcell
          have HSET : Hid (∀ v, Owns w.heap.size 9 1 strC (wr.setCell ⟨g, n, none⟩ (.string v)) (.slice (some ⟨g, 0, none⟩) (piecesS 32 (s.data.toList.take i)).length vc) ((piecesS 32 (s.data.toList.take i)).set n v)) := fun v => ho.setStr n v
          clear hts ho hb hgr hcs ht
          generalize hL : piecesS 32 (s.data.toList.take i) = L at *
          clear hL
          generalize hLn : L[n] = x at *
          have hnI : (L.length : Int) = n + 1 := by omega
          have hn0 : (0 : Int) ≤ (n : Int) := by omega
          have hn2 : (n : Int) < (n : Int) + 1 := by omega
          have hsum : ¬ 9223372036854775807 < x.size + 1 := by omega
          have hni : n ≤ i := by omega
          have HLN := Lib.hid hLn
          have HN := Lib.hid hn
          have hsz1 : ByteArray.size ⟨#[s[i]]⟩ = 1 := rfl
          have ht1 : ((i : Int) + 1).toNat = i + 1 := by omega
          have hp0 : (0 : Int) ≤ (i : Int) + 1 := by omega
          have hp1 : (i : Int) + 1 ≤ (s.size : Int) := by omega
          have hp2 : (i : Int) ≤ (i : Int) + 1 := by omega
          have hp3 : (0 : Int) ≤ (i : Int) := by omega
          clear hLn hn hx hpos hle hxs hxs2
          have hw1 : IntKind.i64.wrap (n : Int) = n := IntWalk.i64_in _ (by omega)
          have hw2 : IntKind.i64.wrap ((i : Int) + 1) = (i : Int) + 1 := IntWalk.i64_in _ (by omega)
          go_wp2_with fail
          go_still_tail 11, (by kernel_rfl)
          change wpList _ _ _ _ _ wr.drew
          go_wp2
          go_roundw
          case rel => exact ⟨i + 1, hlt, by go_num, by rw [hP.out]; exact HSET.out _, (belowN HBW.out 1).setCell (p := ⟨g, n, none⟩) (by exact hgb) _⟩
          case measure => simp [intOf]; omega
    · obtain rfl : i = s.size := by omega
      have hP : Hid (piecesS 32 (s.data.toList.take s.size) = piecesS 32 s.data.toList) := by show _ = _; rw [List.take_of_length_le (by simp)]
      clear hpos hle hb ho
      go_wp2
      go_ret
      rw [← hP.out]
      exact ⟨_, rfl, HOW.out, HBW.out⟩

end Go.Proofs.YtmcjpmogjmnfpaaDoor
