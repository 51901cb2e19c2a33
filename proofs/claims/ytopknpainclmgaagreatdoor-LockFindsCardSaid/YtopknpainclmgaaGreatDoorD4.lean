/- Walks: strings.Split as pieces; ParseGav; the conditions stand in the theorems. -/
import Derived.Test.YtopknpainclmgaaGreatDoorD3
import Derived.BigRegion
namespace Go.Proofs.YtopknpainclmgaaGreatDoor
open Go Go.RowKit

theorem splitB_pieces (c : UInt8) (s : S) : Lib.splitB ⟨#[c]⟩ 0 (Lib.countB s ⟨#[c]⟩) s = piecesS c s.data.toList := by
  have h1 := Lib.splitB_data ⟨#[c]⟩ 0 (Lib.countB s ⟨#[c]⟩) s
  have h2 : Lib.splitK [c] 0 (Lib.countB s ⟨#[c]⟩) s.data.toList = piecesB c s.data.toList := split_pieces c s.data.toList
  unfold piecesS
  rw [← h2]
  have h3 : (Lib.splitB ⟨#[c]⟩ 0 (Lib.countB s ⟨#[c]⟩) s).map (·.data.toList) = Lib.splitK [c] 0 (Lib.countB s ⟨#[c]⟩) s.data.toList := h1
  rw [← h3, List.map_map]
  have h4 : (bs ∘ fun x : S => x.data.toList) = id := by funext x; exact data_bs x
  rw [h4, List.map_id]
theorem countB_pieces (c : UInt8) (s : S) : Lib.countB s ⟨#[c]⟩ + 1 = (piecesS c s.data.toList).length := by
  rw [← splitB_pieces, Lib.splitB_all ⟨#[c]⟩ (Nat.le_refl 1) 0 _ s rfl]
theorem owns_row (w : World) (l : List S) (hn : l.length ≤ 1000001) : Owns w.heap.size 9 1 strC (w.alloc (.cells (l.map Value.string).toArray 9)) (.slice (some ⟨w.heap.size, 0, none⟩) l.length l.length) l := by
  unfold Owns
  rw [flat_str]
  refine ⟨by simp, .inr ⟨w.heap.size, l.length, (l.map Value.string).toArray, rfl, Nat.le_refl _, heap_alloc_new w _, Nat.le_refl _, by unfold maxLen; omega, by simp, by simp only [Nat.mul_one]; exact List.take_of_length_le (by simp)⟩⟩
theorem split_any (c : UInt8) (s : S) (m : Int) (w : World) (hs : s.size ≤ 1000000) (hm : w.cell? ⟨0, 0, none⟩ = some (.int .i64 m)) : Calls Tryz.prog 52 #[.string s, .string ⟨#[c]⟩] w (PiecesOut w (piecesS c s.data.toList)) := by
  refine (Tryz.strings_Split s ⟨#[c]⟩ m w (by omega) hm (Nat.le_refl 1)).mono ?_
  rintro e w' ⟨rfl, rfl⟩
  have h1 := splitB_pieces c s
  have h2 := countB_pieces c s
  have h3 := piecesS_len c s s.size
  rw [List.take_of_length_le (by simp)] at h3
  rw [h1, h2]
  refine ⟨_, rfl, owns_row w _ (by omega), (Below.refl _ w).alloc (Nat.le_refl _) _⟩
theorem Owns.strs {base : Nat} {E : TypeId} {w : World} {v : Value} {l : List S} (h : Owns base E 1 strC w v l) (hl : l ≠ []) : ∃ g cap, v = .slice (some ⟨g, 0, none⟩) l.length cap ∧ g < w.heap.size ∧ ∀ (j : Nat) (x : S), l[j]? = some x → w.cell? ⟨g, j, none⟩ = some (.string x) := by
  rcases id h.2 with ⟨h1, h0⟩ | ⟨g, cap, cur, hv, hb, hg, -⟩
  · exact absurd (List.eq_nil_of_length_eq_zero h0) hl
  · refine ⟨g, cap, hv, (Array.getElem?_eq_some_iff.1 hg).1, fun j x hx => ?_⟩
    have hj : j < l.length := (List.getElem?_eq_some_iff.1 hx).1
    subst hv
    rw [World.ownsRow.cellAt h j (by omega), flat_str]
    simp [hx]
theorem piecesS_ne (c : UInt8) (l : Bs) : piecesS c l ≠ [] := fun e => by have := piecesS_pos c l; rw [e] at this; simp at this
theorem three {α : Type} {l : List α} (h : l.length = 3) : ∃ a b c, l = [a, b, c] := by
  match l, h with
  | [a, b, c], _ => exact ⟨a, b, c, rfl⟩
theorem four {α : Type} {l : List α} (h : l.length = 4) : ∃ a b c d, l = [a, b, c, d] := by
  match l, h with
  | [a, b, c, d], _ => exact ⟨a, b, c, d, rfl⟩
theorem gavP_no {s : Bs} (h : (piecesB 58 s).length ≠ 3) : gavP s = none := by
  unfold gavP
  split
  · rename_i h'; rw [h'] at h; exact absurd rfl h
  · rfl
theorem gavP_three {s : Bs} {a b c : Bs} (h : piecesB 58 s = [a, b, c]) : gavP s = if gavMay ⟨bs a, bs b, bs c⟩ then some ⟨bs a, bs b, bs c⟩ else none := by
  unfold gavP
  rw [h]
/-- What ParseGav gives. -/
def GavOut (w : World) (r : Option Gav) (e : Ending) (w' : World) : Prop := e = .returned (.tuple #[.agg #[.string (r.getD noGav).group, .string (r.getD noGav).artifact, .string (r.getD noGav).version], .int .i64 (if r.isSome then 0 else 1)]) ∧ Below w.heap.size w w'
theorem pieces_sm {c : UInt8} {s : S} {p : Bs} (hs : s.size ≤ 1000000) (hp : p ∈ piecesB c s.data.toList) : (bs p).size ≤ 9223372036854775807 := by
  have h1 := piece_len c _ p hp
  have h2 : s.data.toList.length = s.size := size_data _
  rw [bs_size]; omega
set_option maxRecDepth 100000 in
set_option maxHeartbeats 8000000 in
theorem parseGav_any (s : S) (m : Int) (w : World) (hs : s.size ≤ 1000000) (hm : w.cell? ⟨0, 0, none⟩ = some (.int .i64 m)) : Calls Tryz.prog 28 #[.string s] w (GavOut w (gavP s.data.toList)) := by
  have hw0 : 0 < w.heap.size := World.block_lt_of_cell? w _ hm
  have HM := Lib.hid hm
  have HS := Lib.hid hs
  clear hm hs
  go_enter Tryz.func28, Tryz.ntmps28
  go_upto_region 1 with fail
  refine wp_world ?_
  intro W hW
  have x2 : Box W w.heap.size [.string ⟨#[]⟩, .string ⟨#[]⟩, .string ⟨#[]⟩] := by rw [hW]; exact Box.new w [.string ⟨#[]⟩, .string ⟨#[]⟩, .string ⟨#[]⟩] _ _ rfl
  have hb : Below w.heap.size w W := by rw [hW]; exact (Below.refl _ w).alloc (Nat.le_refl _) _
  clear hW
  have HX := Lib.hid x2
  have HB := Lib.hid hb
  have s0 := hb.size
  have hmW := (hb.cell (p := ⟨0, 0, none⟩) (by exact hw0)).trans HM.out
  have HSP := Lib.hid (split_any 58 s m W HS.out hmW)
  clear x2 hb hmW
  go_wp2_with fail
  refine HSP.out.mono ?_
  rintro e w1 ⟨v, rfl, ho, hb1⟩
  obtain ⟨g, cap, rfl, hg, hc⟩ := ho.strs (piecesS_ne _ _)
  have HX1 := Lib.hid (HX.out.below hb1 HX.out.lt)
  have HB1 := Lib.hid (HB.out.trans (hb1.mono s0))
  have s1 := HB1.out.size
  have HGL : Hid (w.heap.size ≤ g) := by have := (ho.lt g rfl).1; show _ ≤ _; omega
  clear ho hb1 HSP HX HB
  have u0 := HX1.out.free 0
  have u1 := HX1.out.free 1
  have u2 := HX1.out.free 2
  have z0 := HX1.out.cell 0 _ rfl
  have z1 := HX1.out.cell 1 _ rfl
  have z2 := HX1.out.cell 2 _ rfl
  have lz := HX1.out.lt
  by_cases hl : (piecesS 58 s.data.toList).length = 3
  rotate_left
  · have HN : Hid (gavP s.data.toList = none) := gavP_no (by simpa [piecesS] using hl)
    have hlI : (((piecesS 58 s.data.toList).length : Int) == 3) = false := by rw [beq_eq_false_iff_ne]; omega
    have hlN : ((piecesS 58 s.data.toList).length == 3) = false := by rw [beq_eq_false_iff_ne]; omega
    clear hl hc
    generalize (piecesS 58 s.data.toList).length = n at *
    go_wp2
    refine bodyPost_ret (v := .tuple #[.agg #[.string ⟨#[]⟩, .string ⟨#[]⟩, .string ⟨#[]⟩], .int .i64 1]) (by simp [results, Tryz.results28, go_sem, z0, z1, z2]) rfl ?_
    rw [HN.out]
    exact ⟨rfl, ((HB1.out.setCell (by simp) _).setCell (by simp) _).setCell (by simp) _⟩
  · obtain ⟨pa, pb, pc, hp⟩ := three (l := piecesB 58 s.data.toList) (by simpa [piecesS] using hl)
    have HR := Lib.hid (gavP_three hp)
    have hps : piecesS 58 s.data.toList = [bs pa, bs pb, bs pc] := by unfold piecesS; rw [hp]; rfl
    have HG : Hid (gavSm ⟨bs pa, bs pb, bs pc⟩) := ⟨pieces_sm HS.out (by rw [hp]; simp), pieces_sm HS.out (by rw [hp]; simp), pieces_sm HS.out (by rw [hp]; simp)⟩
    rw [hps] at hc
    rw [hps]
    have k0 := hc 0 _ rfl
    have k1 := hc 1 _ rfl
    have k2 := hc 2 _ rfl
    clear hl hc hps hp
    generalize bs pa = xa at *
    generalize bs pb = xb at *
    generalize bs pc = xc at *
    go_upto_region 4 with fail
    go_big_region
    go_upto_region 5 with fail
    refine wp_world ?_
    intro W3 hW3
    have x5 : Box W3 w1.heap.size [.string xa, .string xb, .string xc] := by rw [hW3]; exact (Box.new w1 [.string xa, .string xb, .string xc] _ _ rfl).drewN 1
    have hb3 : Below w1.heap.size w1 W3 := by rw [hW3]; exact belowN ((Below.refl _ w1).alloc (Nat.le_refl _) _) 1
    clear hW3
    have HX2 := Lib.hid (HX1.out.below hb3 HX1.out.lt)
    have HX5 := Lib.hid x5
    have HB3 := Lib.hid (HB1.out.trans (hb3.mono s1))
    have s3 := HB3.out.size
    clear k0 k1 k2 u0 u1 u2 z0 z1 z2 lz x5 hb3 HX1
    have k0 := HX5.out.cell 0 _ rfl
    have k1 := HX5.out.cell 1 _ rfl
    have k2 := HX5.out.cell 2 _ rfl
    go_wp2_with fail
    refine (mayGav_any ⟨xa, xb, xc⟩ W3 HG.out).mono ?_
    rintro e w4 ⟨rfl, hb4⟩
    have HX6 := Lib.hid (HX2.out.below hb4 HX2.out.lt)
    have HX7 := Lib.hid (HX5.out.below hb4 HX5.out.lt)
    have HB4 := Lib.hid (HB3.out.trans (hb4.mono s3))
    clear k0 k1 k2 hb4 HX2 HX5
    have u0 := HX6.out.free 0
    have u1 := HX6.out.free 1
    have u2 := HX6.out.free 2
    have z0 := HX6.out.cell 0 _ rfl
    have z1 := HX6.out.cell 1 _ rfl
    have z2 := HX6.out.cell 2 _ rfl
    have lz := HX6.out.lt
    have k0 := HX7.out.cell 0 _ rfl
    have k1 := HX7.out.cell 1 _ rfl
    have k2 := HX7.out.cell 2 _ rfl
    generalize gavMay ⟨xa, xb, xc⟩ = ok at *
    cases ok with
    | false =>
      go_wp2
      refine bodyPost_ret (v := .tuple #[.agg #[.string ⟨#[]⟩, .string ⟨#[]⟩, .string ⟨#[]⟩], .int .i64 1]) (by simp [results, Tryz.results28, go_sem, z0, z1, z2]) rfl ?_
      rw [HR.out]
      exact ⟨rfl, ((HB4.out.setCell (by simp) _).setCell (by simp) _).setCell (by simp) _⟩
    | true =>
      go_wp2
      refine bodyPost_ret (v := .tuple #[.agg #[.string xa, .string xb, .string xc], .int .i64 0]) (by simp [results, Tryz.results28, go_sem, z0, z1, z2]) rfl ?_
      rw [HR.out]
      exact ⟨rfl, ((HB4.out.setCell (by simp) _).setCell (by simp) _).setCell (by simp) _⟩

end Go.Proofs.YtopknpainclmgaaGreatDoor
