/- Walks: the two closures of lock.Parse: the next line, what is wrong; the conditions stand in the theorems. -/
import Derived.Test.YtopknpainclmgaaGreatDoorD4
import Derived.Deep.RegionHeld3
import Derived.BigRegion
namespace Go.Proofs.YtopknpainclmgaaGreatDoor
open Go Go.RowKit

/-- Outside of three blocks the world is as it was. -/
structure Kx (w w' : World) (A R W : Nat) : Prop where
  os : w'.os = w.os
  tape : w'.tape = w.tape
  output : w'.output = w.output
  size : w'.heap.size = w.heap.size
  block : ∀ k, k ≠ A → k ≠ R → k ≠ W → w'.heap[k]? = w.heap[k]?
theorem Kx.refl (w : World) (A R W : Nat) : Kx w w A R W := ⟨rfl, rfl, rfl, rfl, fun _ _ _ _ => rfl⟩
theorem Kx.set {w w' : World} {A R W : Nat} (h : Kx w w' A R W) {b o : Nat} (hb : b = A ∨ b = R ∨ b = W) (v : Value) : Kx w (w'.setCell ⟨b, o, none⟩ v) A R W :=
  ⟨h.os, h.tape, h.output, by simpa [World.setCell] using h.size, fun k h1 h2 h3 => (Below.heap_setCell _ _ _ _ (fun e => hb.elim (fun x => h1 (e.trans x)) fun hb => hb.elim (fun x => h2 (e.trans x)) fun x => h3 (e.trans x))).trans (h.block k h1 h2 h3)⟩
theorem Kx.drewN {w w' : World} {A R W : Nat} (h : Kx w w' A R W) (n : Nat) : Kx w (w'.drewN n) A R W := ⟨h.os, h.tape, h.output, h.size, h.block⟩
theorem Kx.box {w w' : World} {A R W b : Nat} {cs : List Value} (h : Kx w w' A R W) (hb : Box w b cs) (h1 : b ≠ A) (h2 : b ≠ R) (h3 : b ≠ W) : Box w' b cs :=
  ⟨by rw [h.size]; exact hb.lt, fun j u hu => by rw [World.cell?_of_block (w := w) (h.block b h1 h2 h3)]; exact hb.cell j u hu, fun j => by rw [World.frozen?_of_block (w := w) (h.block b h1 h2 h3)]; exact hb.free j⟩
theorem Kx.below {w w' : World} {A R W B : Nat} (h : Kx w w' A R W) (h1 : B ≤ A) (h2 : B ≤ R) (h3 : B ≤ W) : Below B w w' :=
  ⟨h.os, h.tape, h.output, Nat.le_of_eq h.size.symm, fun k hk => h.block k (by omega) (by omega) (by omega)⟩
theorem Kx.cell {w w' : World} {A R W b o : Nat} (h : Kx w w' A R W) (h1 : b ≠ A) (h2 : b ≠ R) (h3 : b ≠ W) : w'.cell? ⟨b, o, none⟩ = w.cell? ⟨b, o, none⟩ := World.cell?_of_block (w := w) (h.block b h1 h2 h3)
theorem Kx.owns {α : Type} {base E n : Nat} {C : α → List Value} {w w' : World} {A R W : Nat} {v : Value} {l : List α} (h : Kx w w' A R W) (ho : Owns base E n C w v l) (h1 : A < base) (h2 : R < base) (h3 : W < base) : Owns base E n C w' v l := by
  unfold Owns World.ownsRow at *
  refine ⟨ho.1, ?_⟩
  rcases ho.2 with hn | ⟨g, cap, cur, e, hb, hg, rest⟩
  · exact .inl hn
  · exact .inr ⟨g, cap, cur, e, hb, by rw [h.block g (by omega) (by omega) (by omega)]; exact hg, rest⟩
/-- What lines are still to come: 'q': the last line that was given ended with a line end. -/
def LinesOf (q : Bool) (r : Bs) (L : List Bs) : Prop := if q then piecesB 10 r = L else L = [] ∧ r = []
/-- What the next line is. -/
def NextOut (R W : Nat) (r : S) (q : Bool) (L : List Bs) (e : Ending) (w' : World) : Prop :=
  (r.data.toList = [] ∧ (L = [] ∨ L = [[]]) ∧ e = .returned (.tuple #[.string ⟨#[]⟩, .bool false]) ∧ Box w' R [.string r] ∧ Box w' W [.bool q]) ∨
  (∃ t L' r' q', L = t :: L' ∧ (t = [] → L' ≠ []) ∧ e = .returned (.tuple #[.string (bs t), .bool true]) ∧ Box w' R [.string r'] ∧ Box w' W [.bool q'] ∧ r'.size ≤ r.size ∧ (bs t).size ≤ r.size ∧ LinesOf q' r'.data.toList L' ∧ r'.size < r.size)
theorem cut_hit {c : UInt8} {l p r : Bs} (h : l = p ++ c :: r) (hi : Lib.index l [c] = p.length) : Lib.cut l [c] = (p, r, true) := by
  unfold Lib.cut
  rw [hi]
  simp [h]
theorem cut_miss {c : UInt8} {l : Bs} (hi : Lib.index l [c] = -1) : Lib.cut l [c] = (l, [], false) := by
  unfold Lib.cut
  rw [hi]
  simp
set_option maxHeartbeats 4000000 in
theorem next_any (A R W : Nat) (n m : Int) (r : S) (q : Bool) (L : List Bs) (w : World) (hs : r.size ≤ 1000000) (hm : w.cell? ⟨0, 0, none⟩ = some (.int .i64 m)) (hn : 0 ≤ n) (hn2 : n ≤ 4000000)
    (hA : Box w A [.int .i64 n]) (hR : Box w R [.string r]) (hW : Box w W [.bool q]) (h0 : 0 < A) (hAR : A ≠ R) (hAW : A ≠ W) (hRW : R ≠ W) (hL : LinesOf q r.data.toList L) :
    Calls Tryz.prog 24 #[.pointer (some ⟨A, 0, none⟩), .pointer (some ⟨R, 0, none⟩), .pointer (some ⟨W, 0, none⟩)] w fun e w' => Kx w w' A R W ∧ Box w' A [.int .i64 (n + 1)] ∧ NextOut R W r q L e w' := by
  have HL := Lib.hid hL
  have HS := Lib.hid hs
  have HM := Lib.hid hm
  have HA := Lib.hid hA
  have HR := Lib.hid hR
  have HW := Lib.hid hW
  have H0 := Lib.hid h0
  have HAR := Lib.hid hAR
  have HAW := Lib.hid hAW
  have HRW := Lib.hid hRW
  have a0 := hA.cell 0 _ rfl
  have a1 := hA.free 0
  have hal := hA.lt
  clear hs hm hL hA hR hW h0
  go_enter Tryz.func24, Tryz.ntmps24
  go_upto_region 2 with fail
  refine wp_world ?_
  intro W1 hW1
  have HK : Hid (Kx w W1 A R W) := by show Kx _ _ _ _ _; rw [hW1]; exact (Kx.refl _ _ _ _).set (.inl rfl) _
  have HA1 : Hid (Box W1 A [.int .i64 (n + 1)]) := by show Box _ _ _; rw [hW1]; exact HA.out.set 0 (.int .i64 (n + 1))
  have HR1 : Hid (Box W1 R [.string r]) := by show Box _ _ _; rw [hW1]; exact HR.out.grown (setCell_grown w A 0 _) (by simpa using Ne.symm HAR.out)
  have HW1 : Hid (Box W1 W [.bool q]) := by show Box _ _ _; rw [hW1]; exact HW.out.grown (setCell_grown w A 0 _) (by simpa using Ne.symm HAW.out)
  have HM1 : Hid (W1.cell? ⟨0, 0, none⟩ = some (.int .i64 m)) := by show _ = _; rw [hW1, World.cell?_setCell_far _ _ _ _ (by have := H0.out; simp; omega)]; exact HM.out
  clear hW1 a0 a1 hal
  have b0 := HR1.out.cell 0 _ rfl
  have b1 := HR1.out.free 0
  have bl := HR1.out.lt
  have c1 := HW1.out.free 0
  have c0 := HW1.out.cell 0 _ rfl
  have cl := HW1.out.lt
  by_cases hr : r.data.toList = []
  · have he : (r.toList == []) = true := by rw [str_lit, hr]; rfl
    have HRE := Lib.hid hr
    clear hr
    go_wp2
    go_ret2
    refine ⟨HK.out, HA1.out, .inl ⟨HRE.out, ?_, rfl, HR1.out, HW1.out⟩⟩
    have hl := HL.out
    unfold LinesOf at hl
    rw [HRE.out] at hl
    cases q
    · exact .inl hl.1
    · exact .inr hl.symm
  · have he : (r.toList == []) = false := by rw [str_lit]; exact decide_eq_false hr
    have hq : q = true := by
      have hl := HL.out
      unfold LinesOf at hl
      cases q
      · exact absurd hl.2 hr
      · rfl
    have HP : Hid (piecesB 10 r.data.toList = L) := by have hl := HL.out; unfold LinesOf at hl; rw [hq] at hl; exact hl
    have HRN := Lib.hid hr
    have HSZ : Hid (r.data.toList.length = r.size) := size_data r
    clear hr hq
    rcases cut_split 10 r.data.toList with ⟨h1, h2⟩ | ⟨p, rr, h1, h2, h3⟩
    · have HC := Lib.hid (Tryz.strings_Cut r ⟨#[10]⟩ m W1 (by have := HS.out; omega) HM1.out)
      rw [show (ByteArray.mk #[10]).data.toList = [10] from rfl, cut_miss h2, show (⟨r.data.toList.toArray⟩ : S) = r from data_bs r] at HC
      have HPN : Hid (L = [r.data.toList]) := by show _ = _; rw [← HP.out, piecesB_none h1]
      clear h1 h2
      go_wp2_with fail
      refine HC.out.mono ?_
      rintro e w2 ⟨rfl, k, rfl⟩
      go_wp2
      go_ret2
      refine ⟨((HK.out.drewN _).set (.inr (.inl rfl)) _).set (.inr (.inr rfl)) _, ?_, .inr ⟨r.data.toList, [], ⟨#[]⟩, false, HPN.out, fun h => absurd h HRN.out, ?_, ?_, ?_, ?_, ?_, ?_, ?_⟩⟩
      · exact ((HA1.out.drewN _).grown (setCell_grown _ R 0 _) (by simpa using HAR.out)).grown (setCell_grown _ W 0 _) (by simpa using HAW.out)
      · rw [data_bs]; rfl
      · exact (((HR1.out.drewN _).set 0 (.string ⟨#[]⟩))).grown (setCell_grown _ W 0 _) (by simpa using HRW.out)
      · exact (((HW1.out.drewN _).grown (setCell_grown _ R 0 _) (by simpa using Ne.symm HRW.out)).set 0 (.bool false))
      · exact Nat.zero_le _
      · rw [data_bs]; exact Nat.le_refl _
      · exact ⟨rfl, rfl⟩
      · show 0 < _
        have := HSZ.out; have := List.length_pos_iff.2 HRN.out; omega
    · have HC := Lib.hid (Tryz.strings_Cut r ⟨#[10]⟩ m W1 (by have := HS.out; omega) HM1.out)
      rw [show (ByteArray.mk #[10]).data.toList = [10] from rfl, cut_hit h1 h3] at HC
      have HPN : Hid (L = p :: piecesB 10 rr) := by show _ = _; rw [← HP.out, h1, piecesB_app rr h2]
      have HL1 : Hid (r.size = p.length + (rr.length + 1)) := by show _ = _; rw [← HSZ.out, h1]; simp
      have HC := Lib.hid (show Calls _ _ _ _ fun e w' => e = .returned (.tuple #[.string (bs p), .string (bs rr), .bool true]) ∧ ∃ n, w' = W1.drewN n from HC.out)
      clear h1 h2 h3
      go_wp2_with fail
      refine HC.out.mono ?_
      rintro e w2 ⟨rfl, k, rfl⟩
      go_wp2
      go_ret2
      refine ⟨((HK.out.drewN _).set (.inr (.inl rfl)) _).set (.inr (.inr rfl)) _, ?_, .inr ⟨p, piecesB 10 rr, bs rr, true, HPN.out, fun _ => piecesB_ne _ _, rfl, ?_, ?_, ?_, ?_, ?_, ?_⟩⟩
      · exact ((HA1.out.drewN _).grown (setCell_grown _ R 0 _) (by simpa using HAR.out)).grown (setCell_grown _ W 0 _) (by simpa using HAW.out)
      · exact (((HR1.out.drewN _).set 0 (.string (bs rr)))).grown (setCell_grown _ W 0 _) (by simpa using HRW.out)
      · exact (((HW1.out.drewN _).grown (setCell_grown _ R 0 _) (by simpa using Ne.symm HRW.out)).set 0 (.bool true))
      · have := HL1.out; rw [bs_size]; omega
      · have := HL1.out; rw [bs_size]; omega
      · show piecesB 10 (bs rr).data.toList = _; rw [bs_data]
      · have := HL1.out; rw [bs_size]; omega
set_option maxHeartbeats 4000000 in
theorem wrong_any (A : Nat) (n : Int) (w : World) (hA : Box w A [.int .i64 n]) :
    Calls Tryz.prog 26 #[.pointer (some ⟨A, 0, none⟩)] w fun e w' => e = .returned (.tuple #[.agg #[.string ⟨#[]⟩, .string ⟨#[]⟩, .string ⟨#[]⟩, .slice none 0 0], .int .i64 1, .int .i64 n]) ∧ Below w.heap.size w w' := by
  have HA := Lib.hid hA
  clear hA
  go_enter Tryz.func26, Tryz.ntmps26
  go_upto_region 1 with fail
  refine wp_world ?_
  intro W hW
  have x2 : Box W w.heap.size [.string ⟨#[]⟩, .string ⟨#[]⟩, .string ⟨#[]⟩, .slice none 0 0] := by rw [hW]; exact Box.new w [.string ⟨#[]⟩, .string ⟨#[]⟩, .string ⟨#[]⟩, .slice none 0 0] _ _ rfl
  have hb : Below w.heap.size w W := by rw [hW]; exact (Below.refl _ w).alloc (Nat.le_refl _) _
  have a0 := (HA.out.below hb HA.out.lt).cell 0 _ rfl
  have hne : ¬ A = w.heap.size := by have := HA.out.lt; omega
  clear hW
  have HX := Lib.hid x2
  have HB := Lib.hid hb
  have u0 := x2.free 0
  have u1 := x2.free 1
  have u2 := x2.free 2
  have u3 := x2.free 3
  have z0 := x2.cell 0 _ rfl
  have z1 := x2.cell 1 _ rfl
  have z2 := x2.cell 2 _ rfl
  have z3 := x2.cell 3 _ rfl
  have lz := x2.lt
  clear x2 hb
  go_big_region
  go_wp2
  refine bodyPost_ret (v := .tuple #[.agg #[.string ⟨#[]⟩, .string ⟨#[]⟩, .string ⟨#[]⟩, .slice none 0 0], .int .i64 1, .int .i64 n]) (by simp [results, Tryz.results26, go_sem, z0, z1, z2, z3]) rfl ?_
  refine ⟨rfl, ?_⟩
  first
    | exact belowN ((((HB.out.setCell (by simp) _).setCell (by simp) _).setCell (by simp) _).setCell (by simp) _) 1
    | exact ((((belowN HB.out 1).setCell (by simp) _).setCell (by simp) _).setCell (by simp) _).setCell (by simp) _

end Go.Proofs.YtopknpainclmgaaGreatDoor
