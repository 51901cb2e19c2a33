/- Walks: diff.Join; the conditions stand in the theorem. -/
import Derived.Test.YtmcjpmogjmnfpaaL37
import Derived.Test.YtmcjpmogjmnfpaaL15
import Derived.Laws.EntriesVeiled
namespace Go.Proofs.Ytmcjpmogjmnfpaa
open Go Go.RowKit

def JoinOut (w : World) (r : Option (List Edit)) (e : Ending) (w' : World) : Prop := ∃ ao cap, e = .returned (.tuple #[.slice ao (r.getD []).length cap, .bool r.isSome]) ∧ SliceOf 18 editC w' (.slice ao (r.getD []).length cap) (r.getD []) ∧ Below w.heap.size w w'
theorem JoinOut.no {w w' : World} (hb : Below w.heap.size w w') : JoinOut w none (.returned (.tuple #[.slice none 0 0, .bool false])) w' := ⟨none, 0, rfl, SliceOf.nil, hb⟩

set_option maxRecDepth 100000 in
set_option maxHeartbeats 8000000 in
theorem join_any2 (l m : List Edit) (lv mv : Value) (w : World) (hlv : SliceOf 18 editC w lv l) (hmv : SliceOf 18 editC w mv m) (hl : l.length + m.length ≤ 1000) :
    Calls Try.prog 20 #[lv, mv] w (JoinOut w (joinR l m)) := by
  obtain ⟨ao, ac, rfl⟩ := hlv.shape
  obtain ⟨bo, bc, rfl⟩ := hmv.shape
  have HA := Lib.hid hlv
  have HB := Lib.hid hmv
  have HL := Lib.hid hl
  clear hlv hmv hl
  go_enter Try.func20, Try.ntmps20
  go_upto_region 1 with fail
  refine wp_world ?_
  intro W hW
  have x4 : Box W w.heap.size [.slice none 0 0] := by rw [hW]; exact (Box.new w _ _ _ rfl).alloc _
  have x5 : Box W (w.heap.size + 1) [.bool false] := by rw [hW]; exact Box.new _ _ _ _ (by simp)
  have hB : Below w.heap.size w W := by rw [hW]; exact ((Below.refl _ w).alloc (Nat.le_refl _) _).alloc (by simp) _
  clear hW
  have HX4 := Lib.hid x4
  have HX5 := Lib.hid x5
  have HBW := Lib.hid hB
  have hs := hB.size
  clear x4 x5 hB
  have HR1 : Hid (mayE l = false → joinR l m = none) := fun h => by unfold joinR; rw [h]; rfl
  have HR2 : Hid (mayE l = true → mayE m = false → joinR l m = none) := fun h h' => by unfold joinR; rw [h, h']; rfl
  have HR3 : Hid (mayE l = true → mayE m = true → joinR l m = if okM l m then some (joinE l m) else none) := fun h h' => by unfold joinR; rw [h, h']; rfl
  go_wp2_with fail
  refine (may_any l (.slice ao l.length ac) W (HA.out.below HBW.out)).mono ?_
  rintro e w1 ⟨rfl, hb1⟩
  have HY4 := Lib.hid (HX4.out.below hb1 HX4.out.lt)
  have HY5 := Lib.hid (HX5.out.below hb1 HX5.out.lt)
  have HB1 := Lib.hid (HBW.out.trans (hb1.mono hs))
  have s1 := HB1.out.size
  clear hb1 HX4 HX5
  generalize hma : mayE l = ma at *
  have HMA := Lib.hid hma
  clear hma
  cases ma with
  | false =>
    have HE := Lib.hid (HR1.out rfl)
    have d4 := HY4.out.cell 0 _ rfl
    have f4 := HY4.out.free 0
    have l4 := HY4.out.lt
    have d5 := HY5.out.cell 0 _ rfl
    have f5 := HY5.out.free 0
    have l5 := HY5.out.lt
    have HF : Hid (∀ u v, Below w.heap.size w ((w1.setCell ⟨w.heap.size, 0, none⟩ u).setCell ⟨w.heap.size + 1, 0, none⟩ v)) := fun u v => (HB1.out.setCell (by simp) _).setCell (by simp) _
    go_wp2
    refine bodyPost_ret (v := .tuple #[.slice none 0 0, .bool false]) (by simp [results, Try.results20, go_sem, d4, d5]) rfl ?_
    rw [HE.out]
    exact JoinOut.no (HF.out _ _)
  | true =>
    go_wp2_with fail
    refine (may_any m (.slice bo m.length bc) w1 (HB.out.below HB1.out)).mono ?_
    rintro e w2 ⟨rfl, hb2⟩
    have HX4 := Lib.hid (HY4.out.below hb2 HY4.out.lt)
    have HX5 := Lib.hid (HY5.out.below hb2 HY5.out.lt)
    have HB2 := Lib.hid (HB1.out.trans (hb2.mono s1))
    have s2 := HB2.out.size
    clear hb2 HY4 HY5
    have d4 := HX4.out.cell 0 _ rfl
    have f4 := HX4.out.free 0
    have l4 := HX4.out.lt
    have d5 := HX5.out.cell 0 _ rfl
    have f5 := HX5.out.free 0
    have l5 := HX5.out.lt
    generalize hmb : mayE m = mb at *
    have HMB := Lib.hid hmb
    clear hmb
    cases mb with
    | false =>
      have HE := Lib.hid (HR2.out (by trivial) (by trivial))
      have HF : Hid (∀ u v, Below w.heap.size w ((w2.setCell ⟨w.heap.size, 0, none⟩ u).setCell ⟨w.heap.size + 1, 0, none⟩ v)) := fun u v => (HB2.out.setCell (by simp) _).setCell (by simp) _
      go_wp2
      refine bodyPost_ret (v := .tuple #[.slice none 0 0, .bool false]) (by simp [results, Try.results20, go_sem, d4, d5]) rfl ?_
      rw [HE.out]
      exact JoinOut.no (HF.out _ _)
    | true =>
      have HE := Lib.hid (HR3.out (by trivial) (by trivial))
      go_upto_region 4 with fail
      refine wp_world ?_
      intro W3 hW3
      have x4 : Box W3 w.heap.size [.slice none 0 0] := by rw [hW3]; exact HX4.out.grown (setCell_grown _ _ _ _) (by simp)
      have x5 : Box W3 (w.heap.size + 1) [.bool true] := by rw [hW3]; exact HX5.out.set 0 _
      have hb3 : Below w.heap.size w W3 := by rw [hW3]; exact HB2.out.setCell (by simp) _
      clear hW3 d4 f4 l4 d5 f5 l5
      have HB3 := Lib.hid hb3
      have HSD := Lib.hid (sideE_any l m (.slice ao l.length ac) (.slice bo m.length bc) w W3 w.heap.size hb3 (Nat.le_refl _) HA.out HB.out ⟨_, x4, x5, Owns.nil⟩ HL.out)
      clear x4 x5 hb3
      go_wp2_with fail
      refine HSD.out.mono ?_
      rintro e w4 ⟨rfl, ⟨v, hx, hk, ho⟩, hb4⟩
      obtain ⟨vo, vc, rfl⟩ := ho.shape
      have d4 := hx.cell 0 _ rfl
      have f4 := hx.free 0
      have l4 := hx.lt
      have d5 := hk.cell 0 _ rfl
      have f5 := hk.free 0
      have l5 := hk.lt
      have HO := Lib.hid ho
      have HB4 := Lib.hid (HB3.out.trans hb4)
      clear hx hk ho hb4
      generalize okM l m = ok at *
      cases ok with
      | false =>
        have HF : Hid (∀ u v, Below w.heap.size w ((w4.setCell ⟨w.heap.size, 0, none⟩ u).setCell ⟨w.heap.size + 1, 0, none⟩ v)) := fun u v => (HB4.out.setCell (by simp) _).setCell (by simp) _
        go_wp2
        refine bodyPost_ret (v := .tuple #[.slice none 0 0, .bool false]) (by simp [results, Try.results20, go_sem, d4, d5]) rfl ?_
        rw [HE.out]
        exact JoinOut.no (HF.out _ _)
      | true =>
        have HF : Hid (∀ u v, Below w.heap.size w ((w4.setCell ⟨w.heap.size, 0, none⟩ u).setCell ⟨w.heap.size + 1, 0, none⟩ v)) := fun u v => (HB4.out.setCell (by simp) _).setCell (by simp) _
        have HO2 : Hid (∀ u v, SliceOf 18 editC ((w4.setCell ⟨w.heap.size, 0, none⟩ u).setCell ⟨w.heap.size + 1, 0, none⟩ v) (.slice vo (joinE l m).length vc) (joinE l m)) := fun u v => ((HO.out.keptR (setCell_grown _ _ _ _) (by omega)).keptR (setCell_grown _ _ _ _) (by omega)).slice editC_len
        go_wp2
        refine bodyPost_ret (v := .tuple #[.slice vo (joinE l m).length vc, .bool true]) (by simp [results, Try.results20, go_sem, d4, d5]) rfl ?_
        rw [HE.out]
        exact ⟨vo, vc, rfl, HO2.out _ _, HF.out _ _⟩

end Go.Proofs.Ytmcjpmogjmnfpaa
