/- Walks: diff.Edits; the conditions stand in the theorem. -/
import Derived.Test.YtmcjpmogjmnfpaaL9
import Derived.Laws.EntriesVeiled
namespace Go.Proofs.Ytmcjpmogjmnfpaa
open Go Go.RowKit

def editsR (a b : Lock) : List Edit := if lockMay a && lockMay b then editsP a.pins b.pins else []
def EditsOut (w : World) (l : List Edit) (e : Ending) (w' : World) : Prop := ∃ v, e = .returned v ∧ Owns w.heap.size 46 18 editC w' v l ∧ Below w.heap.size w w'
theorem EditsOut.intro {w w' : World} {l : List Edit} {v : Value} {B : Nat} (h : Owns (B + 1) 46 18 editC w' v l) (hB : w.heap.size ≤ B) (hb : Below w.heap.size w w') : EditsOut w l (.returned v) w' :=
  ⟨v, rfl, h.base_mono (by omega), hb⟩
theorem EditsOut.none {w w' : World} (hb : Below w.heap.size w w') : EditsOut w [] (.returned (.slice none 0 0)) w' := ⟨_, rfl, Owns.nil, hb⟩

set_option maxRecDepth 100000 in
set_option maxHeartbeats 8000000 in
theorem edits_any (a b : Lock) (av bv : Value) (w : World) (hav : SliceOf 6 pinC w av a.pins) (hbv : SliceOf 6 pinC w bv b.pins) (hsa : lockSm a) (hsb : lockSm b) (hl : a.pins.length + b.pins.length ≤ 1000) :
    Calls Try.prog 9 #[.agg #[.string a.root.group, .string a.root.artifact, .string a.root.version, av], .agg #[.string b.root.group, .string b.root.artifact, .string b.root.version, bv]] w (EditsOut w (editsR a b)) := by
  obtain ⟨ao, ac, rfl⟩ := hav.shape
  obtain ⟨bo, bc, rfl⟩ := hbv.shape
  have HA := Lib.hid hav
  have HB := Lib.hid hbv
  have HSA := Lib.hid hsa
  have HSB := Lib.hid hsb
  have HL := Lib.hid hl
  clear hav hbv hsa hsb hl
  go_enter Try.func9, Try.ntmps9
  go_upto_region 1 with fail
  refine wp_world ?_
  intro W hW
  have x2 : Box W w.heap.size [.string a.root.group, .string a.root.artifact, .string a.root.version, .slice ao a.pins.length ac] := by rw [hW]; exact ((Box.new w _ _ _ rfl).alloc _).alloc _
  have x3 : Box W (w.heap.size + 1) [.string b.root.group, .string b.root.artifact, .string b.root.version, .slice bo b.pins.length bc] := by rw [hW]; exact (Box.new _ _ _ _ (by simp)).alloc _
  have x4 : Box W (w.heap.size + 1 + 1) [.slice none 0 0] := by rw [hW]; exact Box.new _ _ _ _ (by simp)
  have hB : Below w.heap.size w W := by rw [hW]; exact (((Below.refl _ w).alloc (Nat.le_refl _) _).alloc (by simp) _).alloc (by simp; omega) _
  clear hW
  have HX2 := Lib.hid x2
  have HX3 := Lib.hid x3
  have HX4 := Lib.hid x4
  have HBW := Lib.hid hB
  have hs := hB.size
  have y0 := x2.cell 0 _ rfl
  have y1 := x2.cell 1 _ rfl
  have y2 := x2.cell 2 _ rfl
  have y3 := x2.cell 3 _ rfl
  clear x2 x3 x4 hB
  have HM1 := Lib.hid (lockMay_any a (.slice ao a.pins.length ac) W (HA.out.below HBW.out) HSA.out)
  have HR1 : Hid (lockMay a = false → editsR a b = []) := fun h => by unfold editsR; rw [h]; rfl
  have HR2 : Hid (lockMay a = true → lockMay b = false → editsR a b = []) := fun h h' => by unfold editsR; rw [h, h']; rfl
  have HR3 : Hid (lockMay a = true → lockMay b = true → editsR a b = mergeP oneE a.pins b.pins) := fun h h' => by unfold editsR; rw [h, h']; rfl
  go_wp2_with fail
  refine HM1.out.mono ?_
  rintro e w1 ⟨rfl, hb1⟩
  have z2 := HX2.out.below hb1 HX2.out.lt
  have z3 := HX3.out.below hb1 HX3.out.lt
  have z4 := HX4.out.below hb1 HX4.out.lt
  have HX2' := Lib.hid z2
  have HX3' := Lib.hid z3
  have HX4' := Lib.hid z4
  have HB1 := Lib.hid (HBW.out.trans (hb1.mono hs))
  have s1 := HB1.out.size
  have l4 := z4.lt
  have d4 := z4.cell 0 _ rfl
  have f4 := z4.free 0
  have d30 := z3.cell 0 _ rfl
  have d31 := z3.cell 1 _ rfl
  have d32 := z3.cell 2 _ rfl
  have d33 := z3.cell 3 _ rfl
  clear z2 z3 z4 hb1 y0 y1 y2 y3 HX2 HX3 HX4
  generalize hma : lockMay a = ma at *
  have HMA := Lib.hid hma
  clear hma
  cases ma with
  | false =>
    have HE := Lib.hid (HR1.out rfl)
    have HF : Hid (∀ v, Below w.heap.size w (w1.setCell ⟨w.heap.size + 1 + 1, 0, none⟩ v)) := fun v => HB1.out.trans ((Below.refl _ w1).setCell (by simp; omega) _)
    go_wp2
    refine bodyPost_ret (v := .slice none 0 0) (by simp [results, Try.results9, go_sem, d4]) rfl ?_
    rw [HE.out]
    exact EditsOut.none (HF.out _)
  | true =>
    have HM2 := Lib.hid (lockMay_any b (.slice bo b.pins.length bc) w1 (HB.out.below HB1.out) HSB.out)
    go_wp2_with fail
    refine HM2.out.mono ?_
    rintro e w2 ⟨rfl, hb2⟩
    have q2 := HX2'.out.below hb2 HX2'.out.lt
    have q3 := HX3'.out.below hb2 HX3'.out.lt
    have q4 := HX4'.out.below hb2 HX4'.out.lt
    have HB2 := Lib.hid (HB1.out.trans (hb2.mono s1))
    have s2 := HB2.out.size
    clear d4 f4 d30 d31 d32 d33 l4 hb2 HX2' HX3' HX4'
    have l4 := q4.lt
    have d4 := q4.cell 0 _ rfl
    have f4 := q4.free 0
    have d23 := q2.cell 3 _ rfl
    have d33 := q3.cell 3 _ rfl
    have HQ4 := Lib.hid q4
    clear q2 q3 q4
    generalize hmb : lockMay b = mb at *
    have HMB := Lib.hid hmb
    clear hmb
    cases mb with
    | false =>
      have HE := Lib.hid (HR2.out (by trivial) (by trivial))
      have HF : Hid (∀ v, Below w.heap.size w (w2.setCell ⟨w.heap.size + 1 + 1, 0, none⟩ v)) := fun v => HB2.out.trans ((Below.refl _ w2).setCell (by simp; omega) _)
      go_wp2
      refine bodyPost_ret (v := .slice none 0 0) (by simp [results, Try.results9, go_sem, d4]) rfl ?_
      rw [HE.out]
      exact EditsOut.none (HF.out _)
    | true =>
      have HE := Lib.hid (HR3.out (by trivial) (by trivial))
      have HSD := Lib.hid (side_any a.pins b.pins (.slice ao a.pins.length ac) (.slice bo b.pins.length bc) w w2 (w.heap.size + 1 + 1) HB2.out (by omega) HA.out HB.out ⟨_, HQ4.out, Owns.nil⟩ HL.out)
      go_wp2_with fail
      refine HSD.out.mono ?_
      rintro e w3 ⟨rfl, ⟨v, hx, ho⟩, hb3⟩
      obtain ⟨vo, vc, rfl⟩ := ho.shape
      have l5 := hx.lt
      have d5 := hx.cell 0 _ rfl
      have f5 := hx.free 0
      have HO := Lib.hid ho
      have HX := Lib.hid hx
      have HB3 := Lib.hid (HB2.out.trans (hb3.mono (by omega)))
      clear hx ho hb3 d4 f4 d23 d33 l4
      go_wp2
      refine bodyPost_ret (v := .slice vo (mergeP oneE a.pins b.pins).length vc) (by simp [results, Try.results9, go_sem, d5]) rfl ?_
      rw [HE.out]
      exact EditsOut.intro (HO.out.keptR (setCell_grown _ _ _ _) (by omega)) (by omega) (HB3.out.trans ((Below.refl _ w3).setCell (by simp; omega) _))

end Go.Proofs.Ytmcjpmogjmnfpaa
