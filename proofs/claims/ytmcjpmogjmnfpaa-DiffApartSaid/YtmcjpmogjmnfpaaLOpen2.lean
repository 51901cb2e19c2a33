/- From the readings of the arguments to what the walks ask: edits that can be read are some in memory. -/
import Derived.Test.YtmcjpmogjmnfpaaLOpen
namespace Go.Proofs.Ytmcjpmogjmnfpaa
open Go Go.RowKit

variable {H : Type} {enc : TypeId × Value → H} {W : World} {sp : Nat → Bool} {held : Bool}
theorem cellsOf_editE : Try.prog.cellsOf 46 = 18 := by kernel_rfl
theorem cellsOf_boolE : Try.prog.cellsOf 4 = 1 := by kernel_rfl
def editSm (e : Edit) : Prop := keySm e.key ∧ pinSm e.old ∧ pinSm e.new
theorem lenE18 {l : List Value} (h : l.length = 18) : ∃ c0 c1 c2 c3 c4 c5 c6 c7 c8 c9 c10 c11 c12 c13 c14 c15 c16 c17, l = [c0, c1, c2, c3, c4, c5, c6, c7, c8, c9, c10, c11, c12, c13, c14, c15, c16, c17] := by
  match l, h with
  | [c0, c1, c2, c3, c4, c5, c6, c7, c8, c9, c10, c11, c12, c13, c14, c15, c16, c17], _ => exact ⟨c0, c1, c2, c3, c4, c5, c6, c7, c8, c9, c10, c11, c12, c13, c14, c15, c16, c17, rfl⟩

theorem opens_editE : Opens enc W sp held 46 editC editSm := fun fuel cs x h => by
  obtain ⟨xs, n, -, -, hl, hxs, hf⟩ := DataW.trod_struct Try.underlying46 h
  rw [cellsOf_editE] at hl
  obtain ⟨c0, c1, c2, c3, c4, c5, c6, c7, c8, c9, c10, c11, c12, c13, c14, c15, c16, c17, rfl⟩ := lenE18 hl
  have f0 : DataW.trod enc Try.prog W 0 sp held n 42 (([c0, c1, c2, c3, c4, c5, c6, c7, c8, c9, c10, c11, c12, c13, c14, c15, c16, c17].drop 0).take (Try.prog.cellsOf 42)) = xs[0]? := hf 0 _ rfl
  rw [cellsOf_keyE, List.getElem?_eq_getElem (by rw [hxs]; decide)] at f0
  have f1 : DataW.trod enc Try.prog W 0 sp held n 4 (([c0, c1, c2, c3, c4, c5, c6, c7, c8, c9, c10, c11, c12, c13, c14, c15, c16, c17].drop 4).take (Try.prog.cellsOf 4)) = xs[1]? := hf 1 _ rfl
  rw [cellsOf_boolE, List.getElem?_eq_getElem (by rw [hxs]; decide)] at f1
  have f2 : DataW.trod enc Try.prog W 0 sp held n 4 (([c0, c1, c2, c3, c4, c5, c6, c7, c8, c9, c10, c11, c12, c13, c14, c15, c16, c17].drop 5).take (Try.prog.cellsOf 4)) = xs[2]? := hf 2 _ rfl
  rw [cellsOf_boolE, List.getElem?_eq_getElem (by rw [hxs]; decide)] at f2
  have f3 : DataW.trod enc Try.prog W 0 sp held n 44 (([c0, c1, c2, c3, c4, c5, c6, c7, c8, c9, c10, c11, c12, c13, c14, c15, c16, c17].drop 6).take (Try.prog.cellsOf 44)) = xs[3]? := hf 3 _ rfl
  rw [cellsOf_pinE, List.getElem?_eq_getElem (by rw [hxs]; decide)] at f3
  have f4 : DataW.trod enc Try.prog W 0 sp held n 44 (([c0, c1, c2, c3, c4, c5, c6, c7, c8, c9, c10, c11, c12, c13, c14, c15, c16, c17].drop 12).take (Try.prog.cellsOf 44)) = xs[4]? := hf 4 _ rfl
  rw [cellsOf_pinE, List.getElem?_eq_getElem (by rw [hxs]; decide)] at f4
  obtain ⟨a0, h0, k0⟩ := opens_keyE _ _ _ f0
  obtain ⟨a1, h1, k1⟩ := opens_bool _ _ _ f1
  obtain ⟨a2, h2, k2⟩ := opens_bool _ _ _ f2
  obtain ⟨a3, h3, k3⟩ := opens_pinE _ _ _ f3
  obtain ⟨a4, h4, k4⟩ := opens_pinE _ _ _ f4
  clear hf f0 f1 f2 f3 f4
  cases h0
  cases h1
  cases h2
  cases h3
  cases h4
  exact ⟨⟨a0, a1, a2, a3, a4⟩, rfl, k0, k3, k4⟩

theorem opens_edits : Opens enc W sp held 29 (fun v : Value => [v]) (fun v => ∃ l, SliceOf 18 editC W v l ∧ ∀ a ∈ l, editSm a) := opens_slice Try.underlying29 cellsOf_editE (by decide) opens_editE

end Go.Proofs.Ytmcjpmogjmnfpaa
