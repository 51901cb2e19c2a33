/- From the readings of the arguments to what the walks ask: locks that can be read are some in memory. -/
import Derived.Test.YtopknpainclmgaaGreatDoorL4
import Derived.Test.YtopknpainclmgaaGreatDoorD14
import Derived.ProofKit
import Derived.Deep.Slices
namespace Go.Proofs.YtopknpainclmgaaGreatDoor
open Go Go.RowKit

variable {H : Type} {enc : TypeId × Value → H} {W : World} {sp : Nat → Bool} {held : Bool}
/-- Whatever reads as type t are the cells of some a that is all right. -/
def Opens {α : Type} (enc : TypeId × Value → H) (W : World) (sp : Nat → Bool) (held : Bool) (t : TypeId) (C : α → List Value) (Ok : α → Prop) : Prop :=
  ∀ fuel cs x, DataW.trod enc Tryz.prog W 0 sp held fuel t cs = some x → ∃ a, cs = C a ∧ Ok a
theorem opens_string : Opens enc W sp held 9 strC (fun s => s.size ≤ maxLen) := fun _ _ _ h => by
  obtain ⟨s, h1, -, h2⟩ := DataW.trod_string Tryz.underlying9 h
  exact ⟨s, h1, h2⟩
theorem opens_int : Opens enc W sp held 3 (fun n => [.int .i64 n]) (fun n => (Lit.int .i64 n).wf = true) := fun _ _ _ h => by
  obtain ⟨s, h1, -, h2⟩ := DataW.trod_int Tryz.underlying3 h
  exact ⟨s, h1, h2⟩
theorem cells_of {w : World} {a : Addr} {n : Nat} {cs : List Value} (h : w.cells? 0 a n = some cs) (hn : 0 < n) : cs.length = n ∧ a.spot = none ∧ a.block < w.heap.size ∧ ∀ j u, cs[j]? = some u → w.cell? ⟨a.block, a.off + j, none⟩ = some u := by
  unfold World.cells? at h
  rw [if_pos (Nat.zero_le _)] at h
  have hl : cs.length = n := by simpa using mapM_some_length h
  have hg : ∀ j, j < n → w.cell? (a.add j) = cs[j]? := fun j hj => mapM_some_get h j j (by simp [hj])
  have h00 : w.cell? a = some cs[0] := by
    have := hg 0 hn
    rw [show a.add 0 = a from rfl] at this
    rw [this]; simp
  have hsp : a.spot = none := by
    cases hs : a.spot with
    | none => rfl
    | some x =>
      exfalso
      simp only [World.cell?, hs, Option.isSome_some, if_true] at h00
      split at h00 <;> cases h00
  obtain ⟨b, o, s⟩ := a
  cases hsp
  refine ⟨hl, rfl, World.block_lt_of_cell? w _ h00, fun j u hu => ?_⟩
  have hj : j < n := by rw [← hl]; exact (List.getElem?_eq_some_iff.1 hu).1
  have := hg j hj
  rw [Addr.add_lit, hu] at this
  exact this
theorem list_snoc {α : Type} {l : List α} {y : α} {i : Nat} {z : α} (h : (l ++ [y])[i]? = some z) : (i < l.length ∧ l[i]? = some z) ∨ (i = l.length ∧ z = y) := by
  by_cases hi : i < l.length
  · left; rw [List.getElem?_append_left hi] at h; exact ⟨hi, h⟩
  · right
    rw [List.getElem?_append_right (by omega)] at h
    by_cases h1 : i - l.length = 0
    · rw [h1] at h; simp at h; exact ⟨by omega, h.symm⟩
    · rw [List.getElem?_eq_none (by simp; omega)] at h; cases h
theorem list_of {α : Type} {len : Nat} {P : Nat → α → Prop} (h : ∀ i, i < len → ∃ y, P i y) : ∃ l : List α, l.length = len ∧ ∀ i y, l[i]? = some y → P i y := by
  induction len with
  | zero => exact ⟨[], rfl, fun i y h => by simp at h⟩
  | succ len ih =>
    obtain ⟨l, hl, hP⟩ := ih (fun i hi => h i (by omega))
    obtain ⟨y, hy⟩ := h len (by omega)
    refine ⟨l ++ [y], by simp [hl], fun i z hz => ?_⟩
    rcases list_snoc hz with ⟨-, h1⟩ | ⟨rfl, rfl⟩
    · exact hP i z h1
    · rw [hl]; exact hy
theorem opens_slice {α : Type} {t e n : Nat} {C : α → List Value} {Ok : α → Prop} (ht : Tryz.prog.underlying t = some (.slice e)) (hn : Tryz.prog.cellsOf e = n) (h0 : 0 < n) (he : Opens enc W sp held e C Ok) :
    Opens enc W sp held t (fun v : Value => [v]) (fun v => ∃ l, SliceOf n C W v l ∧ ∀ a ∈ l, Ok a) := fun fuel cs x h => by
  rcases Deep.open_slice ht h with ⟨rfl, -⟩ | ⟨a, len, cap, m, n', D, Pl, rfl, -, hlc, hcm, hm, -, hel⟩
  · exact ⟨_, rfl, [], SliceOf.nil, by simp⟩
  · rw [hn] at hel
    have hlm : len ≤ m := by rw [hm]; split <;> omega
    obtain ⟨l, hl, hP⟩ := list_of (len := len) (P := fun i y => W.cells? 0 (a.add (i * n)) n = some (C y) ∧ Ok y) (fun i hi => by
      obtain ⟨cs', h1, h2⟩ := hel i (by omega)
      obtain ⟨y, rfl, hy⟩ := he _ _ _ h2
      exact ⟨y, h1, hy⟩)
    refine ⟨_, rfl, l, ⟨some a, cap, by rw [hl], by omega, hcm, by simp, fun i y hy => ?_⟩, fun y hy => ?_⟩
    · have hil : i < len := by rw [← hl]; exact (List.getElem?_eq_some_iff.1 hy).1
      obtain ⟨y0, hy0⟩ : ∃ y0, l[0]? = some y0 := ⟨l[0]'(by omega), by simp⟩
      obtain ⟨-, hs, hb, -⟩ := cells_of (hP 0 y0 hy0).1 h0
      rw [Nat.zero_mul, show a.add 0 = a from rfl] at hs hb
      obtain ⟨b, o, s⟩ := a
      cases hs
      obtain ⟨-, -, -, hc⟩ := cells_of (hP i y hy).1 h0
      rw [Addr.add_lit] at hc
      exact ⟨b, o, rfl, hb, hc⟩
    · obtain ⟨i, hi, rfl⟩ := List.mem_iff_getElem.1 hy
      exact (hP i _ (by simp [hi])).2
theorem cellsOf_str : Tryz.prog.cellsOf 9 = 1 := by kernel_rfl
theorem cellsOf_int : Tryz.prog.cellsOf 3 = 1 := by kernel_rfl
theorem cellsOf_gavE : Tryz.prog.cellsOf 23 = 3 := by kernel_rfl
theorem cellsOf_keyE : Tryz.prog.cellsOf 28 = 4 := by kernel_rfl
theorem cellsOf_pinE : Tryz.prog.cellsOf 33 = 6 := by kernel_rfl
theorem cellsOf_lockE : Tryz.prog.cellsOf 26 = 4 := by kernel_rfl
theorem cellsOf_pinsE : Tryz.prog.cellsOf 24 = 1 := by kernel_rfl
theorem le_max {n : Nat} (h : n ≤ maxLen) : n ≤ 9223372036854775807 := Nat.le_trans h (by decide)
theorem lenE3 {l : List Value} (h : l.length = 3) : ∃ c0 c1 c2, l = [c0, c1, c2] := by
  match l, h with
  | [c0, c1, c2], _ => exact ⟨c0, c1, c2, rfl⟩
theorem lenE4 {l : List Value} (h : l.length = 4) : ∃ c0 c1 c2 c3, l = [c0, c1, c2, c3] := by
  match l, h with
  | [c0, c1, c2, c3], _ => exact ⟨c0, c1, c2, c3, rfl⟩
theorem lenE6 {l : List Value} (h : l.length = 6) : ∃ c0 c1 c2 c3 c4 c5, l = [c0, c1, c2, c3, c4, c5] := by
  match l, h with
  | [c0, c1, c2, c3, c4, c5], _ => exact ⟨c0, c1, c2, c3, c4, c5, rfl⟩
theorem opens_gavE : Opens enc W sp held 23 gavC gavSm := fun fuel cs x h => by
  obtain ⟨xs, n, -, -, hl, hxs, hf⟩ := DataW.trod_struct Tryz.underlying23 h
  rw [cellsOf_gavE] at hl
  obtain ⟨c0, c1, c2, rfl⟩ := lenE3 hl
  have f0 : DataW.trod enc Tryz.prog W 0 sp held n 9 (([c0, c1, c2].drop 0).take (Tryz.prog.cellsOf 9)) = xs[0]? := hf 0 _ rfl
  rw [cellsOf_str, List.getElem?_eq_getElem (by rw [hxs]; decide)] at f0
  have f1 : DataW.trod enc Tryz.prog W 0 sp held n 9 (([c0, c1, c2].drop 1).take (Tryz.prog.cellsOf 9)) = xs[1]? := hf 1 _ rfl
  rw [cellsOf_str, List.getElem?_eq_getElem (by rw [hxs]; decide)] at f1
  have f2 : DataW.trod enc Tryz.prog W 0 sp held n 9 (([c0, c1, c2].drop 2).take (Tryz.prog.cellsOf 9)) = xs[2]? := hf 2 _ rfl
  rw [cellsOf_str, List.getElem?_eq_getElem (by rw [hxs]; decide)] at f2
  obtain ⟨a0, h0, k0⟩ := opens_string _ _ _ f0
  obtain ⟨a1, h1, k1⟩ := opens_string _ _ _ f1
  obtain ⟨a2, h2, k2⟩ := opens_string _ _ _ f2
  clear hf f0 f1 f2
  cases h0
  cases h1
  cases h2
  exact ⟨⟨a0, a1, a2⟩, rfl, le_max k0, le_max k1, le_max k2⟩
theorem opens_keyE : Opens enc W sp held 28 keyC keySm := fun fuel cs x h => by
  obtain ⟨xs, n, -, -, hl, hxs, hf⟩ := DataW.trod_struct Tryz.underlying28 h
  rw [cellsOf_keyE] at hl
  obtain ⟨c0, c1, c2, c3, rfl⟩ := lenE4 hl
  have f0 : DataW.trod enc Tryz.prog W 0 sp held n 9 (([c0, c1, c2, c3].drop 0).take (Tryz.prog.cellsOf 9)) = xs[0]? := hf 0 _ rfl
  rw [cellsOf_str, List.getElem?_eq_getElem (by rw [hxs]; decide)] at f0
  have f1 : DataW.trod enc Tryz.prog W 0 sp held n 9 (([c0, c1, c2, c3].drop 1).take (Tryz.prog.cellsOf 9)) = xs[1]? := hf 1 _ rfl
  rw [cellsOf_str, List.getElem?_eq_getElem (by rw [hxs]; decide)] at f1
  have f2 : DataW.trod enc Tryz.prog W 0 sp held n 9 (([c0, c1, c2, c3].drop 2).take (Tryz.prog.cellsOf 9)) = xs[2]? := hf 2 _ rfl
  rw [cellsOf_str, List.getElem?_eq_getElem (by rw [hxs]; decide)] at f2
  have f3 : DataW.trod enc Tryz.prog W 0 sp held n 9 (([c0, c1, c2, c3].drop 3).take (Tryz.prog.cellsOf 9)) = xs[3]? := hf 3 _ rfl
  rw [cellsOf_str, List.getElem?_eq_getElem (by rw [hxs]; decide)] at f3
  obtain ⟨a0, h0, k0⟩ := opens_string _ _ _ f0
  obtain ⟨a1, h1, k1⟩ := opens_string _ _ _ f1
  obtain ⟨a2, h2, k2⟩ := opens_string _ _ _ f2
  obtain ⟨a3, h3, k3⟩ := opens_string _ _ _ f3
  clear hf f0 f1 f2 f3
  cases h0
  cases h1
  cases h2
  cases h3
  exact ⟨⟨a0, a1, a2, a3⟩, rfl, le_max k0, le_max k1, le_max k2, le_max k3⟩
theorem opens_pinE : Opens enc W sp held 33 pinC pinSm := fun fuel cs x h => by
  obtain ⟨xs, n, -, -, hl, hxs, hf⟩ := DataW.trod_struct Tryz.underlying33 h
  rw [cellsOf_pinE] at hl
  obtain ⟨c0, c1, c2, c3, c4, c5, rfl⟩ := lenE6 hl
  have f0 : DataW.trod enc Tryz.prog W 0 sp held n 28 (([c0, c1, c2, c3, c4, c5].drop 0).take (Tryz.prog.cellsOf 28)) = xs[0]? := hf 0 _ rfl
  rw [cellsOf_keyE, List.getElem?_eq_getElem (by rw [hxs]; decide)] at f0
  have f1 : DataW.trod enc Tryz.prog W 0 sp held n 9 (([c0, c1, c2, c3, c4, c5].drop 4).take (Tryz.prog.cellsOf 9)) = xs[1]? := hf 1 _ rfl
  rw [cellsOf_str, List.getElem?_eq_getElem (by rw [hxs]; decide)] at f1
  have f2 : DataW.trod enc Tryz.prog W 0 sp held n 3 (([c0, c1, c2, c3, c4, c5].drop 5).take (Tryz.prog.cellsOf 3)) = xs[2]? := hf 2 _ rfl
  rw [cellsOf_int, List.getElem?_eq_getElem (by rw [hxs]; decide)] at f2
  obtain ⟨a0, h0, k0⟩ := opens_keyE _ _ _ f0
  obtain ⟨a1, h1, k1⟩ := opens_string _ _ _ f1
  obtain ⟨a2, h2, k2⟩ := opens_int _ _ _ f2
  clear hf f0 f1 f2
  cases h0
  cases h1
  cases h2
  exact ⟨⟨a0, a1, a2⟩, rfl, k0, le_max k1⟩
theorem opens_pins : Opens enc W sp held 24 (fun v : Value => [v]) (fun v => ∃ l, SliceOf 6 pinC W v l ∧ ∀ a ∈ l, pinSm a) := opens_slice Tryz.underlying24 cellsOf_pinE (by decide) opens_pinE
theorem opens_lockE : Opens enc W sp held 26 (fun q : Lock × Value => lockC q.1 q.2) (fun q => SliceOf 6 pinC W q.2 q.1.pins ∧ lockSm q.1) := fun fuel cs x h => by
  obtain ⟨xs, n, -, -, hl, hxs, hf⟩ := DataW.trod_struct Tryz.underlying26 h
  rw [cellsOf_lockE] at hl
  obtain ⟨c0, c1, c2, c3, rfl⟩ := lenE4 hl
  have f0 : DataW.trod enc Tryz.prog W 0 sp held n 23 (([c0, c1, c2, c3].drop 0).take (Tryz.prog.cellsOf 23)) = xs[0]? := hf 0 _ rfl
  rw [cellsOf_gavE, List.getElem?_eq_getElem (by rw [hxs]; decide)] at f0
  have f1 : DataW.trod enc Tryz.prog W 0 sp held n 24 (([c0, c1, c2, c3].drop 3).take (Tryz.prog.cellsOf 24)) = xs[1]? := hf 1 _ rfl
  rw [cellsOf_pinsE, List.getElem?_eq_getElem (by rw [hxs]; decide)] at f1
  obtain ⟨a0, h0, k0⟩ := opens_gavE _ _ _ f0
  obtain ⟨a1, h1, k1⟩ := opens_pins _ _ _ f1
  clear hf f0 f1
  cases h0
  cases h1
  exact ⟨(⟨a0, k1.choose⟩, _), rfl, k1.choose_spec.1, k0, k1.choose_spec.2⟩

end Go.Proofs.YtopknpainclmgaaGreatDoor
