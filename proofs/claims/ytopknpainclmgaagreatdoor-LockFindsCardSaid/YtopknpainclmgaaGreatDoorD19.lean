/- Walks: which locks are looked at, whatever their sizes and where they are bounded; the conditions stand in the theorems. -/
import Derived.Test.YtopknpainclmgaaGreatDoorD16

namespace Go.Proofs.YtopknpainclmgaaGreatDoor
open Go Go.RowKit

theorem SliceOf.pinAtF {w : World} {ao : Option Addr} {len cap : Nat} {l : List Pin} (h : SliceOf 6 pinC w (.slice ao len cap) l) {k : Nat} (hk : k < l.length) : ∃ g o, ao = some ⟨g, o, none⟩ ∧ g < w.heap.size ∧ ∀ j u, (pinC l[k])[j]? = some u → w.cell? ⟨g, o + k * 6 + j, none⟩ = some u := by
  obtain ⟨b, o, h1, h2, h3⟩ := h.at hk
  exact ⟨b, o, h1, h2, h3⟩
/-- A lock of texts that a reading of small bulk gives. -/
def keyZ (k : Key) : Prop := k.group.size ≤ 140737488351232 ∧ k.artifact.size ≤ 140737488351232 ∧ k.type.size ≤ 140737488351232 ∧ k.classifier.size ≤ 140737488351232
def lockZ (l : Lock) : Prop := (l.root.group.size ≤ 140737488351232 ∧ l.root.artifact.size ≤ 140737488351232 ∧ l.root.version.size ≤ 140737488351232) ∧ ∀ p ∈ l.pins, keyZ p.key ∧ p.version.size ≤ 140737488351232
set_option maxRecDepth 100000 in
set_option maxHeartbeats 8000000 in
theorem light_weak (l : Lock) (v : Value) (w : World) (hv : SliceOf 6 pinC w v l.pins) : Calls Tryz.prog 4 #[.agg #[.string l.root.group, .string l.root.artifact, .string l.root.version, v]] w (RetB (l.pins.length ≤ 40) w) := by
  have hlm : l.pins.length ≤ 9223372036854775807 := by obtain ⟨a, c, e, h2, h3, -⟩ := hv; exact Nat.le_trans h2 (Nat.le_trans h3 (by decide))
  obtain ⟨ao, ac, rfl⟩ := hv.shape
  have HV := Lib.hid hv
  clear hv
  go_enter Tryz.func4, Tryz.ntmps4
  go_upto_region 1 with fail
  refine wp_world ?_
  intro W hW
  have x1 : Box W w.heap.size [.string l.root.group, .string l.root.artifact, .string l.root.version, .slice ao l.pins.length ac] := by rw [hW]; exact Box.new w _ _ _ rfl
  have hB : Below w.heap.size w W := by rw [hW]; exact (Below.refl _ w).alloc (Nat.le_refl _) _
  clear hW
  have HX1 := Lib.hid x1
  have HBW := Lib.hid hB
  have hs := hB.size
  have y0 := x1.cell 0 _ rfl
  have y1 := x1.cell 1 _ rfl
  have y2 := x1.cell 2 _ rfl
  have y3 := x1.cell 3 _ rfl
  clear x1 hB
  by_cases h40 : l.pins.length ≤ 40
  rotate_left
  · have hgi : (40 : Int) < (l.pins.length : Int) := by omega
    go_wp2
    go_ret
    exact RetB.no HBW.out
  have HL := Lib.hid h40
  have hgi : ¬ (40 : Int) < (l.pins.length : Int) := by omega
  clear h40
  go_wp2_with fail
  · go_wp2
    go_ret
    exact RetB.no HBW.out
  clear y0 y1 y2 y3
  go_loopw [29] (fun iv wr => ∃ i : Nat, i ≤ l.pins.length ∧ iv = .int .i64 i ∧ Below W.heap.size W wr) (fun iv _ => l.pins.length - (intOf iv).toNat)
  case atStart => exact ⟨0, Nat.zero_le _, rfl, Below.refl _ _⟩
  case round =>
    obtain ⟨i, hi, rfl, hb⟩ := hrel
    have HBR := Lib.hid (HBW.out.trans (hb.mono hs))
    have HBI := Lib.hid hb
    have hsr := hb.size
    have hsr2 := HBR.out.size
    by_cases hlt : i < l.pins.length
    · have hltI : (i : Int) < (l.pins.length : Int) := by omega
      obtain ⟨g, o, rfl, hg, hc⟩ := (HV.out.below HBR.out).pinAtF hlt
      have c0 := hc 0 _ rfl
      have c1 := hc 1 _ rfl
      have c2 := hc 2 _ rfl
      have c3 := hc 3 _ rfl
      have c4 := hc 4 _ rfl
      have c5 := hc 5 _ rfl
      rw [Nat.add_zero] at c0
      clear hc hb
      generalize l.pins[i] = p at *
      go_wp2_with fail
      · go_wp2
        go_ret
        exact RetB.no (HBR.out.alloc hsr2 _)
      · go_wp2
        go_roundw
        case rel => exact ⟨i + 1, hlt, by go_num, HBI.out.alloc hsr _⟩
        case measure => simp [intOf]; omega
    · obtain rfl : i = l.pins.length := by omega
      clear hlt hb
      go_wp2
      go_ret
      exact RetB.yes HL.out HBR.out

end Go.Proofs.YtopknpainclmgaaGreatDoor
