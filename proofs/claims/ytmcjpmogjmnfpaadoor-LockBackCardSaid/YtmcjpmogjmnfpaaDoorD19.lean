/- Walks: which locks are looked at, whatever their sizes and where they are bounded; the conditions stand in the theorems. -/
import Derived.Test.YtmcjpmogjmnfpaaDoorD16
namespace Go.Proofs.YtmcjpmogjmnfpaaDoor
open Go Go.RowKit

theorem SliceOf.pinAtF {w : World} {ao : Option Addr} {len cap : Nat} {l : List Pin} (h : SliceOf 6 pinC w (.slice ao len cap) l) {k : Nat} (hk : k < l.length) : ∃ g o, ao = some ⟨g, o, none⟩ ∧ g < w.heap.size ∧ ∀ j u, (pinC l[k])[j]? = some u → w.cell? ⟨g, o + k * 6 + j, none⟩ = some u := by
  obtain ⟨b, o, h1, h2, h3⟩ := h.at hk
  exact ⟨b, o, h1, h2, h3⟩

/-- A lock of texts that a reading of small bulk gives. -/
def keyZ (k : Key) : Prop := k.group.size ≤ 140737488351232 ∧ k.artifact.size ≤ 140737488351232 ∧ k.type.size ≤ 140737488351232 ∧ k.classifier.size ≤ 140737488351232
def lockZ (l : Lock) : Prop := (l.root.group.size ≤ 140737488351232 ∧ l.root.artifact.size ≤ 140737488351232 ∧ l.root.version.size ≤ 140737488351232) ∧ ∀ p ∈ l.pins, keyZ p.key ∧ p.version.size ≤ 140737488351232
theorem sm_of_Z {l : Lock} (h : lockZ l) : lockSm l :=
  ⟨⟨Nat.le_trans h.1.1 (by decide), Nat.le_trans h.1.2.1 (by decide), Nat.le_trans h.1.2.2 (by decide)⟩, fun p hp => ⟨⟨Nat.le_trans (h.2 p hp).1.1 (by decide), Nat.le_trans (h.2 p hp).1.2.1 (by decide), Nat.le_trans (h.2 p hp).1.2.2.1 (by decide), Nat.le_trans (h.2 p hp).1.2.2.2 (by decide)⟩, Nat.le_trans (h.2 p hp).2 (by decide)⟩⟩
set_option maxRecDepth 100000 in
set_option maxHeartbeats 8000000 in
theorem light_weak (l : Lock) (v : Value) (w : World) (hv : SliceOf 6 pinC w v l.pins) : Calls Tryd.prog 11 #[.agg #[.string l.root.group, .string l.root.artifact, .string l.root.version, v]] w (RetB (l.pins.length ≤ 40) w) := by
  have hlm : l.pins.length ≤ 9223372036854775807 := by obtain ⟨a, c, e, h2, h3, -⟩ := hv; exact Nat.le_trans h2 (Nat.le_trans h3 (by decide))
  obtain ⟨ao, ac, rfl⟩ := hv.shape
  have HV := Lib.hid hv
  clear hv
  go_enter Tryd.func11, Tryd.ntmps11
  go_upto_region 1 with fail
  refine wp_world ?_
  intro W hW
  have x1 : Box W w.heap.size [.string l.root.group, .string l.root.artifact, .string l.root.version, .slice ao l.pins.length ac] := by rw [hW]; exact Box.new w _ _ _ rfl
  have hB : Below w.heap.size w W := by rw [hW]; exact (Below.refl _ w).alloc (Nat.le_refl _) _
  clear hW
  have HX1 := Lib.hid x1
  have HBW := Lib.hid hB
  have hs := hB.size
  have y0 := x1.cell 0 _ rfl
  have y1 := x1.cell 1 _ rfl
  have y2 := x1.cell 2 _ rfl
  have y3 := x1.cell 3 _ rfl
  clear x1 hB
  by_cases h40 : l.pins.length ≤ 40
  rotate_left
  · have hgi : (40 : Int) < (l.pins.length : Int) := by omega
    go_wp2
    go_ret
    exact RetB.no HBW.out
  have HL := Lib.hid h40
  have hgi : ¬ (40 : Int) < (l.pins.length : Int) := by omega
  clear h40
  go_wp2_with fail
  · go_wp2
    go_ret
    exact RetB.no HBW.out
  clear y0 y1 y2 y3
  go_loopw [29] (fun iv wr => ∃ i : Nat, i ≤ l.pins.length ∧ iv = .int .i64 i ∧ Below W.heap.size W wr) (fun iv _ => l.pins.length - (intOf iv).toNat)
  case atStart => exact ⟨0, Nat.zero_le _, rfl, Below.refl _ _⟩
  case round =>
    obtain ⟨i, hi, rfl, hb⟩ := hrel
    have HBR := Lib.hid (HBW.out.trans (hb.mono hs))
    have HBI := Lib.hid hb
    have hsr := hb.size
    have hsr2 := HBR.out.size
    by_cases hlt : i < l.pins.length
    · have hltI : (i : Int) < (l.pins.length : Int) := by omega
      obtain ⟨g, o, rfl, hg, hc⟩ := (HV.out.below HBR.out).pinAtF hlt
      have c0 := hc 0 _ rfl
      have c1 := hc 1 _ rfl
      have c2 := hc 2 _ rfl
      have c3 := hc 3 _ rfl
      have c4 := hc 4 _ rfl
      have c5 := hc 5 _ rfl
      rw [Nat.add_zero] at c0
      clear hc hb
      generalize l.pins[i] = p at *
      go_wp2_with fail
      · go_wp2
        go_ret
        exact RetB.no (HBR.out.alloc hsr2 _)
      · go_wp2
        go_roundw
        case rel => exact ⟨i + 1, hlt, by go_num, HBI.out.alloc hsr _⟩
        case measure => simp [intOf]; omega
    · obtain rfl : i = l.pins.length := by omega
      clear hlt hb
      go_wp2
      go_ret
      exact RetB.yes HL.out HBR.out

set_option maxRecDepth 100000 in
set_option maxHeartbeats 8000000 in
theorem light_any (l : Lock) (v : Value) (w : World) (hv : SliceOf 6 pinC w v l.pins) (hz : lockZ l) : Calls Tryd.prog 11 #[.agg #[.string l.root.group, .string l.root.artifact, .string l.root.version, v]] w (RetB (lockS l) w) := by
  have hlm : l.pins.length ≤ 9223372036854775807 := by obtain ⟨a, c, e, h2, h3, -⟩ := hv; exact Nat.le_trans h2 (Nat.le_trans h3 (by decide))
  obtain ⟨ao, ac, rfl⟩ := hv.shape
  have HV := Lib.hid hv
  have HZ := Lib.hid hz
  obtain ⟨r1, r2, r3⟩ := hz.1
  clear hv hz
  go_enter Tryd.func11, Tryd.ntmps11
  go_upto_region 1 with fail
  refine wp_world ?_
  intro W hW
  have x1 : Box W w.heap.size [.string l.root.group, .string l.root.artifact, .string l.root.version, .slice ao l.pins.length ac] := by rw [hW]; exact Box.new w _ _ _ rfl
  have hB : Below w.heap.size w W := by rw [hW]; exact (Below.refl _ w).alloc (Nat.le_refl _) _
  clear hW
  have HX1 := Lib.hid x1
  have HBW := Lib.hid hB
  have hs := hB.size
  have y0 := x1.cell 0 _ rfl
  have y1 := x1.cell 1 _ rfl
  have y2 := x1.cell 2 _ rfl
  have y3 := x1.cell 3 _ rfl
  clear x1 hB
  by_cases h40 : l.pins.length ≤ 40
  rotate_left
  · have hgi : (40 : Int) < (l.pins.length : Int) := by omega
    go_wp2
    go_ret
    exact RetB.no HBW.out
  have HL := Lib.hid h40
  have hgi : ¬ (40 : Int) < (l.pins.length : Int) := by omega
  clear h40
  have i1 : (l.root.group.size : Int) ≤ 140737488351232 := by omega
  have i2 : (l.root.artifact.size : Int) ≤ 140737488351232 := by omega
  have i3 : (l.root.version.size : Int) ≤ 140737488351232 := by omega
  by_cases h6 : l.root.group.size + l.root.artifact.size + l.root.version.size ≤ 600
  rotate_left
  · have h6I : (600 : Int) < (l.root.group.size : Int) + (l.root.artifact.size : Int) + (l.root.version.size : Int) := by omega
    clear h6
    go_wp2
    go_ret
    exact RetB.no HBW.out
  have H6 := Lib.hid h6
  have h6I : ¬ (600 : Int) < (l.root.group.size : Int) + (l.root.artifact.size : Int) + (l.root.version.size : Int) := by omega
  clear h6
  go_wp2_with fail
  clear i1 i2 i3 h6I r1 r2 r3
  clear y0 y1 y2 y3
  go_loopw [29] (fun iv wr => ∃ i : Nat, i ≤ l.pins.length ∧ iv = .int .i64 i ∧ Below W.heap.size W wr ∧ Hid (∀ j x, j < i → l.pins[j]? = some x → keyS x.key ∧ x.version.size ≤ 1000)) (fun iv _ => l.pins.length - (intOf iv).toNat)
  case atStart => exact ⟨0, Nat.zero_le _, rfl, Below.refl _ _, fun j x h => by omega⟩
  case round =>
    obtain ⟨i, hi, rfl, hb, HALL⟩ := hrel
    have HBR := Lib.hid (HBW.out.trans (hb.mono hs))
    have HBI := Lib.hid hb
    have hsr := hb.size
    have hsr2 := HBR.out.size
    by_cases hlt : i < l.pins.length
    · have hltI : (i : Int) < (l.pins.length : Int) := by omega
      obtain ⟨g, o, rfl, hg, hc⟩ := (HV.out.below HBR.out).pinAtF hlt
      have c0 := hc 0 _ rfl
      have c1 := hc 1 _ rfl
      have c2 := hc 2 _ rfl
      have c3 := hc 3 _ rfl
      have c4 := hc 4 _ rfl
      have c5 := hc 5 _ rfl
      rw [Nat.add_zero] at c0
      have HI := Lib.hid (List.getElem?_eq_getElem hlt)
      obtain ⟨⟨k1, k2, k3, k4⟩, k5⟩ := HZ.out.2 _ (List.getElem_mem hlt)
      clear hc hb
      generalize l.pins[i] = p at *
      have i1 : (p.key.group.size : Int) ≤ 140737488351232 := by omega
      have i2 : (p.key.artifact.size : Int) ≤ 140737488351232 := by omega
      have i3 : (p.key.type.size : Int) ≤ 140737488351232 := by omega
      have i4 : (p.key.classifier.size : Int) ≤ 140737488351232 := by omega
      have i5 : (p.version.size : Int) ≤ 140737488351232 := by omega
      by_cases h10 : p.key.group.size + p.key.artifact.size + p.key.type.size + p.key.classifier.size + p.version.size ≤ 1000
      rotate_left
      · have h10I : (1000 : Int) < (p.key.group.size : Int) + (p.key.artifact.size : Int) + (p.key.type.size : Int) + (p.key.classifier.size : Int) + (p.version.size : Int) := by omega
        clear h10
        go_wp2
        go_ret
        exact RetB.no (HBR.out.alloc hsr2 _)
      · have h10I : ¬ (1000 : Int) < (p.key.group.size : Int) + (p.key.artifact.size : Int) + (p.key.type.size : Int) + (p.key.classifier.size : Int) + (p.version.size : Int) := by omega
        have H10 : Hid (keyS p.key ∧ p.version.size ≤ 1000) := ⟨⟨by omega, by omega, by omega, by omega⟩, by omega⟩
        clear h10
        go_wp2
        go_roundw
        case rel => exact ⟨i + 1, hlt, by go_num, HBI.out.alloc hsr _, fun j x hj hx => by
          by_cases hji : j < i
          · exact HALL.out j x hji hx
          · obtain rfl : j = i := by omega
            rw [HI.out] at hx; cases hx; exact H10.out⟩
        case measure => simp [intOf]; omega
    · obtain rfl : i = l.pins.length := by omega
      clear hlt hb
      go_wp2
      go_ret
      exact RetB.yes ⟨⟨by have := H6.out; omega, by have := H6.out; omega, by have := H6.out; omega⟩, fun p hp => by
        obtain ⟨j, hj, rfl⟩ := List.mem_iff_getElem.1 hp
        exact HALL.out j _ hj (List.getElem?_eq_getElem hj), by have := HL.out; omega⟩ HBR.out

end Go.Proofs.YtmcjpmogjmnfpaaDoor
