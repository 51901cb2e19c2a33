/- Walks: the law of DiffApplies; its conditions stand in the theorem. -/
import Derived.Test.YtmcjpmogjmnfpaaL33
import Derived.Test.YtmcjpmogjmnfpaaL16
import Derived.Test.YtmcjpmogjmnfpaaL19
import Derived.Test.YtmcjpmogjmnfpaaL21
import Derived.Test.YtmcjpmogjmnfpaaL23
namespace Go.Proofs.Ytmcjpmogjmnfpaa
open Go Go.RowKit

/-- What Apply gives, the lock written out. -/
def ApplyX (w : World) (r : Lock) (ok : Value) (e : Ending) (w' : World) : Prop := ∃ ao cap, e = .returned (.tuple #[.agg #[.string r.root.group, .string r.root.artifact, .string r.root.version, .slice ao r.pins.length cap], ok]) ∧ SliceOf 6 pinC w' (.slice ao r.pins.length cap) r.pins ∧ Below w.heap.size w w'
theorem ApplyOut.x {w w' : World} {r : Lock} {ok : Value} {e : Ending} (h : ApplyOut w r ok e w') : ApplyX w r ok e w' := by
  obtain ⟨v, h1, h2, h3⟩ := h
  obtain ⟨ao, cap, rfl⟩ := h2.shape
  exact ⟨ao, cap, h1, h2, h3⟩
theorem sliceNoPins (w : World) : SliceOf 6 pinC w (.slice none 0 0) noLock.pins := SliceOf.nil

set_option maxRecDepth 100000 in
set_option maxHeartbeats 8000000 in
theorem diffApplies_any (a : Lock) (l : List Edit) (av lv : Value) (w : World) (hav : SliceOf 6 pinC w av a.pins) (hlv : SliceOf 18 editC w lv l) (hsa : lockSm a) (hsl : ∀ e ∈ l, editSm e) :
    Calls Try.prog 4 #[.agg (lockC a av).toArray, lv] w fun e w' => e = .returned (.bool true) ∧ Below w.heap.size w w' := by
  obtain ⟨ao, ac, rfl⟩ := hav.shape
  obtain ⟨lo, lc, rfl⟩ := hlv.shape
  have HA := Lib.hid hav
  have HV := Lib.hid hlv
  have HSA := Lib.hid hsa
  have HSL := Lib.hid hsl
  clear hav hlv hsa hsl
  unfold lockC
  go_enter Try.func4, Try.ntmps4
  go_upto_region 1 with fail
  refine wp_world ?_
  intro W hW
  have x2 : Box W w.heap.size [.string a.root.group, .string a.root.artifact, .string a.root.version, .slice ao a.pins.length ac] := by rw [hW]; exact Box.new w _ _ _ rfl
  have hB : Below w.heap.size w W := by rw [hW]; exact (Below.refl _ w).alloc (Nat.le_refl _) _
  clear hW
  have HX2 := Lib.hid x2
  have HBW := Lib.hid hB
  have hs := hB.size
  have y0 := x2.cell 0 _ rfl
  have y1 := x2.cell 1 _ rfl
  have y2 := x2.cell 2 _ rfl
  have y3 := x2.cell 3 _ rfl
  clear x2 hB
  go_wp2_with fail
  refine (light_any a (.slice ao a.pins.length ac) W (HA.out.below HBW.out)).mono ?_
  rintro e w1 ⟨b1, rfl, hb1t, hb1⟩
  have HX2' := Lib.hid (HX2.out.below hb1 HX2.out.lt)
  have HB1 := Lib.hid (HBW.out.trans (hb1.mono hs))
  have s1 := HB1.out.size
  have HT1 := Lib.hid hb1t
  clear hb1 hb1t y0 y1 y2 y3 HX2
  cases b1 with
  | false =>
    go_wp2_with fail
    refine (lives_any _).mono ?_
    rintro e w9 ⟨rfl, hb9⟩
    have HB9 := Lib.hid (HB1.out.trans (hb9.mono s1))
    clear hb9
    go_wp2
    go_ret
    exact ⟨rfl, HB9.out⟩
  | true =>
  have HN1 := Lib.hid (HT1.out (by trivial))
  go_wp2_with fail
  refine (lightE_any l (.slice lo l.length lc) w1 (HV.out.below HB1.out)).mono ?_
  rintro e w2 ⟨b2, rfl, hb2t, hb2⟩
  have HX2 := Lib.hid (HX2'.out.below hb2 HX2'.out.lt)
  have HB2 := Lib.hid (HB1.out.trans (hb2.mono s1))
  have s2 := HB2.out.size
  have HT2 := Lib.hid hb2t
  clear hb2 hb2t HX2'
  cases b2 with
  | false =>
    go_wp2_with fail
    refine (lives_any _).mono ?_
    rintro e w9 ⟨rfl, hb9⟩
    have HB9 := Lib.hid (HB2.out.trans (hb9.mono s2))
    clear hb9
    go_wp2
    go_ret
    exact ⟨rfl, HB9.out⟩
  | true =>
  have HN2 := Lib.hid (HT2.out (by trivial))
  have HLE : Hid (a.pins.length + l.length ≤ 500) := by have h1 := HN1.out; have h2 := HN2.out; show _ ≤ _; omega
  have HP : Hid (∀ V, Below w.heap.size w V → Calls Try.prog 14 #[.agg #[.string a.root.group, .string a.root.artifact, .string a.root.version, .slice ao a.pins.length ac], .slice lo l.length lc] V (ApplyX V ((applyR a l).getD noLock) (.int .i64 (errI (applyR a l))))) := fun V h => (apply_any a l (.slice ao a.pins.length ac) (.slice lo l.length lc) V (HA.out.below h) (HV.out.below h) HSA.out HSL.out HLE.out).mono fun _ _ h => h.x
  have HR : Hid (∀ V, Below w.heap.size w V → Calls Try.prog 15 #[.agg #[.string a.root.group, .string a.root.artifact, .string a.root.version, .slice ao a.pins.length ac], .slice lo l.length lc] V (ApplyX V ((applyR a l).getD noLock) (.bool (applyR a l).isSome))) := fun V h => (refApply_any a l (.slice ao a.pins.length ac) (.slice lo l.length lc) V (HA.out.below h) (HV.out.below h) HSA.out HSL.out HLE.out).mono fun _ _ h => h.x
  generalize applyR a l = R at *
  have y0 := HX2.out.cell 0 _ rfl
  have y1 := HX2.out.cell 1 _ rfl
  have y2 := HX2.out.cell 2 _ rfl
  have y3 := HX2.out.cell 3 _ rfl
  cases R with
  | none =>
    have HP' : Hid (∀ V, Below w.heap.size w V → Calls Try.prog 14 #[.agg #[.string a.root.group, .string a.root.artifact, .string a.root.version, .slice ao a.pins.length ac], .slice lo l.length lc] V fun e w' => ∃ vo vc, e = .returned (.tuple #[.agg #[.string ⟨#[]⟩, .string ⟨#[]⟩, .string ⟨#[]⟩, .slice vo 0 vc], .int .i64 1]) ∧ SliceOf 6 pinC w' (.slice vo noLock.pins.length vc) noLock.pins ∧ Below V.heap.size V w') := HP.out
    have HR' : Hid (∀ V, Below w.heap.size w V → Calls Try.prog 15 #[.agg #[.string a.root.group, .string a.root.artifact, .string a.root.version, .slice ao a.pins.length ac], .slice lo l.length lc] V fun e w' => ∃ vo vc, e = .returned (.tuple #[.agg #[.string ⟨#[]⟩, .string ⟨#[]⟩, .string ⟨#[]⟩, .slice vo 0 vc], .bool false]) ∧ SliceOf 6 pinC w' (.slice vo noLock.pins.length vc) noLock.pins ∧ Below V.heap.size V w') := HR.out
    clear HP HR
    go_wp2_with fail
    refine (HP'.out w2 HB2.out).mono ?_
    rintro e w3 ⟨vo, vc, rfl, hs3, hb3⟩
    have HX3 := Lib.hid (HX2.out.below hb3 HX2.out.lt)
    have HB3 := Lib.hid (HB2.out.trans (hb3.mono s2))
    have s3 := HB3.out.size
    have HS3 := Lib.hid hs3
    clear y0 y1 y2 y3 hb3 hs3 HX2 HP'
    have y0 := HX3.out.cell 0 _ rfl
    have y1 := HX3.out.cell 1 _ rfl
    have y2 := HX3.out.cell 2 _ rfl
    have y3 := HX3.out.cell 3 _ rfl
    have yl := HX3.out.lt
    go_upto_region 4 with fail
    refine wp_world ?_
    intro W4 hW4
    have x5 : Box W4 w3.heap.size [.string ⟨#[]⟩, .string ⟨#[]⟩, .string ⟨#[]⟩, .slice vo 0 vc] := by rw [hW4]; exact Box.new w3 [.string ⟨#[]⟩, .string ⟨#[]⟩, .string ⟨#[]⟩, .slice vo 0 vc] _ _ rfl
    have hb4 : Below w3.heap.size w3 W4 := by rw [hW4]; exact (Below.refl _ w3).alloc (Nat.le_refl _) _
    clear hW4
    have HX4 := Lib.hid (HX3.out.below hb4 HX3.out.lt)
    have HX5 := Lib.hid x5
    have HB4 := Lib.hid (HB3.out.trans (hb4.mono s3))
    have HS4 := Lib.hid (HS3.out.below hb4)
    have s4 := HB4.out.size
    clear y0 y1 y2 y3 yl x5 hb4 HX3 HS3
    have y0 := HX4.out.cell 0 _ rfl
    have y1 := HX4.out.cell 1 _ rfl
    have y2 := HX4.out.cell 2 _ rfl
    have y3 := HX4.out.cell 3 _ rfl
    go_wp2_with fail
    refine (HR'.out W4 HB4.out).mono ?_
    rintro e w5 ⟨ro, rc, rfl, hs5, hb5⟩
    have HX6 := Lib.hid (HX5.out.below hb5 HX5.out.lt)
    have HB5 := Lib.hid (HB4.out.trans (hb5.mono s4))
    have s5 := HB5.out.size
    have HS5 := Lib.hid hs5
    have HS45 := Lib.hid (HS4.out.below hb5)
    clear y0 y1 y2 y3 hb5 hs5 HX4 HX5 HS4 HR'
    go_upto_region 5 with fail
    refine wp_world ?_
    intro W6 hW6
    have x7 : Box W6 w5.heap.size [.string ⟨#[]⟩, .string ⟨#[]⟩, .string ⟨#[]⟩, .slice ro 0 rc] := by rw [hW6]; exact Box.new w5 [.string ⟨#[]⟩, .string ⟨#[]⟩, .string ⟨#[]⟩, .slice ro 0 rc] _ _ rfl
    have hb6 : Below w5.heap.size w5 W6 := by rw [hW6]; exact (Below.refl _ w5).alloc (Nat.le_refl _) _
    clear hW6
    have HX7 := Lib.hid (HX6.out.below hb6 HX6.out.lt)
    have HX8 := Lib.hid x7
    have HB6 := Lib.hid (HB5.out.trans (hb6.mono s5))
    have HS6 := Lib.hid (HS45.out.below hb6)
    have HS7 := Lib.hid (HS5.out.below hb6)
    have s6 := HB6.out.size
    clear x7 hb6 HX6 HS45 HS5
    have y0 := HX7.out.cell 0 _ rfl
    have y1 := HX7.out.cell 1 _ rfl
    have y2 := HX7.out.cell 2 _ rfl
    have y3 := HX7.out.cell 3 _ rfl
    have z0 := HX8.out.cell 0 _ rfl
    have z1 := HX8.out.cell 1 _ rfl
    have z2 := HX8.out.cell 2 _ rfl
    have z3 := HX8.out.cell 3 _ rfl
    have HSM : Calls Try.prog 16 #[.agg #[.string ⟨#[]⟩, .string ⟨#[]⟩, .string ⟨#[]⟩, .slice vo 0 vc], .agg #[.string ⟨#[]⟩, .string ⟨#[]⟩, .string ⟨#[]⟩, .slice none 0 0]] W6 fun e w' => e = .returned (.bool (decide (noLock = noLock))) ∧ Below W6.heap.size W6 w' := sameLock_any noLock noLock _ _ W6 HS6.out (sliceNoPins W6)
    rw [decide_eq_true (rfl : noLock = noLock)] at HSM
    have HSM' := Lib.hid HSM
    clear HSM
    go_wp2_with fail
    refine HSM'.out.mono ?_
    rintro e w7 ⟨rfl, hb7⟩
    have HB7 := Lib.hid (HB6.out.trans (hb7.mono s6))
    have s7 := HB7.out.size
    clear hb7 HSM' y0 y1 y2 y3 z0 z1 z2 z3
    go_wp2_with fail
    refine (lives_any _).mono ?_
    rintro e w9 ⟨rfl, hb9⟩
    have HB9 := Lib.hid (HB7.out.trans (hb9.mono s7))
    clear hb9
    go_wp2
    go_ret
    exact ⟨rfl, HB9.out⟩
  | some x =>
    have HP' : Hid (∀ V, Below w.heap.size w V → Calls Try.prog 14 #[.agg #[.string a.root.group, .string a.root.artifact, .string a.root.version, .slice ao a.pins.length ac], .slice lo l.length lc] V fun e w' => ∃ vo vc, e = .returned (.tuple #[.agg #[.string x.root.group, .string x.root.artifact, .string x.root.version, .slice vo x.pins.length vc], .int .i64 0]) ∧ SliceOf 6 pinC w' (.slice vo x.pins.length vc) x.pins ∧ Below V.heap.size V w') := HP.out
    have HR' : Hid (∀ V, Below w.heap.size w V → Calls Try.prog 15 #[.agg #[.string a.root.group, .string a.root.artifact, .string a.root.version, .slice ao a.pins.length ac], .slice lo l.length lc] V fun e w' => ∃ vo vc, e = .returned (.tuple #[.agg #[.string x.root.group, .string x.root.artifact, .string x.root.version, .slice vo x.pins.length vc], .bool true]) ∧ SliceOf 6 pinC w' (.slice vo x.pins.length vc) x.pins ∧ Below V.heap.size V w') := HR.out
    clear HP HR
    go_wp2_with fail
    refine (HP'.out w2 HB2.out).mono ?_
    rintro e w3 ⟨vo, vc, rfl, hs3, hb3⟩
    have HX3 := Lib.hid (HX2.out.below hb3 HX2.out.lt)
    have HB3 := Lib.hid (HB2.out.trans (hb3.mono s2))
    have s3 := HB3.out.size
    have HS3 := Lib.hid hs3
    clear y0 y1 y2 y3 hb3 hs3 HX2 HP'
    have y0 := HX3.out.cell 0 _ rfl
    have y1 := HX3.out.cell 1 _ rfl
    have y2 := HX3.out.cell 2 _ rfl
    have y3 := HX3.out.cell 3 _ rfl
    have yl := HX3.out.lt
    go_upto_region 4 with fail
    refine wp_world ?_
    intro W4 hW4
    have x5 : Box W4 w3.heap.size [.string x.root.group, .string x.root.artifact, .string x.root.version, .slice vo x.pins.length vc] := by rw [hW4]; exact Box.new w3 [.string x.root.group, .string x.root.artifact, .string x.root.version, .slice vo x.pins.length vc] _ _ rfl
    have hb4 : Below w3.heap.size w3 W4 := by rw [hW4]; exact (Below.refl _ w3).alloc (Nat.le_refl _) _
    clear hW4
    have HX4 := Lib.hid (HX3.out.below hb4 HX3.out.lt)
    have HX5 := Lib.hid x5
    have HB4 := Lib.hid (HB3.out.trans (hb4.mono s3))
    have HS4 := Lib.hid (HS3.out.below hb4)
    have s4 := HB4.out.size
    clear y0 y1 y2 y3 yl x5 hb4 HX3 HS3
    have y0 := HX4.out.cell 0 _ rfl
    have y1 := HX4.out.cell 1 _ rfl
    have y2 := HX4.out.cell 2 _ rfl
    have y3 := HX4.out.cell 3 _ rfl
    go_wp2_with fail
    refine (HR'.out W4 HB4.out).mono ?_
    rintro e w5 ⟨ro, rc, rfl, hs5, hb5⟩
    have HX6 := Lib.hid (HX5.out.below hb5 HX5.out.lt)
    have HB5 := Lib.hid (HB4.out.trans (hb5.mono s4))
    have s5 := HB5.out.size
    have HS5 := Lib.hid hs5
    have HS45 := Lib.hid (HS4.out.below hb5)
    clear y0 y1 y2 y3 hb5 hs5 HX4 HX5 HS4 HR'
    go_upto_region 5 with fail
    refine wp_world ?_
    intro W6 hW6
    have x7 : Box W6 w5.heap.size [.string x.root.group, .string x.root.artifact, .string x.root.version, .slice ro x.pins.length rc] := by rw [hW6]; exact Box.new w5 [.string x.root.group, .string x.root.artifact, .string x.root.version, .slice ro x.pins.length rc] _ _ rfl
    have hb6 : Below w5.heap.size w5 W6 := by rw [hW6]; exact (Below.refl _ w5).alloc (Nat.le_refl _) _
    clear hW6
    have HX7 := Lib.hid (HX6.out.below hb6 HX6.out.lt)
    have HX8 := Lib.hid x7
    have HB6 := Lib.hid (HB5.out.trans (hb6.mono s5))
    have HS6 := Lib.hid (HS45.out.below hb6)
    have HS7 := Lib.hid (HS5.out.below hb6)
    have s6 := HB6.out.size
    clear x7 hb6 HX6 HS45 HS5
    have y0 := HX7.out.cell 0 _ rfl
    have y1 := HX7.out.cell 1 _ rfl
    have y2 := HX7.out.cell 2 _ rfl
    have y3 := HX7.out.cell 3 _ rfl
    have z0 := HX8.out.cell 0 _ rfl
    have z1 := HX8.out.cell 1 _ rfl
    have z2 := HX8.out.cell 2 _ rfl
    have z3 := HX8.out.cell 3 _ rfl
    have HSM : Calls Try.prog 16 #[.agg #[.string x.root.group, .string x.root.artifact, .string x.root.version, .slice vo x.pins.length vc], .agg #[.string x.root.group, .string x.root.artifact, .string x.root.version, .slice ro x.pins.length rc]] W6 fun e w' => e = .returned (.bool (decide (x = x))) ∧ Below W6.heap.size W6 w' := sameLock_any x x _ _ W6 HS6.out HS7.out
    rw [decide_eq_true (rfl : x = x)] at HSM
    have HSM' := Lib.hid HSM
    clear HSM
    go_wp2_with fail
    refine HSM'.out.mono ?_
    rintro e w7 ⟨rfl, hb7⟩
    have HB7 := Lib.hid (HB6.out.trans (hb7.mono s6))
    have s7 := HB7.out.size
    clear hb7 HSM' y0 y1 y2 y3 z0 z1 z2 z3
    go_wp2_with fail
    refine (lives_any _).mono ?_
    rintro e w9 ⟨rfl, hb9⟩
    have HB9 := Lib.hid (HB7.out.trans (hb9.mono s7))
    clear hb9
    go_wp2
    go_ret
    exact ⟨rfl, HB9.out⟩

end Go.Proofs.Ytmcjpmogjmnfpaa
