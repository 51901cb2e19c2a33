/- Walk: the law LockStays returns true whatever the text; the condition stands in the theorem. -/
import Derived.Test.YtmcjpmogjmnfpaaDoorD17
namespace Go.Proofs.YtmcjpmogjmnfpaaDoor
open Go Go.RowKit

theorem sm_of_S {l : Lock} (h : lockS l) : lockSm l :=
  ⟨⟨Nat.le_trans h.root.1 (by decide), Nat.le_trans h.root.2.1 (by decide), Nat.le_trans h.root.2.2 (by decide)⟩, fun p hp => ⟨⟨Nat.le_trans (h.pins p hp).1.1 (by decide), Nat.le_trans (h.pins p hp).1.2.1 (by decide), Nat.le_trans (h.pins p hp).1.2.2.1 (by decide), Nat.le_trans (h.pins p hp).1.2.2.2 (by decide)⟩, Nat.le_trans (h.pins p hp).2 (by decide)⟩⟩

set_option maxRecDepth 100000 in
set_option maxHeartbeats 8000000 in
theorem lockStays_any (s : S) (m : Int) (w : World) (hm : w.cell? ⟨0, 0, none⟩ = some (.int .i64 m)) : Calls Tryd.prog 5 #[.string s] w fun e w' => e = .returned (.bool true) ∧ Below w.heap.size w w' := by
  have hw0 : 0 < w.heap.size := World.block_lt_of_cell? w _ hm
  have HM := Lib.hid hm
  clear hm
  go_enter Tryd.func5, Tryd.ntmps5
  go_upto_region 2 with fail
  have HXS := Lib.hid (cut_size s 3000)
  generalize s.extract 0 (min (s.size : Int) 3000).toNat = x at *
  have HXS' : x.size ≤ 100000 := by have h := HXS.out; simp at h; omega
  have HPA := Lib.hid (parse_any x m w HXS' HM.out)
  have HLV := Lib.hid (fun V h => lives_any m V h)
  clear HXS'
  cases hP : parseB x.data.toList with
  | error k =>
    rw [hP] at HPA
    have HPA := Lib.hid (show Calls _ _ _ _ (fun e w' => e = .returned (.tuple #[.agg #[.string ⟨#[]⟩, .string ⟨#[]⟩, .string ⟨#[]⟩, .slice none 0 0], .int .i64 1, .int .i64 k]) ∧ Below w.heap.size w w') from HPA.out)
    clear hP
    go_wp2_with fail
    refine HPA.out.mono ?_
    rintro e w1 ⟨rfl, hb1⟩
    have HB1 := Lib.hid hb1
    clear hb1 HPA
    go_upto_region 3 with fail
    refine wp_world ?_
    intro W2 hW2
    have hb2 : Below w1.heap.size w1 W2 := by rw [hW2]; exact (Below.refl _ w1).alloc (Nat.le_refl _) _
    clear hW2
    have HB2 := Lib.hid (HB1.out.trans (hb2.mono HB1.out.size))
    have hm2 : W2.cell? ⟨0, 0, none⟩ = some (.int .i64 m) := (HB2.out.cell (p := ⟨0, 0, none⟩) (by exact hw0)).trans HM.out
    have HL2 := Lib.hid (HLV.out W2 hm2)
    clear hb2 HB1 hm2 HLV
    go_wp2_with fail
    refine HL2.out.mono ?_
    rintro e w6 ⟨rfl, hb6⟩
    have HB6 := Lib.hid (HB2.out.trans (hb6.mono HB2.out.size))
    clear hb6
    go_wp2
    go_ret
    exact ⟨rfl, HB6.out⟩
  | ok l =>
    rw [hP] at HPA
    have HPA := Lib.hid (show Calls _ _ _ _ (fun e w' => ∃ v, e = .returned (.tuple #[.agg #[.string l.root.group, .string l.root.artifact, .string l.root.version, v], .int .i64 0, .int .i64 0]) ∧ SliceOf 6 pinC w' v l.pins ∧ Below w.heap.size w w') from HPA.out)
    obtain ⟨hmay, hpr⟩ := parse_stays hP
    have HPR := Lib.hid (fun v V h => print_any l v V h (may_small hmay))
    rw [hpr, data_bs] at HPR
    have HMY := Lib.hid (fun v V h => lockMay_any l v V h (sm_of_S (may_small hmay)))
    rw [hmay] at HMY
    have HMR := Lib.hid (fun v V h => refLockMay_any l v V h (sm_of_S (may_small hmay)))
    rw [hmay] at HMR
    clear hP hmay hpr
    go_wp2_with fail
    refine HPA.out.mono ?_
    rintro e w1 ⟨v, rfl, hs1, hb1⟩
    obtain ⟨ao, cap, rfl⟩ := hs1.shape
    have HB1 := Lib.hid hb1
    have HS1 := Lib.hid hs1
    clear hb1 hs1 HPA
    go_upto_region 3 with fail
    refine wp_world ?_
    intro W2 hW2
    have x2 : Box W2 w1.heap.size [.string l.root.group, .string l.root.artifact, .string l.root.version, .slice ao l.pins.length cap] := by rw [hW2]; exact Box.new w1 [.string l.root.group, .string l.root.artifact, .string l.root.version, .slice ao l.pins.length cap] _ _ rfl
    have hb2 : Below w1.heap.size w1 W2 := by rw [hW2]; exact (Below.refl _ w1).alloc (Nat.le_refl _) _
    clear hW2
    have HB2 := Lib.hid (HB1.out.trans (hb2.mono HB1.out.size))
    have HS2 := Lib.hid (HS1.out.below hb2)
    have X2 := Lib.hid x2
    clear x2 hb2 HB1 HS1
    have z0 := X2.out.cell 0 _ rfl
    have z1 := X2.out.cell 1 _ rfl
    have z2 := X2.out.cell 2 _ rfl
    have z3 := X2.out.cell 3 _ rfl
    have lz := X2.out.lt
    go_wp2_with fail
    refine (HMR.out _ _ HS2.out).mono ?_
    rintro e w3 ⟨rfl, hb3⟩
    have HB3 := Lib.hid (HB2.out.trans (hb3.mono HB2.out.size))
    have HS3 := Lib.hid (HS2.out.below hb3)
    have X3 := Lib.hid (X2.out.below hb3 X2.out.lt)
    clear hb3 HB2 HS2 X2 z0 z1 z2 z3 lz HMR
    have z0 := X3.out.cell 0 _ rfl
    have z1 := X3.out.cell 1 _ rfl
    have z2 := X3.out.cell 2 _ rfl
    have z3 := X3.out.cell 3 _ rfl
    have lz := X3.out.lt
    go_wp2_with fail
    refine (HMY.out _ _ HS3.out).mono ?_
    rintro e w4 ⟨rfl, hb4⟩
    have HB4 := Lib.hid (HB3.out.trans (hb4.mono HB3.out.size))
    have HS4 := Lib.hid (HS3.out.below hb4)
    have X4 := Lib.hid (X3.out.below hb4 X3.out.lt)
    clear hb4 HB3 HS3 X3 z0 z1 z2 z3 lz HMY
    have z0 := X4.out.cell 0 _ rfl
    have z1 := X4.out.cell 1 _ rfl
    have z2 := X4.out.cell 2 _ rfl
    have z3 := X4.out.cell 3 _ rfl
    have lz := X4.out.lt
    go_wp2_with fail
    refine (HPR.out _ _ HS4.out).mono ?_
    rintro e w5 ⟨rfl, hb5⟩
    have HB5 := Lib.hid (HB4.out.trans (hb5.mono HB4.out.size))
    have HS5 := Lib.hid (HS4.out.below hb5)
    have X5 := Lib.hid (X4.out.below hb5 X4.out.lt)
    clear hb5 HB4 HS4 X4 z0 z1 z2 z3 lz HPR
    have hm5 : w5.cell? ⟨0, 0, none⟩ = some (.int .i64 m) := (HB5.out.cell (p := ⟨0, 0, none⟩) (by exact hw0)).trans HM.out
    have HL5 := Lib.hid (HLV.out w5 hm5)
    clear hm5 HLV
    go_wp2_with fail
    refine HL5.out.mono ?_
    rintro e w6 ⟨rfl, hb6⟩
    have HB6 := Lib.hid (HB5.out.trans (hb6.mono HB5.out.size))
    clear hb6
    go_wp2
    go_ret
    exact ⟨rfl, HB6.out⟩

end Go.Proofs.YtmcjpmogjmnfpaaDoor
