/- Walk: the law LockParses returns true whatever the text; the condition stands in the theorem. -/
import Derived.Test.YtmcjpmogjmnfpaaDoorD16
namespace Go.Proofs.YtmcjpmogjmnfpaaDoor
open Go Go.RowKit

theorem pinsGo_pos : ∀ (L : List Bs) (i : Nat) (acc : List Pin) (k : Nat), pinsGo L i acc = .error k → 1 ≤ k
  | [], i, acc, k, h => by unfold pinsGo at h; cases h; omega
  | t :: r, i, acc, k, h => by
    unfold pinsGo at h
    split at h
    · cases h; omega
    · split at h
      · split at h
        · cases h
        · cases h; omega
      · split at h
        · cases h; omega
        · split at h
          · cases h; omega
          · exact pinsGo_pos r _ _ k h
theorem parse_pos {s : Bs} {k : Nat} (h : parseB s = .error k) : 1 ≤ k := by
  rw [parseB_L] at h
  generalize piecesB 10 s = L at *
  cases L with
  | nil => cases h; omega
  | cons t0 r0 =>
    rw [parseL_cons] at h
    split at h
    · cases r0 with
      | nil => cases h; omega
      | cons t1 r1 =>
        rw [parse1_cons] at h
        split at h
        · cases h; omega
        · split at h
          · cases h; omega
          · cases hp : pinsGo r1 2 [] with
            | error j => rw [hp] at h; cases h; exact pinsGo_pos _ _ _ _ hp
            | ok ps => rw [hp] at h; cases h
    · cases h; omega
def noLock : Lock := ⟨noGav, []⟩
theorem cut_size (s : S) (n : Int) : (s.extract 0 (min (s.size : Int) n).toNat).size ≤ n.toNat := by
  rw [ByteArray.size_extract]; omega

set_option maxRecDepth 100000 in
set_option maxHeartbeats 8000000 in
theorem lockParses_any (s : S) (m : Int) (w : World) (hm : w.cell? ⟨0, 0, none⟩ = some (.int .i64 m)) : Calls Tryd.prog 3 #[.string s] w fun e w' => e = .returned (.bool true) ∧ Below w.heap.size w w' := by
  have hw0 : 0 < w.heap.size := World.block_lt_of_cell? w _ hm
  have HM := Lib.hid hm
  clear hm
  go_enter Tryd.func3, Tryd.ntmps3
  go_upto_region 2 with fail
  have HXS := Lib.hid (cut_size s 3000)
  generalize s.extract 0 (min (s.size : Int) 3000).toNat = x at *
  have HXS' : x.size ≤ 100000 := by have h := HXS.out; simp at h; omega
  have HPA := Lib.hid (parse_any x m w HXS' HM.out)
  have HRP := Lib.hid (fun V => refParse_any x V HXS')
  have HLV := Lib.hid (fun V h => lives_any m V h)
  clear HXS'
  cases hP : parseB x.data.toList with
  | error k =>
    have HK := Lib.hid (parse_pos hP)
    rw [hP] at HPA HRP
    have HPA := Lib.hid (show Calls _ _ _ _ (fun e w' => e = .returned (.tuple #[.agg #[.string ⟨#[]⟩, .string ⟨#[]⟩, .string ⟨#[]⟩, .slice none 0 0], .int .i64 1, .int .i64 k]) ∧ Below w.heap.size w w') from HPA.out)
    have HRP := Lib.hid (show ∀ V, Calls _ _ _ V (fun e w' => e = .returned (.tuple #[.agg #[.string ⟨#[]⟩, .string ⟨#[]⟩, .string ⟨#[]⟩, .slice none 0 0], .int .i64 k]) ∧ Below V.heap.size V w') from HRP.out)
    have HSM := Lib.hid (fun V => sameLock_any noLock noLock (.slice none 0 0) (.slice none 0 0) V SliceOf.nil SliceOf.nil)
    have hk0 : ((k : Int) == 0) = false := by rw [beq_eq_false_iff_ne]; have := HK.out; omega
    clear hP
    go_wp2_with fail
    refine HPA.out.mono ?_
    rintro e w1 ⟨rfl, hb1⟩
    have HB1 := Lib.hid hb1
    clear hb1 HPA
    go_upto_region 3 with fail
    refine wp_world ?_
    intro W2 hW2
    have x2 : Box W2 w1.heap.size [.string ⟨#[]⟩, .string ⟨#[]⟩, .string ⟨#[]⟩, .slice none 0 0] := by rw [hW2]; exact Box.new w1 [.string ⟨#[]⟩, .string ⟨#[]⟩, .string ⟨#[]⟩, .slice none 0 0] _ _ rfl
    have hb2 : Below w1.heap.size w1 W2 := by rw [hW2]; exact (Below.refl _ w1).alloc (Nat.le_refl _) _
    clear hW2
    have HB2 := Lib.hid (HB1.out.trans (hb2.mono HB1.out.size))
    have X2 := Lib.hid x2
    clear x2 hb2 HB1
    go_wp2_with fail
    refine (HRP.out _).mono ?_
    rintro e w3 ⟨rfl, hb3⟩
    have HB3 := Lib.hid (HB2.out.trans (hb3.mono HB2.out.size))
    have X3 := Lib.hid (X2.out.below hb3 X2.out.lt)
    clear hb3 HB2 X2 HRP
    go_upto_region 4 with fail
    refine wp_world ?_
    intro W4 hW4
    have hb4 : Below w3.heap.size w3 W4 := by rw [hW4]; exact (Below.refl _ w3).alloc (Nat.le_refl _) _
    clear hW4
    have HB4 := Lib.hid (HB3.out.trans (hb4.mono HB3.out.size))
    have x4 := X3.out.below hb4 X3.out.lt
    have z0 := x4.cell 0 _ rfl
    have z1 := x4.cell 1 _ rfl
    have z2 := x4.cell 2 _ rfl
    have z3 := x4.cell 3 _ rfl
    have lz := x4.lt
    clear hb4 HB3 X3 x4
    go_wp2_with fail
    refine (HSM.out _).mono ?_
    rintro e w5 ⟨rfl, hb5⟩
    have HB5 := Lib.hid (HB4.out.trans (hb5.mono HB4.out.size))
    clear hb5 HB4 HSM
    simp only [decide_true]
    have hm5 : w5.cell? ⟨0, 0, none⟩ = some (.int .i64 m) := (HB5.out.cell (p := ⟨0, 0, none⟩) (by exact hw0)).trans HM.out
    have HL5 := Lib.hid (HLV.out w5 hm5)
    clear hm5 HLV z0 z1 z2 z3 lz
    go_wp2_with fail
    refine HL5.out.mono ?_
    rintro e w6 ⟨rfl, hb6⟩
    have HB6 := Lib.hid (HB5.out.trans (hb6.mono HB5.out.size))
    clear hb6
    go_wp2
    go_ret
    exact ⟨rfl, HB6.out⟩
  | ok l =>
    rw [hP] at HPA HRP
    have HPA := Lib.hid (show Calls _ _ _ _ (fun e w' => ∃ v, e = .returned (.tuple #[.agg #[.string l.root.group, .string l.root.artifact, .string l.root.version, v], .int .i64 0, .int .i64 0]) ∧ SliceOf 6 pinC w' v l.pins ∧ Below w.heap.size w w') from HPA.out)
    have HRP := Lib.hid (show ∀ V, Calls _ _ _ V (fun e w' => ∃ v, e = .returned (.tuple #[.agg #[.string l.root.group, .string l.root.artifact, .string l.root.version, v], .int .i64 0]) ∧ SliceOf 6 pinC w' v l.pins ∧ Below V.heap.size V w') from HRP.out)
    have HSM := Lib.hid (fun v u V h h' => sameLock_any l l v u V h h')
    clear hP
    go_wp2_with fail
    refine HPA.out.mono ?_
    rintro e w1 ⟨v, rfl, hs1, hb1⟩
    obtain ⟨ao, cap, rfl⟩ := hs1.shape
    have HB1 := Lib.hid hb1
    have HS1 := Lib.hid hs1
    clear hb1 hs1 HPA
    go_upto_region 3 with fail
    refine wp_world ?_
    intro W2 hW2
    have x2 : Box W2 w1.heap.size [.string l.root.group, .string l.root.artifact, .string l.root.version, .slice ao l.pins.length cap] := by rw [hW2]; exact Box.new w1 [.string l.root.group, .string l.root.artifact, .string l.root.version, .slice ao l.pins.length cap] _ _ rfl
    have hb2 : Below w1.heap.size w1 W2 := by rw [hW2]; exact (Below.refl _ w1).alloc (Nat.le_refl _) _
    clear hW2
    have HB2 := Lib.hid (HB1.out.trans (hb2.mono HB1.out.size))
    have HS2 := Lib.hid (HS1.out.below hb2)
    have X2 := Lib.hid x2
    clear x2 hb2 HB1 HS1
    go_wp2_with fail
    refine (HRP.out _).mono ?_
    rintro e w3 ⟨u, rfl, hs3, hb3⟩
    obtain ⟨bo, bc, rfl⟩ := hs3.shape
    have HB3 := Lib.hid (HB2.out.trans (hb3.mono HB2.out.size))
    have HS3 := Lib.hid (HS2.out.below hb3)
    have HU3 := Lib.hid hs3
    have X3 := Lib.hid (X2.out.below hb3 X2.out.lt)
    clear hb3 hs3 HB2 HS2 X2 HRP
    go_upto_region 4 with fail
    refine wp_world ?_
    intro W4 hW4
    have y4 : Box W4 w3.heap.size [.string l.root.group, .string l.root.artifact, .string l.root.version, .slice bo l.pins.length bc] := by rw [hW4]; exact Box.new w3 [.string l.root.group, .string l.root.artifact, .string l.root.version, .slice bo l.pins.length bc] _ _ rfl
    have hb4 : Below w3.heap.size w3 W4 := by rw [hW4]; exact (Below.refl _ w3).alloc (Nat.le_refl _) _
    clear hW4
    have HB4 := Lib.hid (HB3.out.trans (hb4.mono HB3.out.size))
    have HS4 := Lib.hid (HS3.out.below hb4)
    have HU4 := Lib.hid (HU3.out.below hb4)
    have x4 := X3.out.below hb4 X3.out.lt
    have z0 := x4.cell 0 _ rfl
    have z1 := x4.cell 1 _ rfl
    have z2 := x4.cell 2 _ rfl
    have z3 := x4.cell 3 _ rfl
    have lz := x4.lt
    have q0 := y4.cell 0 _ rfl
    have q1 := y4.cell 1 _ rfl
    have q2 := y4.cell 2 _ rfl
    have q3 := y4.cell 3 _ rfl
    have ly := y4.lt
    clear hb4 HB3 HS3 HU3 X3 x4 y4
    go_wp2_with fail
    refine (HSM.out _ _ _ HS4.out HU4.out).mono ?_
    rintro e w5 ⟨rfl, hb5⟩
    have HB5 := Lib.hid (HB4.out.trans (hb5.mono HB4.out.size))
    clear hb5 HB4 HSM
    simp only [decide_true]
    have hm5 : w5.cell? ⟨0, 0, none⟩ = some (.int .i64 m) := (HB5.out.cell (p := ⟨0, 0, none⟩) (by exact hw0)).trans HM.out
    have HL5 := Lib.hid (HLV.out w5 hm5)
    clear hm5 HLV z0 z1 z2 z3 lz q0 q1 q2 q3 ly
    go_wp2_with fail
    refine HL5.out.mono ?_
    rintro e w6 ⟨rfl, hb6⟩
    have HB6 := Lib.hid (HB5.out.trans (hb6.mono HB5.out.size))
    clear hb6
    go_wp2
    go_ret
    exact ⟨rfl, HB6.out⟩

end Go.Proofs.YtmcjpmogjmnfpaaDoor
