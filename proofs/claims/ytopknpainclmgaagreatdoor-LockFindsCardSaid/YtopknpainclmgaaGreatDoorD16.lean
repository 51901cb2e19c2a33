/- Walks: the example of the statements on locks; the condition stands in the theorem. -/
import Derived.Test.YtopknpainclmgaaGreatDoorD6
import Derived.Test.YtopknpainclmgaaGreatDoorD9
import Derived.Test.YtopknpainclmgaaGreatDoorD12
import Derived.Test.YtopknpainclmgaaGreatDoorD14
import Derived.Test.YtopknpainclmgaaGreatDoorD15

namespace Go.Proofs.YtopknpainclmgaaGreatDoor
open Go Go.RowKit

def exPin : Pin := ⟨⟨⟨#[103]⟩, ⟨#[98]⟩, ⟨#[106, 97, 114]⟩, ⟨#[]⟩⟩, ⟨#[50]⟩, 1⟩
def exL : Lock := ⟨⟨⟨#[103]⟩, ⟨#[97]⟩, ⟨#[49]⟩⟩, [exPin]⟩
def exT : Bs := [112, 111, 109, 97, 99, 101, 32, 49, 10, 114, 111, 111, 116, 32, 103, 58, 97, 58, 49, 10, 112, 105, 110, 32, 103, 58, 98, 58, 106, 97, 114, 32, 50, 32, 99, 111, 109, 112, 105, 108, 101, 10, 101, 110, 100, 32, 49, 10]
theorem exL_may : lockMay exL = true := by kernel_rfl
theorem exL_print : printB exL = exT := by
  unfold printB endB
  rw [numB_low (by decide)]
  decide
theorem exL_parse : parseB exT = .ok exL := by rw [← exL_print]; exact parse_print exL_may
theorem exL_sm : lockSm exL := by
  refine ⟨⟨by decide, by decide, by decide⟩, fun p hp => ?_⟩
  simp only [exL, List.mem_cons, List.not_mem_nil, or_false] at hp
  subst hp
  exact ⟨⟨by decide, by decide, by decide, by decide⟩, by decide⟩
set_option maxRecDepth 100000 in
theorem example_any (w : World) : Calls Tryz.prog 12 #[] w fun e w' => ∃ v, e = .returned (.agg #[.string ⟨#[103]⟩, .string ⟨#[97]⟩, .string ⟨#[49]⟩, v]) ∧ SliceOf 6 pinC w' v exL.pins ∧ Below w.heap.size w w' := by
  go_enter Tryz.func12, Tryz.ntmps12
  go_upto_region 1 with fail
  refine wp_world ?_
  intro W hW
  have x2 : Box W w.heap.size [.string ⟨#[]⟩, .string ⟨#[]⟩, .string ⟨#[]⟩, .slice none 0 0] := by rw [hW]; exact Box.new w [.string ⟨#[]⟩, .string ⟨#[]⟩, .string ⟨#[]⟩, .slice none 0 0] _ _ rfl
  have hb : Below w.heap.size w W := by rw [hW]; exact (Below.refl _ w).alloc (Nat.le_refl _) _
  clear hW
  have HB := Lib.hid hb
  have HLT := Lib.hid (pinLitD W exPin W.heap.size rfl)
  have hX := (x2.alloc (.cells #[.string ⟨#[103]⟩, .string ⟨#[98]⟩, .string ⟨#[106, 97, 114]⟩, .string ⟨#[]⟩, .string ⟨#[50]⟩, .int .i64 1] 33))
  have HX := Lib.hid hX
  have HNE : Hid (w.heap.size < W.heap.size) := x2.lt
  have u0 := hX.free 0
  have u1 := hX.free 1
  have u2 := hX.free 2
  have u3 := hX.free 3
  have z0 := hX.cell 0 _ rfl
  have z1 := hX.cell 1 _ rfl
  have z2 := hX.cell 2 _ rfl
  have z3 := hX.cell 3 _ rfl
  have lz := hX.lt
  clear x2 hb hX
  go_wp2
  refine bodyPost_ret (v := .agg #[.string ⟨#[103]⟩, .string ⟨#[97]⟩, .string ⟨#[49]⟩, .slice (some ⟨W.heap.size, 0, none⟩) 1 1]) (by simp [results, Tryz.results12, go_sem, z0, z1, z2, z3]) rfl ?_
  have hk : ∀ V : World, SliceOf 6 pinC V (.slice (some ⟨W.heap.size, 0, none⟩) 1 1) exL.pins → ∀ j u, SliceOf 6 pinC (V.setCell ⟨w.heap.size, j, none⟩ u) (.slice (some ⟨W.heap.size, 0, none⟩) 1 1) exL.pins := by
    intro V h j u
    obtain ⟨ao, cap, e, h1, h2, h3, h4⟩ := h
    refine ⟨ao, cap, e, h1, h2, h3, fun i x hx => ?_⟩
    obtain ⟨b, o, he, hl, hc⟩ := h4 i x hx
    refine ⟨b, o, he, by simpa [World.setCell] using hl, fun j' u' hu => ?_⟩
    have hb : b = W.heap.size := by simp only [Value.slice.injEq] at e; rw [he] at e; have := e.1; simp at this; exact this.1.symm
    rw [World.cell?_setCell_far _ _ _ _ (by have := HNE.out; simp; omega)]
    exact hc j' u' hu
  refine ⟨_, rfl, ?_, ?_⟩
  · first
      | exact hk _ (hk _ (hk _ (hk _ HLT.out _ _) _ _) _ _) _ _
  · exact (((((HB.out.alloc HB.out.size _).setCell (by simp) _).setCell (by simp) _).setCell (by simp) _).setCell (by simp) _)
set_option maxRecDepth 100000 in
set_option maxHeartbeats 8000000 in
theorem lives_any (m : Int) (w : World) (hm : w.cell? ⟨0, 0, none⟩ = some (.int .i64 m)) : Calls Tryz.prog 5 #[] w fun e w' => e = .returned (.bool true) ∧ Below w.heap.size w w' := by
  have HPA := Lib.hid (parse_any (bs exT) m w (by decide) hm)
  rw [bs_data, exL_parse] at HPA
  have HPA := Lib.hid (show Calls _ _ _ _ (fun e w' => ∃ v, e = .returned (.tuple #[.agg #[.string ⟨#[103]⟩, .string ⟨#[97]⟩, .string ⟨#[49]⟩, v], .int .i64 0, .int .i64 0]) ∧ SliceOf 6 pinC w' v exL.pins ∧ Below w.heap.size w w') from HPA.out)
  clear hm
  have HEX := Lib.hid example_any
  have HPR := Lib.hid (fun v V h => print_any exL v V h (may_small exL_may))
  rw [exL_print] at HPR
  have HSM := Lib.hid (fun v u V h h' => sameLock_any exL exL v u V h h')
  have HMY := Lib.hid (fun v V h => lockMay_any exL v V h exL_sm)
  rw [exL_may] at HMY
  have HBE : Hid (∀ V : World, Below V.heap.size V V) := fun V => Below.refl _ _
  have he : ((bs exT).toList == [112, 111, 109, 97, 99, 101, 32, 49, 10, 114, 111, 111, 116, 32, 103, 58, 97, 58, 49, 10, 112, 105, 110, 32, 103, 58, 98, 58, 106, 97, 114, 32, 50, 32, 99, 111, 109, 112, 105, 108, 101, 10, 101, 110, 100, 32, 49, 10]) = true := by rw [str_lit, bs_data]; rfl
  go_enter Tryz.func5, Tryz.ntmps5
  go_wp2_with fail
  refine HPA.out.mono ?_
  rintro e w1 ⟨v, rfl, hs, hb⟩
  obtain ⟨ao, cap, rfl⟩ := hs.shape
  have HS1 := Lib.hid hs
  have HB1 := Lib.hid hb
  clear hs hb HPA
  go_upto_region 3 with fail
  refine wp_world ?_
  intro W2 hW2
  have x2 : Box W2 w1.heap.size [.string ⟨#[103]⟩, .string ⟨#[97]⟩, .string ⟨#[49]⟩, .slice ao exL.pins.length cap] := by rw [hW2]; exact Box.new w1 [.string ⟨#[103]⟩, .string ⟨#[97]⟩, .string ⟨#[49]⟩, .slice ao exL.pins.length cap] _ _ rfl
  have hb2 : Below w1.heap.size w1 W2 := by rw [hW2]; exact (Below.refl _ w1).alloc (Nat.le_refl _) _
  clear hW2
  have HB2 := Lib.hid (HB1.out.trans (hb2.mono HB1.out.size))
  have HS2 := Lib.hid (HS1.out.below hb2)
  have z0 := x2.cell 0 _ rfl
  have z1 := x2.cell 1 _ rfl
  have z2 := x2.cell 2 _ rfl
  have z3 := x2.cell 3 _ rfl
  have lz := x2.lt
  clear x2 hb2 HB1 HS1
  go_region_held3 (fun w' => ∀ o, w'.cell? ⟨w1.heap.size, o, none⟩ = W2.cell? ⟨w1.heap.size, o, none⟩) (first | (intro o; rfl) | exact fun o => hb5.cell (by exact lz) | exact fun o => hb6.cell (by exact lz) | exact fun o => hb7.cell (by exact lz) | exact fun o => hb8.cell (by exact lz) | exact fun o => hb9.cell (by exact lz)) (first | (have _x := hb8; go_at_call 14; refine (HMY.out (.slice ao exL.pins.length cap) _ (HS2.out.below hb8)).mono ?_; rintro e w9 ⟨rfl, hb9'⟩; have hb9 := hb8.trans (hb9'.mono hb8.size)) | (have _x := hb7; go_at_call 13; refine (HSM.out (.slice ao exL.pins.length cap) v5 _ (HS2.out.below hb7) hs7).mono ?_; rintro e w8 ⟨rfl, hb8'⟩; have hb8 := hb7.trans (hb8'.mono hb7.size)) | (have _x := hb6; go_at_call 12; refine (HEX.out _).mono ?_; rintro e w7 ⟨v5, rfl, hs7, hb7'⟩; have hb7 := hb6.trans (hb7'.mono hb6.size)) | (have _x := hb5; go_at_call 11; refine (HPR.out v4 _ hs5).mono ?_; rintro e w6 ⟨rfl, hb6'⟩; have hb6 := hb5.trans (hb6'.mono hb5.size)) | (go_at_call 12; refine (HEX.out _).mono ?_; rintro e w5 ⟨v4, rfl, hs5, hb5'⟩; have hb5 : Below W2.heap.size W2 _ := (belowN (Below.refl _ _) 1).trans hb5'))
  have HZ := Lib.hid (HB2.out.trans (hb9.mono HB2.out.size))
  clear hb9 hb9' hb8 hb8' hb7 hb7' hb6 hb6' hb5 hb5' hs5 hs7 z0 z1 z2 z3
  go_wp2
  go_ret
  exact ⟨rfl, HZ.out⟩

end Go.Proofs.YtopknpainclmgaaGreatDoor
