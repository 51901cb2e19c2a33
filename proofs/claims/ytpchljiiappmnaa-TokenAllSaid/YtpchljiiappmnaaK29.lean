/- The law's example, walked; its condition stands in the theorem. -/
import Derived.Test.YtpchljiiappmnaaK28
import Derived.KernelRfl
namespace Go.Proofs.Ytpchljiiappmnaa
open Go Go.RowKit

theorem TokSl.len {base : Nat} {w : World} {s : S} {ov : Value} {L : List TkM} {acc : List (Tk × Bs)} (h : TokSl base w s ov L acc) : L.length = acc.length := by
  have := congrArg List.length h.is; simpa using this
/-- The i-th token's cells. -/
theorem TokSl.at {base : Nat} {w : World} {s : S} {ov : Value} {L : List TkM} {acc : List (Tk × Bs)} (h : TokSl base w s ov L acc) {i : Nat} {t : Tk} {r : Bs} (hi : acc[i]? = some (t, r)) :
    ∃ g o cap av, ov = .slice (some ⟨g, o, none⟩) acc.length cap ∧ g < w.heap.size ∧ w.cell? ⟨g, o + i * 7, none⟩ = some (.int .i64 t.kind) ∧ w.cell? ⟨g, o + i * 7 + 1, none⟩ = some (.string (bs t.name)) ∧ w.cell? ⟨g, o + i * 7 + 2, none⟩ = some av ∧ w.cell? ⟨g, o + i * 7 + 3, none⟩ = some (.string (bs t.text)) ∧
      w.cell? ⟨g, o + i * 7 + 4, none⟩ = some (.int .i64 (pos s r : Nat)) ∧ w.cell? ⟨g, o + i * 7 + 5, none⟩ = some (.int .i64 (lineCol (s.data.toList.take (pos s r))).1) ∧ w.cell? ⟨g, o + i * 7 + 6, none⟩ = some (.int .i64 (lineCol (s.data.toList.take (pos s r))).2) ∧ Owns base 43 2 atC w av t.attrs := by
  have hl := h.len
  have hlt : i < L.length := by rw [hl]; exact (List.getElem?_eq_some_iff.1 hi).1
  have his := congrArg (·[i]?) h.is
  simp only [List.getElem?_map, List.getElem?_eq_getElem hlt, hi, Option.map_some, Option.some.injEq, Prod.mk.injEq] at his
  obtain ⟨h1, h2, h3, h4⟩ := his
  obtain ⟨ao, cap, rfl⟩ := h.own.shape
  obtain ⟨g, o, rfl, hg, hc⟩ := (h.own.slice tkC_len).at hlt
  have ha := h.att L[i] (List.getElem_mem hlt)
  rw [h1] at ha
  refine ⟨g, o, cap, L[i].av, by rw [hl], hg, ?_, ?_, hc 2 _ rfl, ?_, ?_, ?_, ?_, ha⟩
  · rw [← h1]; simpa using hc 0 _ rfl
  · rw [← h1]; exact hc 1 _ rfl
  · rw [← h1]; exact hc 3 _ rfl
  · rw [← h2]; exact hc 4 _ rfl
  · rw [← h3]; exact hc 5 _ rfl
  · rw [← h4]; exact hc 6 _ rfl

theorem all_ok (s : S) (m : Int) (w : World) {acc : List (Tk × Bs)} {r : Bs} (hs : s.size ≤ 65536) (hm : w.cell? ⟨0, 0, none⟩ = some (.int .i64 m)) (h : allR s.data.toList = .ok acc r) :
    Calls Try.prog 20 #[.string s] w (AllOut s w (.ok acc r)) := by rw [← h]; exact all_small s m w hs hm
theorem all_bad (s : S) (m : Int) (w : World) {x : Int} {r : Bs} (hs : s.size ≤ 65536) (hm : w.cell? ⟨0, 0, none⟩ = some (.int .i64 m)) (h : allR s.data.toList = .bad x r) :
    Calls Try.prog 20 #[.string s] w (AllOut s w (.bad x r)) := by rw [← h]; exact all_small s m w hs hm

theorem ex1 : allR [60, 97, 32, 98, 61, 39, 49, 39, 47, 62, 120, 38, 108, 116, 59] = .ok [(⟨2, [97], [([98], [49])], []⟩, [60, 97, 32, 98, 61, 39, 49, 39, 47, 62, 120, 38, 108, 116, 59]), (⟨4, [], [], [120, 60]⟩, [120, 38, 108, 116, 59])] [] := by kernel_rfl
theorem ex2 : allR [60, 97, 32, 98, 61, 49, 62] = .bad 10 [49, 62] := by kernel_rfl
theorem ex3 : allR [60, 97] = .bad 13 [] := by kernel_rfl
theorem ex4 : allR [60, 32, 97, 62] = .bad 11 [32, 97, 62] := by kernel_rfl

/-- The first example's tokens. -/
def Live1 (w : World) (e : Ending) (w' : World) : Prop := ∃ g o cap ga oa capa, e = .returned (.tuple #[.slice (some ⟨g, o, none⟩) 2 cap, .int .i64 0, .agg #[.int .i64 0, .int .i64 0, .int .i64 0]]) ∧ g < w'.heap.size ∧ ga < w'.heap.size ∧ w'.cell? ⟨g, o, none⟩ = some (.int .i64 2) ∧ w'.cell? ⟨g, o + 1, none⟩ = some (.string ⟨#[97]⟩) ∧ w'.cell? ⟨g, o + 2, none⟩ = some (.slice (some ⟨ga, oa, none⟩) 1 capa) ∧
  w'.cell? ⟨ga, oa + 1, none⟩ = some (.string ⟨#[49]⟩) ∧ w'.cell? ⟨g, o + 7 + 3, none⟩ = some (.string ⟨#[120, 60]⟩) ∧ 1 ≤ cap ∧ 1 ≤ capa ∧ Below w.heap.size w w'
theorem live1 (m : Int) (w : World) (hm : w.cell? ⟨0, 0, none⟩ = some (.int .i64 m)) : Calls Try.prog 20 #[.string ⟨#[60, 97, 32, 98, 61, 39, 49, 39, 47, 62, 120, 38, 108, 116, 59]⟩] w (Live1 w) := by
  refine (all_ok ⟨#[60, 97, 32, 98, 61, 39, 49, 39, 47, 62, 120, 38, 108, 116, 59]⟩ m w (by decide) hm ex1).mono fun e w' hO => ?_
  obtain ⟨ov, L, rfl, hT, hb⟩ := hO
  obtain ⟨g, o, cap, av, rfl, hg, c0, c1, c2, -, -, -, -, ha⟩ := hT.at (i := 0) rfl
  obtain ⟨g2, o2, cap2, av2, e2, -, -, -, -, c3, -⟩ := hT.at (i := 1) rfl
  cases e2
  obtain ⟨aa, capa, rfl⟩ := ha.shape
  obtain ⟨ga, oa, rfl, hga, hca⟩ := (ha.slice atC_len).at (k := 0) (by simp)
  obtain ⟨_, _, e3, h3, -⟩ := ha.slice atC_len
  obtain ⟨_, _, e4, h4, -⟩ := hT.own.slice tkC_len
  cases e3
  simp only [Value.slice.injEq] at e4
  obtain ⟨-, -, rfl⟩ := e4
  have hl := hT.len
  refine ⟨g, o, cap, ga, oa, capa, rfl, hg, hga, by simpa using c0, by simpa [bs] using c1, by simpa using c2, by simpa [bs] using hca 1 _ rfl, by simpa [bs] using c3, ?_, by simpa using h3, hb⟩
  simp at hl; omega

/-- An example at which something goes wrong. -/
def LiveN (x o : Int) (w : World) (e : Ending) (w' : World) : Prop := ∃ li co : Int, e = .returned (.tuple #[.slice none 0 0, .int .i64 x, .agg #[.int .i64 o, .int .i64 li, .int .i64 co]]) ∧ Below w.heap.size w w'
theorem liveN (s : S) (x : Int) (r : Bs) (m : Int) (w : World) (hs : s.size ≤ 65536) (h : allR s.data.toList = .bad x r) (hm : w.cell? ⟨0, 0, none⟩ = some (.int .i64 m)) : Calls Try.prog 20 #[.string s] w (LiveN x (pos s r : Nat) w) := by
  refine (all_bad s m w hs hm h).mono fun e w' hO => ?_
  obtain ⟨rfl, hb⟩ := hO
  exact ⟨_, _, rfl, hb⟩
theorem live2 (m : Int) (w : World) (hm : w.cell? ⟨0, 0, none⟩ = some (.int .i64 m)) : Calls Try.prog 20 #[.string ⟨#[60, 97, 32, 98, 61, 49, 62]⟩] w (LiveN 10 5 w) := liveN _ 10 [49, 62] m w (by decide) ex2 hm
theorem live3 (m : Int) (w : World) (hm : w.cell? ⟨0, 0, none⟩ = some (.int .i64 m)) : Calls Try.prog 20 #[.string ⟨#[60, 97]⟩] w (LiveN 13 2 w) := liveN _ 13 [] m w (by decide) ex3 hm
theorem live4 (m : Int) (w : World) (hm : w.cell? ⟨0, 0, none⟩ = some (.int .i64 m)) : Calls Try.prog 20 #[.string ⟨#[60, 32, 97, 62]⟩] w (LiveN 11 1 w) := liveN _ 11 [32, 97, 62] m w (by decide) ex4 hm

set_option maxRecDepth 100000 in
set_option maxHeartbeats 8000000 in
theorem lives_any (m : Int) (w : World) (hm : w.cell? ⟨0, 0, none⟩ = some (.int .i64 m)) :
    Calls Try.prog 23 #[] w fun e w' => e = .returned (.bool true) ∧ Below w.heap.size w w' := by
  have hw0 : 0 < w.heap.size := World.block_lt_of_cell? w _ hm
  have HM := Lib.hid hm
  clear hm
  go_enter Try.func23, Try.ntmps23
  go_wp2_with fail
  refine (live1 m _ HM.out).mono ?_
  intro e w1 hO
  obtain ⟨g, o, cap, ga, oa, capa, rfl, hg, hga, c0, c1, c2, c3, c4, hcap, hcapa, hb1⟩ := hO
  have HC := Lib.hid (And.intro c0 (And.intro c1 (And.intro c2 (And.intro c3 c4))))
  have hw1 := hb1.size
  clear c0 c1 c2 c3 c4
  go_wp2_with fail
  refine Calls.world ?_
  intro W1 hW1
  have x1 : Box W1 w1.heap.size [.int .i64 0, .int .i64 0, .int .i64 0] := by rw [hW1]; exact Box.new w1 _ _ _ rfl
  have b1 : Below w1.heap.size w1 W1 := by rw [hW1]; exact (Below.refl _ _).alloc (Nat.le_refl _) _
  clear hW1
  have hB1 := hb1.trans (b1.mono hw1)
  refine (live2 m W1 ((hB1.cell hw0).trans HM.out)).mono ?_
  intro e w2 hO
  obtain ⟨li2, co2, rfl, hb2⟩ := hO
  have x1b := x1.below hb2 x1.lt
  have bb2 := b1.trans (hb2.mono b1.size)
  have hB2 := hB1.trans (hb2.mono hB1.size)
  clear x1 b1 hB1 hb1 hb2
  go_wp2_with fail
  refine Calls.world ?_
  intro W2 hW2
  have y1 : Box W2 w1.heap.size [.int .i64 0, .int .i64 0, .int .i64 0] := by rw [hW2]; exact x1b.alloc _
  have x2 : Box W2 w2.heap.size [.int .i64 5, .int .i64 li2, .int .i64 co2] := by rw [hW2]; exact Box.new w2 _ _ _ rfl
  have b2 : Below w2.heap.size w2 W2 := by rw [hW2]; exact (Below.refl _ _).alloc (Nat.le_refl _) _
  clear hW2 x1b
  have hB2' := hB2.trans (b2.mono hB2.size)
  have bb2' := bb2.trans (b2.mono bb2.size)
  refine (live3 m W2 ((hB2'.cell hw0).trans HM.out)).mono ?_
  intro e w3 hO
  obtain ⟨li3, co3, rfl, hb3⟩ := hO
  have x2b := x2.below hb3 x2.lt
  have hB3 := hB2'.trans (hb3.mono hB2'.size)
  have bb3 := bb2'.trans (hb3.mono bb2'.size)
  clear x2 b2 hB2' hB2 hb3 bb2 bb2' y1
  go_wp2_with fail
  refine Calls.world ?_
  intro W3 hW3
  have y2 : Box W3 w2.heap.size [.int .i64 5, .int .i64 li2, .int .i64 co2] := by rw [hW3]; exact x2b.alloc _
  have x3 : Box W3 w3.heap.size [.int .i64 2, .int .i64 li3, .int .i64 co3] := by rw [hW3]; exact Box.new w3 _ _ _ rfl
  have b3 : Below w3.heap.size w3 W3 := by rw [hW3]; exact (Below.refl _ _).alloc (Nat.le_refl _) _
  clear hW3 x2b
  have hB3' := hB3.trans (b3.mono hB3.size)
  have bb3' := bb3.trans (b3.mono bb3.size)
  refine (live4 m W3 ((hB3'.cell hw0).trans HM.out)).mono ?_
  intro e w4 hO
  obtain ⟨li4, co4, rfl, hb4⟩ := hO
  have y2b := y2.below hb4 y2.lt
  have y3b := x3.below hb4 x3.lt
  have HB4 := Lib.hid (hB3'.trans (hb4.mono hB3'.size))
  have HBB := Lib.hid (bb3'.trans (hb4.mono bb3'.size))
  clear x3 b3 hB3' hB3 hb4 bb3 bb3' y2
  have hg4 : g < w4.heap.size := Nat.lt_of_lt_of_le hg HBB.out.size
  have hga4 : ga < w4.heap.size := Nat.lt_of_lt_of_le hga HBB.out.size
  have d0 := (HBB.out.cell (p := ⟨g, o, none⟩) (by exact hg)).trans HC.out.1
  have d1 := (HBB.out.cell (p := ⟨g, o + 1, none⟩) (by exact hg)).trans HC.out.2.1
  have d2 := (HBB.out.cell (p := ⟨g, o + 2, none⟩) (by exact hg)).trans HC.out.2.2.1
  have d3 := (HBB.out.cell (p := ⟨ga, oa + 1, none⟩) (by exact hga)).trans HC.out.2.2.2.1
  have d4 := (HBB.out.cell (p := ⟨g, o + 7 + 3, none⟩) (by exact hg)).trans HC.out.2.2.2.2
  have q2 := y2b.cell 0 _ rfl
  have q3 := y3b.cell 0 _ rfl
  have l2 := y2b.lt
  have l3 := y3b.lt
  clear y2b y3b hg hga
  go_wp2
  go_ret
  exact ⟨rfl, HB4.out.alloc HB4.out.size _⟩

end Go.Proofs.Ytpchljiiappmnaa
