/- The walk of All; its conditions stand in the theorem. -/
import Derived.Test.YtpchljiiappmnaaG18
import Derived.Test.YtpchljiiappmnaaG12
import Derived.KernelRfl
namespace Go.Proofs.Ytpchljiiappmnaa
open Go Go.RowKit

/-- The tokens of a text in memory. -/
structure TokSl (base : Nat) (w : World) (s : S) (ov : Value) (L : List TkM) (acc : List (Tk × Bs)) : Prop where
  own : Owns base 34 7 tkC w ov L
  att : ∀ x ∈ L, Owns base 43 2 atC w x.av x.t.attrs
  is : L.map (fun x => (x.t, x.off, x.line, x.col)) = acc.map (fun p => (p.1, (pos s p.2 : Int), ((lineCol (s.data.toList.take (pos s p.2))).1 : Int), ((lineCol (s.data.toList.take (pos s p.2))).2 : Int)))

def zeroPlace : Value := .agg #[.int .i64 0, .int .i64 0, .int .i64 0]
/-- What All returns. -/
def AllOut (s : S) (w : World) : Res (List (Tk × Bs)) → Ending → World → Prop
  | .ok acc _ => fun e w' => ∃ ov L, e = .returned (.tuple #[ov, .int .i64 0, zeroPlace]) ∧ TokSl w.heap.size w' s ov L acc ∧ Below w.heap.size w w'
  | .bad x r => fun e w' => e = .returned (.tuple #[.slice none 0 0, .int .i64 x, placeV s.data.toList (pos s r)]) ∧ Below w.heap.size w w'

/-- The four variables that All's results and its closure share. -/
structure Vars (W : World) (B : Nat) (s : S) (v1 v2 p0 p1 p2 : Value) : Prop where
  x0 : Box W B [.string s]
  x1 : Box W (B + 1) [v1]
  x2 : Box W (B + 2) [v2]
  x3 : Box W (B + 3) [p0, p1, p2]

theorem Vars.made (w : World) (s : S) : Vars ((((w.alloc (.cells #[.string s] 9)).alloc (.cells #[.slice none 0 0] 23)).alloc (.cells #[.int .i64 0] 24)).alloc (.cells #[.int .i64 0, .int .i64 0, .int .i64 0] 26)) w.heap.size s (.slice none 0 0) (.int .i64 0) (.int .i64 0) (.int .i64 0) (.int .i64 0) :=
  ⟨(((Box.new w [.string s] _ _ rfl).alloc _).alloc _).alloc _, (((Box.new _ [.slice none 0 0] _ _ (by simp)).alloc _).alloc _), ((Box.new _ [.int .i64 0] _ _ (by simp)).alloc _), Box.new _ [.int .i64 0, .int .i64 0, .int .i64 0] _ _ (by simp)⟩

theorem Vars.below {W W' : World} {B : Nat} {s : S} {v1 v2 p0 p1 p2 : Value} (h : Vars W B s v1 v2 p0 p1 p2) (hb : Below W.heap.size W W') : Vars W' B s v1 v2 p0 p1 p2 :=
  ⟨h.x0.below hb h.x0.lt, h.x1.below hb h.x1.lt, h.x2.below hb h.x2.lt, h.x3.below hb h.x3.lt⟩
theorem Vars.belowB {W W' : World} {B C : Nat} {s : S} {v1 v2 p0 p1 p2 : Value} (h : Vars W B s v1 v2 p0 p1 p2) (hb : Below C W W') (hC : B + 3 < C) : Vars W' B s v1 v2 p0 p1 p2 :=
  ⟨h.x0.below hb (by omega), h.x1.below hb (by omega), h.x2.below hb (by omega), h.x3.below hb (by omega)⟩

theorem Vars.store {W : World} {B : Nat} {s : S} {v1 v2 p0 p1 p2 : Value} (h : Vars W B s v1 v2 p0 p1 p2) (u1 u2 q0 q1 q2 : Value) : Vars (((((W.setCell ⟨B + 1, 0, none⟩ u1).setCell ⟨B + 2, 0, none⟩ u2).setCell ⟨B + 3, 0, none⟩ q0).setCell ⟨B + 3, 1, none⟩ q1).setCell ⟨B + 3, 2, none⟩ q2) B s u1 u2 q0 q1 q2 :=
  ⟨((((h.x0.grownB (setCell_grown _ (B + 1) 0 _) (by omega)).grownB (setCell_grown _ (B + 2) 0 _) (by omega)).grownB (setCell_grown _ (B + 3) 0 _) (by omega)).grownB (setCell_grown _ (B + 3) 1 _) (by omega)).grownB (setCell_grown _ (B + 3) 2 _) (by omega),
   ((((h.x1.set 0 _).grownB (setCell_grown _ (B + 2) 0 _) (by omega)).grownB (setCell_grown _ (B + 3) 0 _) (by omega)).grownB (setCell_grown _ (B + 3) 1 _) (by omega)).grownB (setCell_grown _ (B + 3) 2 _) (by omega),
   ((((h.x2.grownB (setCell_grown _ (B + 1) 0 _) (by omega)).set 0 _).grownB (setCell_grown _ (B + 3) 0 _) (by omega)).grownB (setCell_grown _ (B + 3) 1 _) (by omega)).grownB (setCell_grown _ (B + 3) 2 _) (by omega),
   ((((h.x3.grownB (setCell_grown _ (B + 1) 0 _) (by omega)).grownB (setCell_grown _ (B + 2) 0 _) (by omega)).set 0 _).set 1 _).set 2 _⟩
theorem below_store {W0 W : World} {B : Nat} (h : Below B W0 W) (u1 u2 q0 q1 q2 : Value) : Below B W0 (((((W.setCell ⟨B + 1, 0, none⟩ u1).setCell ⟨B + 2, 0, none⟩ u2).setCell ⟨B + 3, 0, none⟩ q0).setCell ⟨B + 3, 1, none⟩ q1).setCell ⟨B + 3, 2, none⟩ q2) :=
  ((((h.setCell (p := ⟨B + 1, 0, none⟩) (by simp) _).setCell (p := ⟨B + 2, 0, none⟩) (by simp) _).setCell (p := ⟨B + 3, 0, none⟩) (by simp) _).setCell (p := ⟨B + 3, 1, none⟩) (by simp) _).setCell (p := ⟨B + 3, 2, none⟩) (by simp) _

set_option maxRecDepth 100000 in
set_option maxHeartbeats 4000000 in
theorem all_big (s : S) (w : World) (hs : 65536 < s.size) (hs2 : s.size ≤ 1000000) :
    Calls Try.prog 20 #[.string s] w fun e w' => e = .returned (.tuple #[.slice none 0 0, .int .i64 2, placeV s.data.toList 0]) ∧ Below w.heap.size w w' := by
  have hsi : (65536 : Int) < (s.size : Int) := by omega
  have HAT : Hid (∀ w, Calls Try.prog 51 #[.string s, .int .i64 0] w fun e w' => e = .returned (.agg #[.int .i64 0, .int .i64 (lineCol (s.data.toList.take 0)).1, .int .i64 (lineCol (s.data.toList.take 0)).2]) ∧ Below w.heap.size w w') := fun w => at_any s 0 w (Nat.zero_le _) hs2
  unfold placeV
  generalize (lineCol (s.data.toList.take 0)).1 = li at *
  generalize (lineCol (s.data.toList.take 0)).2 = co at *
  go_enter_defers Try.func20, Try.ntmps20
  go_wp2_with fail
  refine Calls.world ?_
  intro W hW
  have hV : Vars W w.heap.size s (.slice none 0 0) (.int .i64 0) (.int .i64 0) (.int .i64 0) (.int .i64 0) := by rw [hW]; exact Vars.made w s
  have hB : Below w.heap.size w W := by rw [hW]; exact ((((Below.refl _ _).alloc (Nat.le_refl _) _).alloc (by simp) _).alloc (by simp; omega) _).alloc (by simp; omega) _
  clear hW
  refine (HAT.out W).mono ?_
  rintro e w2 ⟨rfl, hb2⟩
  have hV2 := hV.below hb2
  have hB2 := hB.trans (hb2.mono hB.size)
  have a1 := hV2.x1.cell 0 _ rfl
  have a2 := hV2.x2.cell 0 _ rfl
  have a3 := hV2.x3.cell 0 _ rfl
  have a4 := hV2.x3.cell 1 _ rfl
  have a5 := hV2.x3.cell 2 _ rfl
  have f1 := hV2.x1.free 0
  have f2 := hV2.x2.free 0
  have f3 := hV2.x3.free 0
  have f4 := hV2.x3.free 1
  have f5 := hV2.x3.free 2
  have l3 := hV2.x3.lt
  have HB2 := Lib.hid hB2
  have HV2 := Lib.hid hV2
  clear hV hV2 hB hb2 hB2
  go_wp2
  have hV3 := HV2.out.store (.slice none 0 0) (.int .i64 2) (.int .i64 0) (.int .i64 li) (.int .i64 co)
  have hB3 := below_store HB2.out (.slice none 0 0) (.int .i64 2) (.int .i64 0) (.int .i64 li) (.int .i64 co)
  clear a1 a2 a3 a4 a5 f1 f2 f3 f4 f5 l3 HV2 HB2
  generalize (((((w2.setCell ⟨w.heap.size + 1, 0, none⟩ (.slice none 0 0)).setCell ⟨w.heap.size + 2, 0, none⟩ (.int .i64 2)).setCell ⟨w.heap.size + 3, 0, none⟩ (.int .i64 0)).setCell ⟨w.heap.size + 3, 1, none⟩ (.int .i64 li)).setCell ⟨w.heap.size + 3, 2, none⟩ (.int .i64 co)) = W3 at *
  have a1 := hV3.x1.cell 0 _ rfl
  have a2 := hV3.x2.cell 0 _ rfl
  have a3 := hV3.x3.cell 0 _ rfl
  have a4 := hV3.x3.cell 1 _ rfl
  have a5 := hV3.x3.cell 2 _ rfl
  refine ⟨.tuple #[.slice none 0 0, .int .i64 2, .agg #[.int .i64 0, .int .i64 li, .int .i64 co]], ?_, rfl, hB3⟩
  simp [results, Try.results20, go_sem, a1, a2, a3, a4, a5]

end Go.Proofs.Ytpchljiiappmnaa

/- What the second loop of All does: each token gets its line and column; plain facts on memory; no walk. -/
namespace Go.Proofs.Ytpchljiiappmnaa
open Go Go.RowKit

def fillT (s : S) (x : TkM) : TkM := { x with line := (lineCol (s.data.toList.take x.off.toNat)).1, col := (lineCol (s.data.toList.take x.off.toNat)).2 }

theorem Vars.setHigh {W : World} {B : Nat} {s : S} {v1 v2 p0 p1 p2 : Value} (h : Vars W B s v1 v2 p0 p1 p2) {g : Nat} (hg : B + 3 < g) (j : Nat) (u : Value) : Vars (W.setCell ⟨g, j, none⟩ u) B s v1 v2 p0 p1 p2 :=
  ⟨h.x0.grownB (setCell_grown _ g j _) (by omega), h.x1.grownB (setCell_grown _ g j _) (by omega), h.x2.grownB (setCell_grown _ g j _) (by omega), h.x3.grownB (setCell_grown _ g j _) (by omega)⟩

/-- What the second loop has done so far. -/
structure Places (w wr : World) (s : S) (ao : Option Addr) (cap : Nat) (L : List TkM) (k : Nat) : Prop where
  rd : Rd wr (w.heap.size + 4) s [] (.slice ao L.length cap)
  vars : Vars wr w.heap.size s (.slice none 0 0) (.int .i64 0) (.int .i64 0) (.int .i64 0) (.int .i64 0)
  below : Below w.heap.size w wr
  own : Owns (w.heap.size + 5) 34 7 tkC wr (.slice ao L.length cap) ((L.take k).map (fillT s) ++ L.drop k)
  att : ∀ x ∈ (L.take k).map (fillT s) ++ L.drop k, Owns (w.heap.size + 5) 43 2 atC wr x.av x.t.attrs

theorem fill_get {s : S} {L : List TkM} {k : Nat} (hk : k < L.length) : ((L.take k).map (fillT s) ++ L.drop k)[k]? = some L[k] := by
  rw [List.getElem?_append_right (by simp; omega)]
  simp [Nat.min_eq_left (Nat.le_of_lt hk)]
theorem fill_set {s : S} {L : List TkM} {k : Nat} (hk : k < L.length) : ((L.take k).map (fillT s) ++ L.drop k).set k (fillT s L[k]) = (L.take (k + 1)).map (fillT s) ++ L.drop (k + 1) := by
  have hl : ((L.take k).map (fillT s)).length = k := by simp; omega
  rw [List.set_append_right _ _ (by omega), hl, Nat.sub_self, List.drop_eq_getElem_cons hk, List.set_cons_zero, List.take_succ_eq_append_getElem hk, List.map_append]
  simp

theorem Places.step {w wr : World} {s : S} {g cap : Nat} {L : List TkM} {k : Nat} (h : Places w wr s (some ⟨g, 0, none⟩) cap L k) (hk : k < L.length) (hg : w.heap.size + 5 ≤ g) :
    Places w ((wr.setCell ⟨g, k * 7 + 5, none⟩ (.int .i64 (fillT s L[k]).line)).setCell ⟨g, k * 7 + 6, none⟩ (.int .i64 (fillT s L[k]).col)) s (some ⟨g, 0, none⟩) cap L (k + 1) := by
  have hlen : ((L.take k).map (fillT s) ++ L.drop k).length = L.length := by simp; omega
  have ho1 : Owns (w.heap.size + 5) 34 7 tkC wr (.slice (some ⟨g, 0, none⟩) ((L.take k).map (fillT s) ++ L.drop k).length cap) ((L.take k).map (fillT s) ++ L.drop k) := by rw [hlen]; exact h.own
  obtain ⟨g1, e1, -, -, -, -, -, hst1⟩ := own_store (j := 5) tkC_len ho1 (fill_get hk) (by decide)
  cases e1
  have ho2 := hst1 (.int .i64 (fillT s L[k]).line) { L[k] with line := (fillT s L[k]).line } rfl
  have hget2 : (((L.take k).map (fillT s) ++ L.drop k).set k { L[k] with line := (fillT s L[k]).line })[k]? = some { L[k] with line := (fillT s L[k]).line } := by
    rw [List.getElem?_set, if_pos rfl, if_pos (by rw [hlen]; exact hk)]
  obtain ⟨g2, e2, -, -, -, -, -, hst2⟩ := own_store (j := 6) tkC_len ho2 hget2 (by decide)
  cases e2
  have ho3 := hst2 (.int .i64 (fillT s L[k]).col) (fillT s L[k]) rfl
  rw [List.set_set, fill_set hk] at ho3
  have hl3 : ((L.take (k + 1)).map (fillT s) ++ L.drop (k + 1)).length = L.length := by simp; omega
  refine ⟨(h.rd.setOther (by omega) _ _).setOther (by omega) _ _, (h.vars.setHigh (by omega) _ _).setHigh (by omega) _ _, (h.below.setCell (p := ⟨g, _, none⟩) (by simp; omega) _).setCell (p := ⟨g, _, none⟩) (by simp; omega) _, ?_, ?_⟩
  · rw [hlen] at ho3; exact ho3
  · intro x hx
    have hx' : ∃ y ∈ (L.take k).map (fillT s) ++ L.drop k, y.av = x.av ∧ y.t = x.t := by
      rw [← fill_set hk] at hx
      obtain ⟨i, hi, rfl⟩ := List.mem_iff_getElem.1 hx
      rw [List.length_set] at hi
      rw [List.getElem_set]
      split
      · exact ⟨L[k], List.mem_of_getElem? (fill_get hk), rfl, rfl⟩
      · exact ⟨_, List.getElem_mem hi, rfl, rfl⟩
    obtain ⟨y, hy, ha, ht⟩ := hx'
    have h1 := h.att y hy
    rw [ha, ht] at h1
    have hne := own_types h1 h.own (by decide)
    have h2 := h1.kept (setCell_grown wr g (k * 7 + 5) (.int .i64 (fillT s L[k]).line)) hne
    exact h2.kept (setCell_grown _ g (k * 7 + 6) (.int .i64 (fillT s L[k]).col)) hne

end Go.Proofs.Ytpchljiiappmnaa

/- The walk of All where the text is not too great; its conditions stand in the theorem. -/
namespace Go.Proofs.Ytpchljiiappmnaa
open Go Go.RowKit

/-- What the loop over the text has done so far. -/
structure Alls (w wr : World) (s : S) (l : Bs) (ov : Value) (L : List TkM) (acc : List (Tk × Bs)) (f : Nat) : Prop where
  toks : Toks wr (w.heap.size + 4) s l ov L
  vars : Vars wr w.heap.size s (.slice none 0 0) (.int .i64 0) (.int .i64 0) (.int .i64 0) (.int .i64 0)
  below : Below w.heap.size w wr
  spec : allR s.data.toList = allGo f (decide (pos s l = 0)) acc l
  fuel : l.length ≤ f
  same : L.map (fun x => (x.t, x.off, x.line, x.col)) = acc.map (fun p => (p.1, (pos s p.2 : Int), (0 : Int), (0 : Int)))
  falls : Falls s.data.toList acc l
  num : L.length + l.length ≤ s.size

theorem Alls.drewN {w wr : World} {s : S} {l : Bs} {ov : Value} {L : List TkM} {acc : List (Tk × Bs)} {f : Nat} (h : Alls w wr s l ov L acc f) (n : Nat) : Alls w (wr.drewN n) s l ov L acc f :=
  ⟨h.toks.kept (grownN _ _ _) (h.toks.rd.drewN n), h.vars.below (belowN (Below.refl _ _) n), belowN h.below n, h.spec, h.fuel, h.same, h.falls, h.num⟩

theorem Alls.next {w wr w2 : World} {s : S} {l r : Bs} {ov ov2 av : Value} {L : List TkM} {acc : List (Tk × Bs)} {f : Nat} {t : Tk} (h : Alls w wr s l ov L acc f) (hl : l ≠ []) (ht : tokenR (decide (pos s l = 0)) l = .ok t r)
    (hT : Toks w2 (w.heap.size + 4) s r ov2 (L ++ [⟨t, av, pos s l, 0, 0⟩])) (hb : Below (w.heap.size + 4) wr w2) : Alls w w2 s r ov2 (L ++ [⟨t, av, pos s l, 0, 0⟩]) (acc ++ [(t, l)]) (f - 1) := by
  have hlt := tokenR_less ht hl
  have hsuf := suf_of_ok (tokenR_suf _ l) ht
  have hpos : 0 < l.length := List.length_pos_iff.2 hl
  obtain ⟨f', rfl⟩ : ∃ f', f = f' + 1 := ⟨f - 1, by have := h.fuel; omega⟩
  refine ⟨hT, h.vars.belowB hb (by omega), h.below.trans (hb.mono (by omega)), ?_, ?_, ?_, h.falls.snoc h.toks.rd.suf hsuf hlt t, ?_⟩
  · rw [h.spec]
    cases l with
    | nil => exact absurd rfl hl
    | cons c l =>
      simp only [allGo]
      rw [ht]
      simp only [Nat.add_sub_cancel]
      have : decide (pos s r = 0) = false := by
        have h1 := pos_add h.toks.rd.suf
        have h2 := pos_add hT.rd.suf
        simp; omega
      rw [this]
  · have := h.fuel; omega
  · rw [List.map_append, List.map_append, h.same]; rfl
  · have := h.num; rw [List.length_append, List.length_singleton]; omega

theorem Alls.bad {w wr : World} {s : S} {l r : Bs} {ov : Value} {L : List TkM} {acc : List (Tk × Bs)} {f : Nat} {x : Int} (h : Alls w wr s l ov L acc f) (hl : l ≠ []) (ht : tokenR (decide (pos s l = 0)) l = .bad x r) : allR s.data.toList = .bad x r := by
  have hpos : 0 < l.length := List.length_pos_iff.2 hl
  obtain ⟨f', rfl⟩ : ∃ f', f = f' + 1 := ⟨f - 1, by have := h.fuel; omega⟩
  rw [h.spec]
  cases l with
  | nil => exact absurd rfl hl
  | cons c l => simp only [allGo]; rw [ht]
theorem Alls.done {w wr : World} {s : S} {ov : Value} {L : List TkM} {acc : List (Tk × Bs)} {f : Nat} (h : Alls w wr s [] ov L acc f) : allR s.data.toList = .ok acc [] := by
  rw [h.spec]; cases f <;> rfl

theorem Alls.start {w W : World} {s : S} (hx : Box W (w.heap.size + 4) [.string s, .int .i64 0, .slice none 0 0]) (hV : Vars W w.heap.size s (.slice none 0 0) (.int .i64 0) (.int .i64 0) (.int .i64 0) (.int .i64 0)) (hb : Below w.heap.size w W) :
    Alls w W s s.data.toList (.slice none 0 0) [] [] s.size := by
  have hp : pos s s.data.toList = 0 := by unfold pos; rw [size_data]; omega
  refine ⟨⟨⟨by rw [hp]; exact hx, List.suffix_refl _⟩, Owns.nil, by simp⟩, hV, hb, ?_, by rw [size_data]; exact Nat.le_refl _, rfl, Falls.nil _ _, by simp⟩
  rw [hp]; unfold allR; rw [size_data]; rfl

/-- The places of the tokens lie in the text and rise. -/
theorem Alls.rises {w wr : World} {s : S} {ov : Value} {L : List TkM} {acc : List (Tk × Bs)} {f : Nat} (h : Alls w wr s [] ov L acc f) :
    (∀ j (hj : j < L.length), ∃ o : Nat, L[j].off = o ∧ o < s.size) ∧ ∀ i j (hi : i < j) (hj : j < L.length), L[i].off ≤ L[j].off := by
  have hlen : L.length = acc.length := by have := congrArg List.length h.same; simpa using this
  have hoff : ∀ j (hj : j < L.length), L[j].off = (pos s (acc[j]'(by omega)).2 : Int) := fun j hj => by
    have := congrArg (·[j]?) h.same
    simp only [List.getElem?_map, List.getElem?_eq_getElem hj, List.getElem?_eq_getElem (show j < acc.length by omega), Option.map_some, Option.some.injEq, Prod.mk.injEq] at this
    exact this.2.1
  refine ⟨fun j hj => ⟨_, hoff j hj, ?_⟩, fun i j hi hj => ?_⟩
  · obtain ⟨-, h2, h3⟩ := h.falls.2 (acc[j]'(by omega)) (List.getElem_mem _)
    have := pos_add h3
    simp at h2; omega
  · rw [hoff i (by omega), hoff j hj]
    have h1 := List.pairwise_iff_getElem.1 h.falls.1 i j (by omega) (by omega) hi
    obtain ⟨-, -, h3⟩ := h.falls.2 (acc[i]'(by omega)) (List.getElem_mem _)
    obtain ⟨-, -, h4⟩ := h.falls.2 (acc[j]'(by omega)) (List.getElem_mem _)
    have := pos_add h3
    have := pos_add h4
    have := h1.2
    omega

theorem Alls.places {w wr : World} {s : S} {l : Bs} {ov : Value} {L : List TkM} {acc : List (Tk × Bs)} {f : Nat} (h : Alls w wr s l ov L acc f) :
    (L.map (fillT s)).map (fun x => (x.t, x.off, x.line, x.col)) = acc.map (fun p => (p.1, (pos s p.2 : Int), ((lineCol (s.data.toList.take (pos s p.2))).1 : Int), ((lineCol (s.data.toList.take (pos s p.2))).2 : Int))) := by
  have h1 := congrArg (List.map (fun q : Tk × Int × Int × Int => (q.1, q.2.1, ((lineCol (s.data.toList.take q.2.1.toNat)).1 : Int), ((lineCol (s.data.toList.take q.2.1.toNat)).2 : Int)))) h.same
  rw [List.map_map, List.map_map] at h1
  rw [List.map_map]
  refine Eq.trans ?_ (h1.trans ?_)
  · rfl
  · rfl

theorem own_stored {α : Type} {base E n : Nat} {C : α → List Value} {W : World} {B : Nat} {v : Value} {l : List α} (h : Owns base E n C W v l) (hB : B + 3 < base) (u1 u2 q0 q1 q2 : Value) : Owns base E n C (((((W.setCell ⟨B + 1, 0, none⟩ u1).setCell ⟨B + 2, 0, none⟩ u2).setCell ⟨B + 3, 0, none⟩ q0).setCell ⟨B + 3, 1, none⟩ q1).setCell ⟨B + 3, 2, none⟩ q2) v l :=
  ((((h.keptR (setCell_grown _ _ _ _) (by omega)).keptR (setCell_grown _ _ _ _) (by omega)).keptR (setCell_grown _ _ _ _) (by omega)).keptR (setCell_grown _ _ _ _) (by omega)).keptR (setCell_grown _ _ _ _) (by omega)

set_option maxRecDepth 100000 in
set_option maxHeartbeats 8000000 in
theorem all_small (s : S) (m : Int) (w : World) (hs : s.size ≤ 65536) (hm : w.cell? ⟨0, 0, none⟩ = some (.int .i64 m)) :
    Calls Try.prog 20 #[.string s] w (AllOut s w (allR s.data.toList)) := by
  have hsi : ¬ (65536 : Int) < (s.size : Int) := by omega
  have hw0 : 0 < w.heap.size := World.block_lt_of_cell? w _ hm
  have HM := Lib.hid hm
  clear hm
  have hmf : ∀ (fn : Fn) (first cap : Array Value) (w : World), (Instr.makeFunc fn first cap).run Try.prog w = .ok (.func fn first cap) w := fun _ _ _ _ => rfl
  go_enter_defers Try.func20, Try.ntmps20
  go_wp2
  refine wp_world ?_
  intro W hW
  have hV : Vars W w.heap.size s (.slice none 0 0) (.int .i64 0) (.int .i64 0) (.int .i64 0) (.int .i64 0) := by rw [hW]; exact (Vars.made w s).below ((Below.refl _ _).alloc (Nat.le_refl _) _)
  have hB : Below w.heap.size w W := by rw [hW]; exact (((((Below.refl _ _).alloc (Nat.le_refl _) _).alloc (by simp) _).alloc (by simp; omega) _).alloc (by simp; omega) _).alloc (by simp; omega) _
  have hx : Box W (w.heap.size + 4) [.string s, .int .i64 0, .slice none 0 0] := by rw [hW]; exact Box.new _ _ _ _ (by simp)
  have hA := Lib.hid (Alls.start hx hV hB)
  clear hW hV hB hx hmf
  go_loopw [] (fun wr => ∃ l ov L acc f, Alls w wr s l ov L acc f) (fun wr => s.size - (placeOf wr (w.heap.size + 4)).toNat)
  case atStart => exact ⟨_, _, _, _, _, hA.out⟩
  case round =>
    clear hA
    obtain ⟨l, ov, L, acc, f, hA⟩ := hrel
    have HA := Lib.hid hA
    have hm : wr.cell? ⟨0, 0, none⟩ = some (.int .i64 m) := (hA.below.cell (by simpa using hw0)).trans HM.out
    have hnum := hA.num
    have hlt4 := hA.toks.rd.box.lt
    clear hA
    by_cases hl : l = []
    · subst hl
      have HN : Hid (Calls Try.prog 53 #[.pointer (some ⟨w.heap.size + 4, 0, none⟩)] wr (Qt (.bool true) wr)) := ends_any (w.heap.size + 4) s [] ov wr HA.out.toks.rd
      obtain ⟨ao, cap, rfl⟩ := HA.out.toks.own.shape
      have c2 := HA.out.toks.rd.c2
      go_wp2_with fail
      refine HN.out.mono ?_
      rintro e w1 ⟨rfl, n, rfl⟩
      obtain ⟨hoff, hmono⟩ := HA.out.rises
      have HOF := Lib.hid hoff
      have HMO := Lib.hid hmono
      have hP : Places w (wr.drewN n) s ao cap L 0 := ⟨(HA.out.drewN n).toks.rd, (HA.out.drewN n).vars, (HA.out.drewN n).below, by simpa using (HA.out.drewN n).toks.own, by simpa using (HA.out.drewN n).toks.att⟩
      have HP := Lib.hid hP
      have hLm : L.length ≤ 65536 := by omega
      clear hoff hmono hP
      go_wp2
      clear c2
      go_loopw [6, 7, 8, 9, 32] (fun li ah _ _ i wr => ∃ k a : Nat, k ≤ L.length ∧ i = .int .i64 k ∧ a ≤ s.size ∧ ah = .int .i64 a ∧ li = .int .i64 (lineCol (s.data.toList.take a)).1 ∧ Hid (∀ j (hj : j < L.length), k ≤ j → (a : Int) ≤ L[j].off) ∧ Places w wr s ao cap L k) (fun _ _ _ _ i _ => L.length - (intOf i).toNat)
      case atStart => exact ⟨0, 0, Nat.zero_le _, rfl, Nat.zero_le _, rfl, by simp [lineCol], fun j hj _ => by obtain ⟨o, h1, -⟩ := HOF.out j hj; omega, HP.out⟩
      case round =>
        clear HP
        obtain ⟨k, a, hk, rfl, ha, rfl, rfl, HR, hP⟩ := hrel
        have HP := Lib.hid hP
        have hltP := hP.rd.box.lt
        have c2 := hP.rd.c2
        have cT := hP.vars.x0.cell 0 _ rfl
        clear hP
        by_cases hkl : k < L.length
        · have hlenM : ((L.take k).map (fillT s) ++ L.drop k).length = L.length := by simp; omega
          have hown : Owns (w.heap.size + 5) 34 7 tkC wr (.slice ao ((L.take k).map (fillT s) ++ L.drop k).length cap) ((L.take k).map (fillT s) ++ L.drop k) := by rw [hlenM]; exact HP.out.own
          obtain ⟨g, rfl, hg1, hg2, -, hf5, hcells, -⟩ := own_store (j := 5) tkC_len hown (fill_get hkl) (by decide)
          obtain ⟨g2, e2, -, -, -, hf6, -, -⟩ := own_store (j := 6) tkC_len hown (fill_get hkl) (by decide)
          cases e2
          have d4 := hcells 4 _ rfl
          have d5 : wr.cell? ⟨g, k * 7 + 4 + 1, none⟩ = some (.int .i64 L[k].line) := hcells 5 _ rfl
          have d6 : wr.cell? ⟨g, k * 7 + 4 + 2, none⟩ = some (.int .i64 L[k].col) := hcells 6 _ rfl
          have hf5' : wr.frozen? ⟨g, k * 7 + 4 + 1, none⟩ = false := hf5
          have hf6' : wr.frozen? ⟨g, k * 7 + 4 + 2, none⟩ = false := hf6
          obtain ⟨o, ho, hos⟩ := HOF.out k hkl
          have hao := HR.out k hkl (Nat.le_refl _)
          have hao2 : a ≤ o := by omega
          rw [ho] at d4
          have HOo := Lib.hid ho
          have hHN : Hid (∀ j (hj : j < L.length), k + 1 ≤ j → (o : Int) ≤ L[j].off) := fun j hj hkj => by
            rw [← HOo.out]; exact HMO.out k j (by omega) hj
          have hG := Lib.hid hg1
          clear hown hcells hlenM ho hao hg1 hf5 hf6
          generalize hl5 : L[k].line = l5 at *
          generalize hl6 : L[k].col = l6 at *
          clear hl5 hl6
          go_wp2
          go_loop [6, 7] (fun li ah => ∃ a' : Nat, a' ≤ o ∧ ah = .int .i64 a' ∧ li = .int .i64 (lineCol (s.data.toList.take a')).1) (fun _ ah => o - (intOf ah).toNat)
          case atStart => exact ⟨a, hao2, rfl, rfl⟩
          case round =>
            clear hao2 ha
            obtain ⟨a', ha', rfl, rfl⟩ := hrel
            have hb1 := (lineCol_pos (s.data.toList.take a')).2.2.1
            rw [List.length_take] at hb1
            have hb2 : (lineCol (s.data.toList.take a')).1 ≤ 65537 := by omega
            clear hb1
            by_cases hlt : a' < o
            · have has : a' < s.size := by omega
              have hsn : s.data.toList.take (a' + 1) = s.data.toList.take a' ++ [s[a']] := by
                rw [List.take_succ_eq_append_getElem (by rw [size_data]; exact has)]; rfl
              by_cases h10 : s[a'] = 10
              · have e1 : (((s[a'].toNat : Nat) : Int) == 10) = true := by rw [h10]; decide
                have HL : Hid ((lineCol (s.data.toList.take (a' + 1))).1 = (lineCol (s.data.toList.take a')).1 + 1) := by show _ = _; rw [hsn, lineCol_snoc, if_pos h10]
                clear hsn h10
                generalize (lineCol (s.data.toList.take a')).1 = li at *
                go_wp2
                go_round
                case rel => exact ⟨a' + 1, hlt, by go_num, by rw [HL.out]; go_num⟩
                case measure => simp [intOf]; omega
              · have e1 : (((s[a'].toNat : Nat) : Int) == 10) = false := by
                  rw [beq_eq_false_iff_ne]; intro e; exact h10 (UInt8.toNat_inj.1 (by simpa using (by omega : s[a'].toNat = 10)))
                have HL : Hid ((lineCol (s.data.toList.take (a' + 1))).1 = (lineCol (s.data.toList.take a')).1) := by show _ = _; rw [hsn, lineCol_snoc, if_neg h10]
                clear hsn h10
                generalize (lineCol (s.data.toList.take a')).1 = li at *
                go_wp2
                go_round
                case rel => exact ⟨a' + 1, hlt, by go_num, by rw [HL.out]⟩
                case measure => simp [intOf]; omega
            · obtain rfl : a' = o := by omega
              have hex : (s.extract 0 a').data.toList = s.data.toList.take a' := by rw [Lib.extract_data]; simp
              have hez : (s.extract 0 a').size = a' := by rw [← size_data, hex, List.length_take, size_data]; omega
              have HLI := Lib.hid (fun w => lastIndexByte_any (s.extract 0 a') w (by rw [hez]; omega))
              rw [hex, hez] at HLI
              have hb3 := (lineCol_pos (s.data.toList.take a')).2.2.2
              rw [List.length_take] at hb3
              have hb4 : (lineCol (s.data.toList.take a')).2 ≤ 65537 := by omega
              have HST := Lib.hid (HP.out.step hkl hG.out)
              have hfl : (fillT s L[k]).line = ((lineCol (s.data.toList.take a')).1 : Int) := by unfold fillT; rw [HOo.out, Int.toNat_natCast]
              have hfc : (fillT s L[k]).col = ((lineCol (s.data.toList.take a')).2 : Int) := by unfold fillT; rw [HOo.out, Int.toNat_natCast]
              rw [hfl, hfc] at HST
              clear hex hez hb3 hfl hfc
              have hi1 : a' ≤ s.size := by omega
              generalize hli : (lineCol (s.data.toList.take a')).1 = li at *
              generalize hco : (lineCol (s.data.toList.take a')).2 = co at *
              have HLL := Lib.hid hli
              clear hli hco
              go_wp2_with fail
              refine (HLI.out _).mono ?_
              rintro e w' ⟨rfl, rfl⟩
              go_wp2
              go_roundw
              case rel => exact ⟨k + 1, a', hkl, by go_num, hi1, rfl, by rw [HLL.out], hHN, by first | exact HST.out | (rw [show (a' : Int) - ((a' : Int) - (co : Int)) = (co : Int) by omega]; exact HST.out)⟩
              case measure => simp [intOf]; omega
        · obtain rfl : k = L.length := by omega
          have a1 := HP.out.vars.x1.cell 0 _ rfl
          have a2 := HP.out.vars.x2.cell 0 _ rfl
          have a3 := HP.out.vars.x3.cell 0 _ rfl
          have a4 := HP.out.vars.x3.cell 1 _ rfl
          have a5 := HP.out.vars.x3.cell 2 _ rfl
          have f1 := HP.out.vars.x1.free 0
          have f2 := HP.out.vars.x2.free 0
          have f3 := HP.out.vars.x3.free 0
          have f4 := HP.out.vars.x3.free 1
          have f5 := HP.out.vars.x3.free 2
          have l3 := HP.out.vars.x3.lt
          go_wp2
          have hV3 := HP.out.vars.store (.slice ao L.length cap) (.int .i64 0) (.int .i64 0) (.int .i64 0) (.int .i64 0)
          have hB3 := below_store HP.out.below (.slice ao L.length cap) (.int .i64 0) (.int .i64 0) (.int .i64 0) (.int .i64 0)
          have hO3 := own_stored (B := w.heap.size) HP.out.own (by omega) (.slice ao L.length cap) (.int .i64 0) (.int .i64 0) (.int .i64 0) (.int .i64 0)
          have hA3 := fun x hx => own_stored (B := w.heap.size) (HP.out.att x hx) (by omega) (.slice ao L.length cap) (.int .i64 0) (.int .i64 0) (.int .i64 0) (.int .i64 0)
          rw [List.take_length, List.drop_length, List.append_nil] at hO3 hA3
          clear a1 a2 a3 a4 a5 f1 f2 f3 f4 f5 l3 c2 cT
          generalize (((((wr.setCell ⟨w.heap.size + 1, 0, none⟩ (.slice ao L.length cap)).setCell ⟨w.heap.size + 2, 0, none⟩ (.int .i64 0)).setCell ⟨w.heap.size + 3, 0, none⟩ (.int .i64 0)).setCell ⟨w.heap.size + 3, 1, none⟩ (.int .i64 0)).setCell ⟨w.heap.size + 3, 2, none⟩ (.int .i64 0)) = W3 at *
          rw [HA.out.done]
          refine leaves_cons (f := 52) (args := #[.pointer (some ⟨w.heap.size, 0, none⟩), .pointer (some ⟨w.heap.size + 1, 0, none⟩), .pointer (some ⟨w.heap.size + 2, 0, none⟩), .pointer (some ⟨w.heap.size + 3, 0, none⟩)]) (by simp) (by simp [go_sem]) ?_
          refine (catch_idle _ _ _ _ W3).mono ?_
          rintro e u' w4 ⟨rfl, rfl, rfl⟩
          have a1 := hV3.x1.cell 0 _ rfl
          have a2 := hV3.x2.cell 0 _ rfl
          have a3 := hV3.x3.cell 0 _ rfl
          have a4 := hV3.x3.cell 1 _ rfl
          have a5 := hV3.x3.cell 2 _ rfl
          refine ⟨.tuple #[.slice ao L.length cap, .int .i64 0, zeroPlace], ?_, _, L.map (fillT s), rfl, ⟨hO3.base_mono (by omega), fun x hx => (hA3 x hx).base_mono (by omega), HA.out.places⟩, hB3⟩
          clear hV3 hB3 hO3 hA3
          simp [results, Try.results20, go_sem, a1, a2, a3, a4, a5, zeroPlace]
    · have HN : Hid (Calls Try.prog 53 #[.pointer (some ⟨w.heap.size + 4, 0, none⟩)] wr (Qt (.bool false) wr)) := by
        have := ends_any (w.heap.size + 4) s l ov wr HA.out.toks.rd
        rw [show l.isEmpty = false by cases l with | nil => exact absurd rfl hl | cons c r => rfl] at this; exact this
      have hcall := fun n => token_any (w.heap.size + 4) s l ov L m (wr.drewN n) (HA.out.drewN n).toks hs hm (by omega)
      have HL := Lib.hid hl
      clear hl
      cases ht : tokenR (decide (pos s l = 0)) l with
      | bad x r =>
        rw [ht] at hcall
        have HCL := Lib.hid hcall
        have HT := Lib.hid ht
        clear hcall ht
        go_wp2_with fail
        refine HN.out.mono ?_
        rintro e w1 ⟨rfl, n, rfl⟩
        go_wp2_with fail
        refine (HCL.out n).mono ?_
        intro e w2 hO
        obtain ⟨rfl, hb⟩ : e = .panicked [{ v := faultV x (pos s r), recovered := false }] ∧ Below (w.heap.size + 4) _ w2 := hO
        go_wp2
        rw [HA.out.bad HL.out HT.out]
        have hV2 := (HA.out.drewN n).vars.belowB hb (by omega)
        have hB2 := (HA.out.drewN n).below.trans (hb.mono (by omega))
        have hpr : pos s r ≤ s.size := by unfold pos; omega
        clear hb HCL HN
        refine leaves_cons (f := 52) (args := #[.pointer (some ⟨w.heap.size, 0, none⟩), .pointer (some ⟨w.heap.size + 1, 0, none⟩), .pointer (some ⟨w.heap.size + 2, 0, none⟩), .pointer (some ⟨w.heap.size + 3, 0, none⟩)]) (by simp) (by simp [go_sem]) ?_
        refine (catch_panicking w.heap.size s x (pos s r) [] _ _ _ _ _ w2 hpr (by omega) hV2.x0 hV2.x1 hV2.x2 hV2.x3).mono ?_
        rintro e u' w3 ⟨rfl, rfl, hx1, hx2, ⟨q0, q1, q2, hq, hx3⟩, hb3⟩
        have a1 := hx1.cell 0 _ rfl
        have a2 := hx2.cell 0 _ rfl
        have a3 := hx3.cell 0 _ rfl
        have a4 := hx3.cell 1 _ rfl
        have a5 := hx3.cell 2 _ rfl
        have hB3 := hB2.trans hb3
        clear hx1 hx2 hx3 hb3 hB2 hV2
        refine ⟨.tuple #[.slice none 0 0, .int .i64 x, placeV s.data.toList (pos s r)], ?_, rfl, hB3⟩
        rw [hq]
        simp [results, Try.results20, go_sem, a1, a2, a3, a4, a5]
      | ok t r =>
        rw [ht] at hcall
        have HCL := Lib.hid hcall
        have HT := Lib.hid ht
        clear hcall ht
        go_wp2_with fail
        refine HN.out.mono ?_
        rintro e w1 ⟨rfl, n, rfl⟩
        go_wp2_with fail
        refine (HCL.out n).mono ?_
        intro e w2 hO
        obtain ⟨rfl, ov2, av, hT2, hb⟩ : e = .returned (.tuple #[]) ∧ ∃ ov2 av, Toks w2 (w.heap.size + 4) s r ov2 (L ++ [(⟨t, av, ((pos s l : Nat) : Int), 0, 0⟩ : TkM)]) ∧ Below (w.heap.size + 4) (wr.drewN n) w2 := hO
        have hnew := (HA.out.drewN n).next HL.out HT.out hT2 hb
        clear hT2 hb HCL HN
        go_wp2
        go_roundw
        case rel => exact ⟨_, _, _, _, _, hnew⟩
        case measure =>
          rw [HA.out.toks.rd.place, hnew.toks.rd.place]
          have := pos_add HA.out.toks.rd.suf
          have := pos_add hnew.toks.rd.suf
          have := tokenR_less HT.out HL.out
          omega

end Go.Proofs.Ytpchljiiappmnaa

/- The law's example, walked; its condition stands in the theorem. -/
namespace Go.Proofs.Ytpchljiiappmnaa
open Go Go.RowKit

theorem TokSl.len {base : Nat} {w : World} {s : S} {ov : Value} {L : List TkM} {acc : List (Tk × Bs)} (h : TokSl base w s ov L acc) : L.length = acc.length := by
  have := congrArg List.length h.is; simpa using this
/-- The i-th token's cells. -/
theorem TokSl.at {base : Nat} {w : World} {s : S} {ov : Value} {L : List TkM} {acc : List (Tk × Bs)} (h : TokSl base w s ov L acc) {i : Nat} {t : Tk} {r : Bs} (hi : acc[i]? = some (t, r)) :
    ∃ g o cap av, ov = .slice (some ⟨g, o, none⟩) acc.length cap ∧ g < w.heap.size ∧ w.cell? ⟨g, o + i * 7, none⟩ = some (.int .i64 t.kind) ∧ w.cell? ⟨g, o + i * 7 + 1, none⟩ = some (.string (bs t.name)) ∧ w.cell? ⟨g, o + i * 7 + 2, none⟩ = some av ∧ w.cell? ⟨g, o + i * 7 + 3, none⟩ = some (.string (bs t.text)) ∧
      w.cell? ⟨g, o + i * 7 + 4, none⟩ = some (.int .i64 (pos s r : Nat)) ∧ w.cell? ⟨g, o + i * 7 + 5, none⟩ = some (.int .i64 (lineCol (s.data.toList.take (pos s r))).1) ∧ w.cell? ⟨g, o + i * 7 + 6, none⟩ = some (.int .i64 (lineCol (s.data.toList.take (pos s r))).2) ∧ Owns base 43 2 atC w av t.attrs := by
  have hl := h.len
  have hlt : i < L.length := by rw [hl]; exact (List.getElem?_eq_some_iff.1 hi).1
  have his := congrArg (·[i]?) h.is
  simp only [List.getElem?_map, List.getElem?_eq_getElem hlt, hi, Option.map_some, Option.some.injEq, Prod.mk.injEq] at his
  obtain ⟨h1, h2, h3, h4⟩ := his
  obtain ⟨ao, cap, rfl⟩ := h.own.shape
  obtain ⟨g, o, rfl, hg, hc⟩ := (h.own.slice tkC_len).at hlt
  have ha := h.att L[i] (List.getElem_mem hlt)
  rw [h1] at ha
  refine ⟨g, o, cap, L[i].av, by rw [hl], hg, ?_, ?_, hc 2 _ rfl, ?_, ?_, ?_, ?_, ha⟩
  · rw [← h1]; simpa using hc 0 _ rfl
  · rw [← h1]; exact hc 1 _ rfl
  · rw [← h1]; exact hc 3 _ rfl
  · rw [← h2]; exact hc 4 _ rfl
  · rw [← h3]; exact hc 5 _ rfl
  · rw [← h4]; exact hc 6 _ rfl

theorem all_ok (s : S) (m : Int) (w : World) {acc : List (Tk × Bs)} {r : Bs} (hs : s.size ≤ 65536) (hm : w.cell? ⟨0, 0, none⟩ = some (.int .i64 m)) (h : allR s.data.toList = .ok acc r) :
    Calls Try.prog 20 #[.string s] w (AllOut s w (.ok acc r)) := by rw [← h]; exact all_small s m w hs hm
theorem all_bad (s : S) (m : Int) (w : World) {x : Int} {r : Bs} (hs : s.size ≤ 65536) (hm : w.cell? ⟨0, 0, none⟩ = some (.int .i64 m)) (h : allR s.data.toList = .bad x r) :
    Calls Try.prog 20 #[.string s] w (AllOut s w (.bad x r)) := by rw [← h]; exact all_small s m w hs hm

theorem ex1 : allR [60, 97, 32, 98, 61, 39, 49, 39, 47, 62, 120, 38, 108, 116, 59] = .ok [(⟨2, [97], [([98], [49])], []⟩, [60, 97, 32, 98, 61, 39, 49, 39, 47, 62, 120, 38, 108, 116, 59]), (⟨4, [], [], [120, 60]⟩, [120, 38, 108, 116, 59])] [] := by kernel_rfl
theorem ex2 : allR [60, 97, 32, 98, 61, 49, 62] = .bad 10 [49, 62] := by kernel_rfl
theorem ex3 : allR [60, 97] = .bad 13 [] := by kernel_rfl
theorem ex4 : allR [60, 32, 97, 62] = .bad 11 [32, 97, 62] := by kernel_rfl

/-- The first example's tokens. -/
def Live1 (w : World) (e : Ending) (w' : World) : Prop := ∃ g o cap ga oa capa, e = .returned (.tuple #[.slice (some ⟨g, o, none⟩) 2 cap, .int .i64 0, .agg #[.int .i64 0, .int .i64 0, .int .i64 0]]) ∧ g < w'.heap.size ∧ ga < w'.heap.size ∧ w'.cell? ⟨g, o, none⟩ = some (.int .i64 2) ∧ w'.cell? ⟨g, o + 1, none⟩ = some (.string ⟨#[97]⟩) ∧ w'.cell? ⟨g, o + 2, none⟩ = some (.slice (some ⟨ga, oa, none⟩) 1 capa) ∧
  w'.cell? ⟨ga, oa + 1, none⟩ = some (.string ⟨#[49]⟩) ∧ w'.cell? ⟨g, o + 7 + 3, none⟩ = some (.string ⟨#[120, 60]⟩) ∧ 1 ≤ cap ∧ 1 ≤ capa ∧ Below w.heap.size w w'
theorem live1 (m : Int) (w : World) (hm : w.cell? ⟨0, 0, none⟩ = some (.int .i64 m)) : Calls Try.prog 20 #[.string ⟨#[60, 97, 32, 98, 61, 39, 49, 39, 47, 62, 120, 38, 108, 116, 59]⟩] w (Live1 w) := by
  refine (all_ok ⟨#[60, 97, 32, 98, 61, 39, 49, 39, 47, 62, 120, 38, 108, 116, 59]⟩ m w (by decide) hm ex1).mono fun e w' hO => ?_
  obtain ⟨ov, L, rfl, hT, hb⟩ := hO
  obtain ⟨g, o, cap, av, rfl, hg, c0, c1, c2, -, -, -, -, ha⟩ := hT.at (i := 0) rfl
  obtain ⟨g2, o2, cap2, av2, e2, -, -, -, -, c3, -⟩ := hT.at (i := 1) rfl
  cases e2
  obtain ⟨aa, capa, rfl⟩ := ha.shape
  obtain ⟨ga, oa, rfl, hga, hca⟩ := (ha.slice atC_len).at (k := 0) (by simp)
  obtain ⟨_, _, e3, h3, -⟩ := ha.slice atC_len
  obtain ⟨_, _, e4, h4, -⟩ := hT.own.slice tkC_len
  cases e3
  simp only [Value.slice.injEq] at e4
  obtain ⟨-, -, rfl⟩ := e4
  have hl := hT.len
  refine ⟨g, o, cap, ga, oa, capa, rfl, hg, hga, by simpa using c0, by simpa [bs] using c1, by simpa using c2, by simpa [bs] using hca 1 _ rfl, by simpa [bs] using c3, ?_, by simpa using h3, hb⟩
  simp at hl; omega

/-- An example at which something goes wrong. -/
def LiveN (x o : Int) (w : World) (e : Ending) (w' : World) : Prop := ∃ li co : Int, e = .returned (.tuple #[.slice none 0 0, .int .i64 x, .agg #[.int .i64 o, .int .i64 li, .int .i64 co]]) ∧ Below w.heap.size w w'
theorem liveN (s : S) (x : Int) (r : Bs) (m : Int) (w : World) (hs : s.size ≤ 65536) (h : allR s.data.toList = .bad x r) (hm : w.cell? ⟨0, 0, none⟩ = some (.int .i64 m)) : Calls Try.prog 20 #[.string s] w (LiveN x (pos s r : Nat) w) := by
  refine (all_bad s m w hs hm h).mono fun e w' hO => ?_
  obtain ⟨rfl, hb⟩ := hO
  exact ⟨_, _, rfl, hb⟩
theorem live2 (m : Int) (w : World) (hm : w.cell? ⟨0, 0, none⟩ = some (.int .i64 m)) : Calls Try.prog 20 #[.string ⟨#[60, 97, 32, 98, 61, 49, 62]⟩] w (LiveN 10 5 w) := liveN _ 10 [49, 62] m w (by decide) ex2 hm
theorem live3 (m : Int) (w : World) (hm : w.cell? ⟨0, 0, none⟩ = some (.int .i64 m)) : Calls Try.prog 20 #[.string ⟨#[60, 97]⟩] w (LiveN 13 2 w) := liveN _ 13 [] m w (by decide) ex3 hm
theorem live4 (m : Int) (w : World) (hm : w.cell? ⟨0, 0, none⟩ = some (.int .i64 m)) : Calls Try.prog 20 #[.string ⟨#[60, 32, 97, 62]⟩] w (LiveN 11 1 w) := liveN _ 11 [32, 97, 62] m w (by decide) ex4 hm

set_option maxRecDepth 100000 in
set_option maxHeartbeats 8000000 in
theorem lives_any (m : Int) (w : World) (hm : w.cell? ⟨0, 0, none⟩ = some (.int .i64 m)) :
    Calls Try.prog 23 #[] w fun e w' => e = .returned (.bool true) ∧ Below w.heap.size w w' := by
  have hw0 : 0 < w.heap.size := World.block_lt_of_cell? w _ hm
  have HM := Lib.hid hm
  clear hm
  go_enter Try.func23, Try.ntmps23
  go_wp2_with fail
  refine (live1 m _ HM.out).mono ?_
  intro e w1 hO
  obtain ⟨g, o, cap, ga, oa, capa, rfl, hg, hga, c0, c1, c2, c3, c4, hcap, hcapa, hb1⟩ := hO
  have HC := Lib.hid (And.intro c0 (And.intro c1 (And.intro c2 (And.intro c3 c4))))
  have hw1 := hb1.size
  clear c0 c1 c2 c3 c4
  go_wp2_with fail
  refine Calls.world ?_
  intro W1 hW1
  have x1 : Box W1 w1.heap.size [.int .i64 0, .int .i64 0, .int .i64 0] := by rw [hW1]; exact Box.new w1 _ _ _ rfl
  have b1 : Below w1.heap.size w1 W1 := by rw [hW1]; exact (Below.refl _ _).alloc (Nat.le_refl _) _
  clear hW1
  have hB1 := hb1.trans (b1.mono hw1)
  refine (live2 m W1 ((hB1.cell hw0).trans HM.out)).mono ?_
  intro e w2 hO
  obtain ⟨li2, co2, rfl, hb2⟩ := hO
  have x1b := x1.below hb2 x1.lt
  have bb2 := b1.trans (hb2.mono b1.size)
  have hB2 := hB1.trans (hb2.mono hB1.size)
  clear x1 b1 hB1 hb1 hb2
  go_wp2_with fail
  refine Calls.world ?_
  intro W2 hW2
  have y1 : Box W2 w1.heap.size [.int .i64 0, .int .i64 0, .int .i64 0] := by rw [hW2]; exact x1b.alloc _
  have x2 : Box W2 w2.heap.size [.int .i64 5, .int .i64 li2, .int .i64 co2] := by rw [hW2]; exact Box.new w2 _ _ _ rfl
  have b2 : Below w2.heap.size w2 W2 := by rw [hW2]; exact (Below.refl _ _).alloc (Nat.le_refl _) _
  clear hW2 x1b
  have hB2' := hB2.trans (b2.mono hB2.size)
  have bb2' := bb2.trans (b2.mono bb2.size)
  refine (live3 m W2 ((hB2'.cell hw0).trans HM.out)).mono ?_
  intro e w3 hO
  obtain ⟨li3, co3, rfl, hb3⟩ := hO
  have x2b := x2.below hb3 x2.lt
  have hB3 := hB2'.trans (hb3.mono hB2'.size)
  have bb3 := bb2'.trans (hb3.mono bb2'.size)
  clear x2 b2 hB2' hB2 hb3 bb2 bb2' y1
  go_wp2_with fail
  refine Calls.world ?_
  intro W3 hW3
  have y2 : Box W3 w2.heap.size [.int .i64 5, .int .i64 li2, .int .i64 co2] := by rw [hW3]; exact x2b.alloc _
  have x3 : Box W3 w3.heap.size [.int .i64 2, .int .i64 li3, .int .i64 co3] := by rw [hW3]; exact Box.new w3 _ _ _ rfl
  have b3 : Below w3.heap.size w3 W3 := by rw [hW3]; exact (Below.refl _ _).alloc (Nat.le_refl _) _
  clear hW3 x2b
  have hB3' := hB3.trans (b3.mono hB3.size)
  have bb3' := bb3.trans (b3.mono bb3.size)
  refine (live4 m W3 ((hB3'.cell hw0).trans HM.out)).mono ?_
  intro e w4 hO
  obtain ⟨li4, co4, rfl, hb4⟩ := hO
  have y2b := y2.below hb4 y2.lt
  have y3b := x3.below hb4 x3.lt
  have HB4 := Lib.hid (hB3'.trans (hb4.mono hB3'.size))
  have HBB := Lib.hid (bb3'.trans (hb4.mono bb3'.size))
  clear x3 b3 hB3' hB3 hb4 bb3 bb3' y2
  have hg4 : g < w4.heap.size := Nat.lt_of_lt_of_le hg HBB.out.size
  have hga4 : ga < w4.heap.size := Nat.lt_of_lt_of_le hga HBB.out.size
  have d0 := (HBB.out.cell (p := ⟨g, o, none⟩) (by exact hg)).trans HC.out.1
  have d1 := (HBB.out.cell (p := ⟨g, o + 1, none⟩) (by exact hg)).trans HC.out.2.1
  have d2 := (HBB.out.cell (p := ⟨g, o + 2, none⟩) (by exact hg)).trans HC.out.2.2.1
  have d3 := (HBB.out.cell (p := ⟨ga, oa + 1, none⟩) (by exact hga)).trans HC.out.2.2.2.1
  have d4 := (HBB.out.cell (p := ⟨g, o + 7 + 3, none⟩) (by exact hg)).trans HC.out.2.2.2.2
  have q2 := y2b.cell 0 _ rfl
  have q3 := y3b.cell 0 _ rfl
  have l2 := y2b.lt
  have l3 := y3b.lt
  clear y2b y3b hg hga
  go_wp2
  go_ret
  exact ⟨rfl, HB4.out.alloc HB4.out.size _⟩

end Go.Proofs.Ytpchljiiappmnaa
