/- The walk of the program's Build; its conditions stand in the theorem. -/
import Derived.Test.YtbbbfjcikhpmbaaGreatJA11
import Derived.Test.YtbbbfjcikhpmbaaGreatJA17
import Derived.KernelRfl
import Derived.Test.YtbbbfjcikhpmbaaGreatProg
import Derived.Test.YtbbbfjcikhpmbaaGreatJA01

namespace Go.Proofs.YtbbbfjcikhpmbaaGreat
open Go Go.RowKit

/-- The results are stored. -/
def resW (W : World) (N : Nat) (a b c d e f g : Value) : World := ((((((W.setCell ⟨N, 0, none⟩ a).setCell ⟨N, 1, none⟩ b).setCell ⟨N, 2, none⟩ c).setCell ⟨N, 3, none⟩ d).setCell ⟨N + 1, 0, none⟩ e).setCell ⟨N + 1, 1, none⟩ f).setCell ⟨N + 1, 2, none⟩ g
def tokPlace (s : S) (p : Tk × Bs) : Value := placeV s.data.toList (pos s p.2)
theorem res_store {W : World} {N : Nat} {u0 u1 u2 u3 p0 p1 p2 : Value} (h0 : Box W N [u0, u1, u2, u3]) (h1 : Box W (N + 1) [p0, p1, p2]) (a b c d e f g : Value) :
    Box (resW W N a b c d e f g) N [a, b, c, d] ∧ Box (resW W N a b c d e f g) (N + 1) [e, f, g] :=
 ⟨(((((((h0.set 0 a).set 1 b).set 2 c).set 3 d).grownB (setCell_grown _ _ _ _) (by omega)).grownB (setCell_grown _ _ _ _) (by omega)).grownB (setCell_grown _ _ _ _) (by omega)),
  (((((((h1.grownB (setCell_grown _ _ _ _) (by omega)).grownB (setCell_grown _ _ _ _) (by omega)).grownB (setCell_grown _ _ _ _) (by omega)).grownB (setCell_grown _ _ _ _) (by omega)).set 0 e).set 1 f).set 2 g)⟩
theorem res_below {B : Nat} {w W : World} {N : Nat} (h : Below B w W) (hN : B ≤ N) (a b c d e f g : Value) : Below B w (resW W N a b c d e f g) :=
 below_set (below_set (below_set (below_set (below_set (below_set (below_set h N 0 _ hN) N 1 _ hN) N 2 _ hN) N 3 _ hN) (N + 1) 0 _ (by omega)) (N + 1) 1 _ (by omega)) (N + 1) 2 _ (by omega)
theorem res_kept {X : Nat → Prop} {W : World} {N : Nat} (h0 : X N) (h1 : X (N + 1)) (a b c d e f g : Value) : KeptX X W (resW W N a b c d e f g) :=
 ((((((keptX_set _ N 0 _ h0).trans (keptX_set _ N 1 _ h0)).trans (keptX_set _ N 2 _ h0)).trans (keptX_set _ N 3 _ h0)).trans (keptX_set _ (N + 1) 0 _ h1)).trans (keptX_set _ (N + 1) 1 _ h1)).trans (keptX_set _ (N + 1) 2 _ h1)
set_option maxRecDepth 100000 in
set_option maxHeartbeats 8000000 in
theorem build_bad (s : S) (m : Int) (w : World) {x : Int} {r : Bs} (hs : s.size ≤ 65536) (hm : w.cell? ⟨0, 0, none⟩ = some (.int .i64 m)) (h : allR s.data.toList = .bad x r) :
    Calls Tryz.prog 30 #[.string s] w (BuildOut s w (.bad x r)) := by
 have hx0 : (x == 0) = false := beq_eq_false_iff_ne.2 (allR_bad_ne h)
 have hw0 : 0 < w.heap.size := World.block_lt_of_cell? w _ hm
 have HA : Hid (∀ W : World, W.cell? ⟨0, 0, none⟩ = some (.int .i64 m) → Calls Tryz.prog 80 #[.string s] W (AllOut s W (.bad x r))) := fun W hW => all_bad s m W hs hW h
 clear h
 go_enter Tryz.func30, Tryz.ntmps30
 go_wp2_with fail
 refine Calls.world ?_
 intro W hW
 have x0 : Box W w.heap.size [.string ⟨#[]⟩, .slice none 0 0, .slice none 0 0, .string ⟨#[]⟩] := by rw [hW]; exact (Box.new w _ _ _ rfl).alloc _
 have x1 : Box W (w.heap.size + 1) [.int .i64 0, .int .i64 0, .int .i64 0] := by rw [hW]; exact Box.new _ _ _ _ (by simp)
 have hB : Below w.heap.size w W := by rw [hW]; exact ((Below.refl _ w).alloc (Nat.le_refl _) _).alloc (by simp) _
 clear hW
 refine (HA.out W ((hB.cell (by exact hw0)).trans hm)).mono ?_
 rintro e w1 ⟨rfl, hb⟩
 unfold placeV
 obtain ⟨li, hli⟩ : ∃ li, li = (lineCol (s.data.toList.take (pos s r))).1 := ⟨_, rfl⟩
 obtain ⟨co, hco⟩ : ∃ co, co = (lineCol (s.data.toList.take (pos s r))).2 := ⟨_, rfl⟩
 have HPL : Hid (placeV s.data.toList (pos s r) = .agg #[.int .i64 (pos s r : Nat), .int .i64 li, .int .i64 co]) := by show _ = _; rw [hli, hco]; rfl
 rw [← hli, ← hco]
 clear hli hco
 have x0' := x0.below hb x0.lt
 have x1' := x1.below hb x1.lt
 have HB := Lib.hid (hB.trans (hb.mono hB.size))
 clear x0 x1 hb hB
 have HX0 := Lib.hid x0'
 have HX1 := Lib.hid x1'
 clear x0' x1'
 go_wp2
 refine wp_world ?_
 intro W2 hW2
 have y0 : Box W2 w.heap.size [.string ⟨#[]⟩, .slice none 0 0, .slice none 0 0, .string ⟨#[]⟩] := by rw [hW2]; exact HX0.out.alloc _
 have y1 : Box W2 (w.heap.size + 1) [.int .i64 0, .int .i64 0, .int .i64 0] := by rw [hW2]; exact HX1.out.alloc _
 have y2 : Box W2 w1.heap.size [.int .i64 (pos s r : Nat), .int .i64 li, .int .i64 co] := by rw [hW2]; exact Box.new w1 _ _ _ rfl
 have hB2 : Below w.heap.size w W2 := by rw [hW2]; exact HB.out.alloc HB.out.size _
 clear hW2
 have HB2 := Lib.hid hB2
 obtain ⟨p0, p1, p2, p3⟩ := bxc4 y0
 have pf0 := y0.free 0
 have pf1 := y0.free 1
 have pf2 := y0.free 2
 have pf3 := y0.free 3
 obtain ⟨q0, q1, q2⟩ := bxc3 y1
 have qf0 := y1.free 0
 have qf1 := y1.free 1
 have qf2 := y1.free 2
 obtain ⟨r0, r1, r2⟩ := bxc3 y2
 have pl := y0.lt
 have ql := y1.lt
 have rl := y2.lt
 have hne : w.heap.size ≠ w1.heap.size := by have := HX0.out.lt; omega
 have hne2 : w.heap.size + 1 ≠ w1.heap.size := by have := HX1.out.lt; omega
 have hst := res_store y0 y1 (.string ⟨#[]⟩) (.slice none 0 0) (.slice none 0 0) (.string ⟨#[]⟩) (.int .i64 (pos s r : Nat)) (.int .i64 li) (.int .i64 co)
 have hbl := res_below hB2 (Nat.le_refl _) (.string ⟨#[]⟩) (.slice none 0 0) (.slice none 0 0) (.string ⟨#[]⟩) (.int .i64 (pos s r : Nat)) (.int .i64 li) (.int .i64 co)
 unfold resW at hst hbl
 have HST := Lib.hid hst
 have HBL := Lib.hid hbl
 clear y0 y1 y2 hB2 HX0 HX1 HB hst hbl
 generalize w1.heap.size = b2 at *
 go_region
 all_goals
  go_wp2
  obtain ⟨W3, hW3⟩ : ∃ W3, W3 = (resW W2 w.heap.size (.string ⟨#[]⟩) (.slice none 0 0) (.slice none 0 0) (.string ⟨#[]⟩) (.int .i64 (pos s r : Nat)) (.int .i64 li) (.int .i64 co)).drew := ⟨_, rfl⟩
  unfold resW at hW3
  rw [← hW3]
  have z0 : Box W3 w.heap.size [.string ⟨#[]⟩, .slice none 0 0, .slice none 0 0, .string ⟨#[]⟩] := by rw [hW3]; exact HST.out.1.drew
  have z1 : Box W3 (w.heap.size + 1) [.int .i64 (pos s r : Nat), .int .i64 li, .int .i64 co] := by rw [hW3]; exact HST.out.2.drew
  have hb3 : Below w.heap.size w W3 := by rw [hW3]; exact belowN HBL.out 1
  obtain ⟨d0, d1, d2, d3⟩ := bxc4 z0
  obtain ⟨d4, d5, d6⟩ := bxc3 z1
  refine bodyPost_ret (v := .tuple #[noNode, .int .i64 x, .agg #[.int .i64 (pos s r : Nat), .int .i64 li, .int .i64 co]]) (by simp [results, Tryz.results30, go_sem, d0, d1, d2, d3, d4, d5, d6, noNode]) rfl ?_
  exact ⟨by rw [HPL.out], hb3⟩
set_option maxRecDepth 100000 in
set_option maxHeartbeats 16000000 in
theorem build_ok (s : S) (m : Int) (w : World) {acc : List (Tk × Bs)} {r : Bs} (hs : s.size ≤ 65536) (hm : w.cell? ⟨0, 0, none⟩ = some (.int .i64 m)) (h : allR s.data.toList = .ok acc r) :
    Calls Tryz.prog 30 #[.string s] w (BuildOut s w (runB st0 acc)) := by
 have hw0 : 0 < w.heap.size := World.block_lt_of_cell? w _ hm
 have HA : Hid (∀ W : World, W.cell? ⟨0, 0, none⟩ = some (.int .i64 m) → Calls Tryz.prog 80 #[.string s] W (AllOut s W (.ok acc r))) := fun W hW => all_ok s m W hs hW h
 obtain ⟨hlen, htx, hkd⟩ := toks_small h (by rw [size_data]; exact hs)
 have HTX := Lib.hid htx
 have HKD := Lib.hid hkd
 clear h htx hkd
 go_enter Tryz.func30, Tryz.ntmps30
 go_wp2_with fail
 refine Calls.world ?_
 intro W hW
 have x0 : Box W w.heap.size [.string ⟨#[]⟩, .slice none 0 0, .slice none 0 0, .string ⟨#[]⟩] := by rw [hW]; exact (Box.new w _ _ _ rfl).alloc _
 have x1 : Box W (w.heap.size + 1) [.int .i64 0, .int .i64 0, .int .i64 0] := by rw [hW]; exact Box.new _ _ _ _ (by simp)
 have hB : Below w.heap.size w W := by rw [hW]; exact ((Below.refl _ w).alloc (Nat.le_refl _) _).alloc (by simp) _
 have hWs : W.heap.size = w.heap.size + 2 := by rw [hW]; simp
 clear hW
 refine (HA.out W ((hB.cell (by exact hw0)).trans hm)).mono ?_
 rintro e w1 ⟨ov, L, rfl, hT, hb⟩
 have HT : Hid (∀ B, w1.heap.size ≤ B → TokAt (w.heap.size + 2) B w1 s ov acc) := fun B hB => TokAt.of hT (by omega) hB
 obtain ⟨ao, cap, hov⟩ := (HT.out _ (Nat.le_refl _)).1
 subst hov
 have x0' := x0.below hb x0.lt
 have x1' := x1.below hb x1.lt
 have hB1 := hB.trans (hb.mono hB.size)
 clear x0 x1 hb hB hT
 have HX0 := Lib.hid x0'
 have HX1 := Lib.hid x1'
 have HB1 := Lib.hid hB1
 clear x0' x1' hB1
 unfold zeroPlace
 go_wp2
 refine wp_world ?_
 intro W2 hW2
 have y0 : Box W2 w.heap.size [.string ⟨#[]⟩, .slice none 0 0, .slice none 0 0, .string ⟨#[]⟩] := by rw [hW2]; exact (HX0.out.alloc _).alloc _
 have y1 : Box W2 (w.heap.size + 1) [.int .i64 0, .int .i64 0, .int .i64 0] := by rw [hW2]; exact (HX1.out.alloc _).alloc _
 have hC : BOf (w.heap.size + 2) W2 (w1.heap.size + 1) st0 0 (fun k => k = w1.heap.size + 1 ∨ k < w.heap.size + 2) (.slice none 0 0) [] := by
  rw [hW2]
  exact ⟨Core.init _ _ (by simp) (by have := HX1.out.lt; omega) _ _ _ _, by simp [st0], by simp [st0], by simp [st0], by simp [st0]⟩
 have hb2 : Below w1.heap.size w1 W2 := by rw [hW2]; exact ((Below.refl _ _).alloc (Nat.le_refl _) _).alloc (by simp) _
 have hT2 : TokAt (w.heap.size + 2) (w1.heap.size + 1) W2 s (.slice ao acc.length cap) acc := ((HT.out _ (Nat.le_refl _)).below hb2).mono (by omega)
 have hB2 : Below w.heap.size w W2 := HB1.out.trans (hb2.mono HB1.out.size)
 have hw1 : w.heap.size + 2 ≤ w1.heap.size := by have := HX1.out.lt; omega
 have HC := Lib.hid hC
 have HT2 := Lib.hid hT2
 have HB2 := Lib.hid hB2
 have HY0 := Lib.hid y0
 have HY1 := Lib.hid y1
 clear hC hT2 hB2 y0 y1 hb2 hW2 HX0 HX1 HB1 HT HA
 generalize w1.heap.size = b1 at *
 go_loopw [10, 11, 28] (fun _ _ i wr => ∃ (k : Nat) (st : BSt) (X : Nat → Prop) (ov : Value) (ps : List (Nat × Nat)), k ≤ acc.length ∧ i = .int .i64 k ∧ Hid (BOf (w.heap.size + 2) wr (b1 + 1) st (2 * k) X ov ps ∧ Below (b1 + 1) W2 wr ∧ runB st0 acc = runB st (acc.drop k))) (fun _ _ i _ => acc.length - (intOf i).toNat)
 case atStart => exact ⟨0, st0, _, _, _, Nat.zero_le _, rfl, HC.out, Below.refl _ _, rfl⟩
 case round =>
  obtain ⟨k, st, X, ov, ps, hk, rfl, HR⟩ := hrel
  by_cases hlt : k < acc.length
  · obtain ⟨g, o, cap', av, e, hg, c0, c1, c2, c3, c4, c5, c6, ha⟩ := (HT2.out.below HR.out.2.1).2 k acc[k].1 acc[k].2 (List.getElem?_eq_getElem hlt)
    simp only [Value.slice.injEq, true_and] at e
    obtain ⟨rfl, rfl⟩ := e
    have HDR : Hid (acc.drop k = acc[k] :: acc.drop (k + 1)) := List.drop_eq_getElem_cons hlt
    have hki : (k : Int) < (acc.length : Int) := by omega
    have hgs : g < wr.heap.size := by have := HR.out.1.core.lt; omega
    obtain ⟨ta, tc, hav⟩ := ha.shape
    have HAT := Lib.hid ha
    have htx := HTX.out k hlt
    have hkd := HKD.out k hlt
    have HTK := Lib.hid fun o' => tokenB_any (wr.alloc o') (b1 + 1) (2 * k) st X ov ps (HR.out.1.below ((Below.refl _ wr).alloc (Nat.le_refl _) o')) acc[k].1 av (pos s acc[k].2 : Nat) (lineCol (s.data.toList.take (pos s acc[k].2))).1 (lineCol (s.data.toList.take (pos s acc[k].2))).2 (HAT.out.below ((Below.refl _ wr).alloc (Nat.le_of_lt HR.out.1.core.lt) o')) hkd htx (by omega)
    have HPL : Hid (tokPlace s acc[k] = .agg #[.int .i64 (pos s acc[k].2 : Nat), .int .i64 (lineCol (s.data.toList.take (pos s acc[k].2))).1, .int .i64 (lineCol (s.data.toList.take (pos s acc[k].2))).2]) := rfl
    unfold tokV at HTK
    subst hav
    have HSB : Hid (∀ x, stepB st acc[k].1 = .bad x → x ≠ 0) := fun x hx => stepB_bad hx
    have HRB : Hid (∀ st', stepB st acc[k].1 = .ok st' → runB st (acc.drop k) = runB st' (acc.drop (k + 1))) := fun st' h => by rw [HDR.out]; simp only [runB, h]
    have HRX : Hid (∀ x, stepB st acc[k].1 = .bad x → runB st (acc.drop k) = .bad x acc[k].2) := fun x h => by rw [HDR.out]; simp only [runB, h]
    clear ha htx hkd
    generalize pos s acc[k].2 = P at *
    generalize (lineCol (s.data.toList.take P)).1 = li at *
    generalize (lineCol (s.data.toList.take P)).2 = co at *
    generalize acc[k].1 = t at *
    go_wp2_with fail
    refine (HTK.out _).mono ?_
    intro e w2 hO
    have hbx := Box.new wr [.int .i64 t.kind, .string (bs t.name), .slice ta t.attrs.length tc, .string (bs t.text), .int .i64 P, .int .i64 li, .int .i64 co] 117 _ rfl
    have HBX := Lib.hid hbx
    have HBW : Hid (Below (b1 + 1) wr (wr.alloc (.cells #[.int .i64 t.kind, .string (bs t.name), .slice ta t.attrs.length tc, .string (bs t.text), .int .i64 P, .int .i64 li, .int .i64 co] 117))) := (Below.refl _ wr).alloc (Nat.le_of_lt HR.out.1.core.lt) _
    clear hbx c0 c1 c2 c3 c4 c5 c6 hgs
    cases hR : stepB st t with
    | ok st' =>
     rw [hR] at hO
     obtain ⟨rfl, ⟨X', ov', ps', hB'⟩, hb⟩ := hO
     have hnew : BOf (w.heap.size + 2) w2 (b1 + 1) st' (2 * (k + 1)) X' ov' ps' ∧ Below (b1 + 1) W2 w2 ∧ runB st0 acc = runB st' (acc.drop (k + 1)) := ⟨hB', (HR.out.2.1.trans HBW.out).trans hb, by rw [HR.out.2.2, HRB.out st' hR]⟩
     have HN := Lib.hid hnew
     clear hB' hb hnew
     go_wp2
     go_roundw
     case rel => exact ⟨k + 1, st', X', ov', ps', hlt, by go_num, HN.out⟩
     case measure => simp [intOf]; omega
    | bad x =>
     rw [hR] at hO
     obtain ⟨rfl, hgr, hb⟩ := hO
     have hx0 : (x == 0) = false := beq_eq_false_iff_ne.2 (HSB.out x hR)
     have hb3 : Below (b1 + 1) W2 w2 := (HR.out.2.1.trans HBW.out).trans hb
     have y0 := HY0.out.below hb3 (by omega)
     have y1 := HY1.out.below hb3 (by omega)
     have y2 := HBX.out.grownB hgr (by have := HR.out.1.core.lt; omega)
     have hB3 : Below w.heap.size w w2 := HB2.out.trans (hb3.mono (by omega))
     have hrun : runB st0 acc = .bad x acc[k].2 := by rw [HR.out.2.2, HRX.out x hR]
     have hst := res_store y0 y1 (.string ⟨#[]⟩) (.slice none 0 0) (.slice none 0 0) (.string ⟨#[]⟩) (.int .i64 P) (.int .i64 li) (.int .i64 co)
     have hbl := res_below hB3 (Nat.le_refl _) (.string ⟨#[]⟩) (.slice none 0 0) (.slice none 0 0) (.string ⟨#[]⟩) (.int .i64 P) (.int .i64 li) (.int .i64 co)
     unfold resW at hst hbl
     have HST := Lib.hid hst
     have HBL := Lib.hid hbl
     have p0 := y0.cell 0 _ rfl
     have pf0 := y0.free 0
     have p1 := y0.cell 1 _ rfl
     have pf1 := y0.free 1
     have p2 := y0.cell 2 _ rfl
     have pf2 := y0.free 2
     have p3 := y0.cell 3 _ rfl
     have pf3 := y0.free 3
     have q0 := y1.cell 0 _ rfl
     have qf0 := y1.free 0
     have q1 := y1.cell 1 _ rfl
     have qf1 := y1.free 1
     have q2 := y1.cell 2 _ rfl
     have qf2 := y1.free 2
     have pl := y0.lt
     have ql := y1.lt
     have t4 := y2.cell 4 _ rfl
     have t5 := y2.cell 5 _ rfl
     have t6 := y2.cell 6 _ rfl
     have tl := y2.lt
     have hlw := HR.out.1.core.lt
     have hne : w.heap.size ≠ wr.heap.size := by omega
     have hne2 : w.heap.size + 1 ≠ wr.heap.size := by omega
     have HRUN := Lib.hid hrun
     clear hst hbl hb3 y0 y1 y2 hB3 hgr hb hrun
     go_wp2
     go_region
     all_goals
      go_wp2
      obtain ⟨W3, hW3⟩ : ∃ W3, W3 = (resW w2 w.heap.size (.string ⟨#[]⟩) (.slice none 0 0) (.slice none 0 0) (.string ⟨#[]⟩) (.int .i64 P) (.int .i64 li) (.int .i64 co)).drew := ⟨_, rfl⟩
      unfold resW at hW3
      rw [← hW3]
      have z0 : Box W3 w.heap.size [.string ⟨#[]⟩, .slice none 0 0, .slice none 0 0, .string ⟨#[]⟩] := by rw [hW3]; exact HST.out.1.drew
      have z1 : Box W3 (w.heap.size + 1) [.int .i64 P, .int .i64 li, .int .i64 co] := by rw [hW3]; exact HST.out.2.drew
      have hb3 : Below w.heap.size w W3 := by rw [hW3]; exact belowN HBL.out 1
      obtain ⟨d0, d1, d2, d3⟩ := bxc4 z0
      obtain ⟨d4, d5, d6⟩ := bxc3 z1
      refine bodyPost_ret (v := .tuple #[noNode, .int .i64 x, .agg #[.int .i64 P, .int .i64 li, .int .i64 co]]) (by simp [results, Tryz.results30, go_sem, d0, d1, d2, d3, d4, d5, d6, noNode]) rfl ?_
      rw [HRUN.out]
      exact ⟨by rw [show placeV s.data.toList (pos s acc[k].2) = _ from HPL.out], hb3⟩
  · obtain rfl : k = acc.length := by omega
    have hki : ¬ (acc.length : Int) < (acc.length : Int) := by omega
    have hrun : runB st0 acc = runB st [] := by rw [HR.out.2.2, List.drop_length]
    have HRUN := Lib.hid hrun
    have HAT : Hid (∀ W, Calls Tryz.prog 82 #[.string s, .int .i64 s.size] W fun e w' => e = .returned (placeV s.data.toList s.size) ∧ Below W.heap.size W w') := fun W => at_any s s.size W (Nat.le_refl _) (by omega)
    clear hrun
    go_wp2_with fail
    refine (HAT.out wr).mono ?_
    rintro e w2 ⟨rfl, hb⟩
    have hC := HR.out.1.below hb
    have hb3 : Below (b1 + 1) W2 w2 := HR.out.2.1.trans (hb.mono (Nat.le_of_lt HR.out.1.core.lt))
    have HPL : Hid (placeV s.data.toList s.size = .agg #[.int .i64 s.size, .int .i64 (lineCol (s.data.toList.take s.size)).1, .int .i64 (lineCol (s.data.toList.take s.size)).2]) := rfl
    unfold placeV
    generalize (lineCol (s.data.toList.take s.size)).1 = li at *
    generalize (lineCol (s.data.toList.take s.size)).2 = co at *
    have HC3 := Lib.hid hC
    have HB3 := Lib.hid hb3
    clear hb hC hb3 HAT
    have c4 := HC3.out.core.c4
    have c6 := HC3.out.core.c6
    have hl2 := HC3.out.core.lt
    obtain ⟨oa, ocap, hov⟩ := HC3.out.shape
    rw [hov] at c4
    have W4 : Hid (∀ o' : Obj, Below (b1 + 1) W2 (w2.alloc o') ∧ BOf (w.heap.size + 2) (w2.alloc o') (b1 + 1) st (2 * acc.length) X ov ps) := fun o' => ⟨HB3.out.alloc (Nat.le_of_lt hl2) _, HC3.out.below ((Below.refl _ _).alloc (Nat.le_refl _) _)⟩
    obtain ⟨stack, root, cnt, tx⟩ := st
    cases stack with
    | cons f fs =>
     simp only [List.length_cons] at c4
     have hp0 : (0 : Int) < (fs.length : Int) + 1 := by omega
     go_wp2
     refine wp_world ?_
     intro w3 hw3
     have hb5 : Below (b1 + 1) W2 w3 := by rw [hw3]; exact (W4.out _).1
     have y0 := HY0.out.below hb5 (by omega)
     have y1 := HY1.out.below hb5 (by omega)
     have y2 : Box w3 w2.heap.size [.int .i64 s.size, .int .i64 li, .int .i64 co] := by rw [hw3]; exact Box.new w2 _ _ _ rfl
     have hB3 : Below w.heap.size w w3 := HB2.out.trans (hb5.mono (by omega))
     clear hw3
     have hst := res_store y0 y1 (.string ⟨#[]⟩) (.slice none 0 0) (.slice none 0 0) (.string ⟨#[]⟩) (.int .i64 s.size) (.int .i64 li) (.int .i64 co)
     have hbl := res_below hB3 (Nat.le_refl _) (.string ⟨#[]⟩) (.slice none 0 0) (.slice none 0 0) (.string ⟨#[]⟩) (.int .i64 s.size) (.int .i64 li) (.int .i64 co)
     unfold resW at hst hbl
     have HST := Lib.hid hst
     have HBL := Lib.hid hbl
     have p0 := y0.cell 0 _ rfl
     have pf0 := y0.free 0
     have p1 := y0.cell 1 _ rfl
     have pf1 := y0.free 1
     have p2 := y0.cell 2 _ rfl
     have pf2 := y0.free 2
     have p3 := y0.cell 3 _ rfl
     have pf3 := y0.free 3
     have q0 := y1.cell 0 _ rfl
     have qf0 := y1.free 0
     have q1 := y1.cell 1 _ rfl
     have qf1 := y1.free 1
     have q2 := y1.cell 2 _ rfl
     have qf2 := y1.free 2
     have pl := y0.lt
     have ql := y1.lt
     obtain ⟨t0, t1, t2⟩ := bxc3 y2
     have tl := y2.lt
     have hne : w.heap.size ≠ w2.heap.size := by omega
     have hne2 : w.heap.size + 1 ≠ w2.heap.size := by omega
     clear hst hbl hb5 y0 y1 y2 hB3
     go_region
     all_goals
      go_wp2
      obtain ⟨W3, hW3⟩ : ∃ W3, W3 = (resW w3 w.heap.size (.string ⟨#[]⟩) (.slice none 0 0) (.slice none 0 0) (.string ⟨#[]⟩) (.int .i64 s.size) (.int .i64 li) (.int .i64 co)).drew := ⟨_, rfl⟩
      unfold resW at hW3
      rw [← hW3]
      have z0 : Box W3 w.heap.size [.string ⟨#[]⟩, .slice none 0 0, .slice none 0 0, .string ⟨#[]⟩] := by rw [hW3]; exact HST.out.1.drew
      have z1 : Box W3 (w.heap.size + 1) [.int .i64 s.size, .int .i64 li, .int .i64 co] := by rw [hW3]; exact HST.out.2.drew
      have hb3 : Below w.heap.size w W3 := by rw [hW3]; exact belowN HBL.out 1
      obtain ⟨d0, d1, d2, d3⟩ := bxc4 z0
      obtain ⟨d4, d5, d6⟩ := bxc3 z1
      refine bodyPost_ret (v := .tuple #[noNode, .int .i64 13, .agg #[.int .i64 s.size, .int .i64 li, .int .i64 co]]) (by simp [results, Tryz.results30, go_sem, d0, d1, d2, d3, d4, d5, d6, noNode]) rfl ?_
      rw [HRUN.out]
      exact ⟨by rw [pos_nil, HPL.out], hb3⟩
    | nil =>
     simp only [List.length_nil] at c4
     cases root with
     | none =>
      simp only [Option.isSome_none] at c6
      go_wp2
      refine wp_world ?_
      intro w3 hw3
      have hb5 : Below (b1 + 1) W2 w3 := by rw [hw3]; exact (W4.out _).1
      have y0 := HY0.out.below hb5 (by omega)
      have y1 := HY1.out.below hb5 (by omega)
      have y2 : Box w3 w2.heap.size [.int .i64 s.size, .int .i64 li, .int .i64 co] := by rw [hw3]; exact Box.new w2 _ _ _ rfl
      have hB3 : Below w.heap.size w w3 := HB2.out.trans (hb5.mono (by omega))
      clear hw3
      have hst := res_store y0 y1 (.string ⟨#[]⟩) (.slice none 0 0) (.slice none 0 0) (.string ⟨#[]⟩) (.int .i64 s.size) (.int .i64 li) (.int .i64 co)
      have hbl := res_below hB3 (Nat.le_refl _) (.string ⟨#[]⟩) (.slice none 0 0) (.slice none 0 0) (.string ⟨#[]⟩) (.int .i64 s.size) (.int .i64 li) (.int .i64 co)
      unfold resW at hst hbl
      have HST := Lib.hid hst
      have HBL := Lib.hid hbl
      have p0 := y0.cell 0 _ rfl
      have pf0 := y0.free 0
      have p1 := y0.cell 1 _ rfl
      have pf1 := y0.free 1
      have p2 := y0.cell 2 _ rfl
      have pf2 := y0.free 2
      have p3 := y0.cell 3 _ rfl
      have pf3 := y0.free 3
      have q0 := y1.cell 0 _ rfl
      have qf0 := y1.free 0
      have q1 := y1.cell 1 _ rfl
      have qf1 := y1.free 1
      have q2 := y1.cell 2 _ rfl
      have qf2 := y1.free 2
      have pl := y0.lt
      have ql := y1.lt
      obtain ⟨t0, t1, t2⟩ := bxc3 y2
      have tl := y2.lt
      have hne : w.heap.size ≠ w2.heap.size := by omega
      have hne2 : w.heap.size + 1 ≠ w2.heap.size := by omega
      clear hst hbl hb5 y0 y1 y2 hB3
      go_region
      all_goals
       go_wp2
       obtain ⟨W3, hW3⟩ : ∃ W3, W3 = (resW w3 w.heap.size (.string ⟨#[]⟩) (.slice none 0 0) (.slice none 0 0) (.string ⟨#[]⟩) (.int .i64 s.size) (.int .i64 li) (.int .i64 co)).drew := ⟨_, rfl⟩
       unfold resW at hW3
       rw [← hW3]
       have z0 : Box W3 w.heap.size [.string ⟨#[]⟩, .slice none 0 0, .slice none 0 0, .string ⟨#[]⟩] := by rw [hW3]; exact HST.out.1.drew
       have z1 : Box W3 (w.heap.size + 1) [.int .i64 s.size, .int .i64 li, .int .i64 co] := by rw [hW3]; exact HST.out.2.drew
       have hb3 : Below w.heap.size w W3 := by rw [hW3]; exact belowN HBL.out 1
       obtain ⟨d0, d1, d2, d3⟩ := bxc4 z0
       obtain ⟨d4, d5, d6⟩ := bxc3 z1
       refine bodyPost_ret (v := .tuple #[noNode, .int .i64 16, .agg #[.int .i64 s.size, .int .i64 li, .int .i64 co]]) (by simp [results, Tryz.results30, go_sem, d0, d1, d2, d3, d4, d5, d6, noNode]) rfl ?_
       rw [HRUN.out]
       exact ⟨by rw [pos_nil, HPL.out], hb3⟩
     | some t =>
      simp only [Option.isSome_some] at c6
      have ht := HC3.out.core.tree
      obtain ⟨av, kv, hcl, hnd⟩ : ∃ av kv, At4 w2 (b1 + 1) 0 (nodeC t.name av kv t.text) ∧ NodeX X w2 t av kv := by
       cases ht with
       | root av kv h1 h2 => exact ⟨av, kv, h1, h2⟩
      have k0 := hcl 0 _ rfl
      have k1 := hcl 1 _ rfl
      have k2 := hcl 2 _ rfl
      have k3 := hcl 3 _ rfl
      simp only [Nat.zero_add] at k0 k1 k2 k3
      clear ht hcl c4 c6
      go_upto_region 13 with fail
      refine wp_world ?_
      intro w3 hw3
      have hb5 : Below (b1 + 1) W2 w3 := by rw [hw3]; exact (W4.out _).1
      have hb6 : Below w2.heap.size w2 w3 := by rw [hw3]; exact (Below.refl _ _).alloc (Nat.le_refl _) _
      have hC5 := HC3.out.below hb6
      have hnd5 := hnd.later hb6
      rw [← hb6.cell (p := ⟨b1 + 1, 0, none⟩) (by exact hl2)] at k0
      rw [← hb6.cell (p := ⟨b1 + 1, 1, none⟩) (by exact hl2)] at k1
      rw [← hb6.cell (p := ⟨b1 + 1, 2, none⟩) (by exact hl2)] at k2
      rw [← hb6.cell (p := ⟨b1 + 1, 3, none⟩) (by exact hl2)] at k3
      have c4 := hC5.core.c4
      have c6 := hC5.core.c6
      have hl5 := hC5.core.lt
      rw [hov] at c4
      simp only [List.length_nil, Option.isSome_some] at c4 c6
      have y0 := HY0.out.below hb5 (by omega)
      have y1 := HY1.out.below hb5 (by omega)
      have hB3 : Below w.heap.size w w3 := HB2.out.trans (hb5.mono (by omega))
      have hlow : X w.heap.size ∧ X (w.heap.size + 1) := ⟨hC5.core.xlo _ (by omega), hC5.core.xlo _ (by omega)⟩
      have hkp := res_kept hlow.1 hlow.2 (W := w3) (.string (bs t.name)) av kv (.string (bs t.text)) (.int .i64 0) (.int .i64 0) (.int .i64 0)
      unfold resW at hkp
      have HKP := Lib.hid hkp
      have HND := Lib.hid hnd5
      obtain ⟨N1, hN1⟩ : ∃ N1 : S, N1 = bs t.name := ⟨_, rfl⟩
      obtain ⟨T1, hT1⟩ : ∃ T1 : S, T1 = bs t.text := ⟨_, rfl⟩
      have HN1 := Lib.hid hN1
      have HT1 := Lib.hid hT1
      rw [← hN1] at k0
      rw [← hT1] at k3
      rw [← hN1, ← hT1] at HKP
      obtain ⟨aa, an, ac, hav⟩ : ∃ aa an ac, av = .slice aa an ac := by
       obtain ⟨_, -, h1, -⟩ := hnd.parts
       obtain ⟨ao', cap', e⟩ := h1.shape
       exact ⟨_, _, _, e⟩
      obtain ⟨ka, kn, kc, hkv⟩ : ∃ ka kn kc, kv = .slice ka kn kc := by
       obtain ⟨_, -, -, h1, -⟩ := hnd.parts
       obtain ⟨ao', cap', e⟩ := h1.shape
       exact ⟨_, _, _, e⟩
      subst hav hkv
      have hst := res_store y0 y1 (.string N1) (.slice aa an ac) (.slice ka kn kc) (.string T1) (.int .i64 0) (.int .i64 0) (.int .i64 0)
      have hbl := res_below hB3 (Nat.le_refl _) (.string N1) (.slice aa an ac) (.slice ka kn kc) (.string T1) (.int .i64 0) (.int .i64 0) (.int .i64 0)
      unfold resW at hst hbl
      have HST := Lib.hid hst
      have HBL := Lib.hid hbl
      have p0 := y0.cell 0 _ rfl
      have pf0 := y0.free 0
      have p1 := y0.cell 1 _ rfl
      have pf1 := y0.free 1
      have p2 := y0.cell 2 _ rfl
      have pf2 := y0.free 2
      have p3 := y0.cell 3 _ rfl
      have pf3 := y0.free 3
      have q0 := y1.cell 0 _ rfl
      have qf0 := y1.free 0
      have q1 := y1.cell 1 _ rfl
      have qf1 := y1.free 1
      have q2 := y1.cell 2 _ rfl
      have qf2 := y1.free 2
      have pl := y0.lt
      have ql := y1.lt
      clear hst hbl hb5 y0 y1 hB3 hw3 hkp hnd hnd5 hb6 hC5 hN1 hT1 hlow
      go_wp2
      obtain ⟨W3, hW3⟩ : ∃ W3, W3 = resW w3 w.heap.size (.string N1) (.slice aa an ac) (.slice ka kn kc) (.string T1) (.int .i64 0) (.int .i64 0) (.int .i64 0) := ⟨_, rfl⟩
      unfold resW at hW3
      rw [← hW3]
      have z0 : Box W3 w.heap.size [.string N1, .slice aa an ac, .slice ka kn kc, .string T1] := by rw [hW3]; exact HST.out.1
      have z1 : Box W3 (w.heap.size + 1) [.int .i64 0, .int .i64 0, .int .i64 0] := by rw [hW3]; exact HST.out.2
      have hb3 : Below w.heap.size w W3 := by rw [hW3]; exact HBL.out
      have hk3 : KeptX X w3 W3 := by rw [hW3]; exact HKP.out
      obtain ⟨d0, d1, d2, d3⟩ := bxc4 z0
      obtain ⟨d4, d5, d6⟩ := bxc3 z1
      refine bodyPost_ret (v := .tuple #[.agg #[.string N1, .slice aa an ac, .slice ka kn kc, .string T1], .int .i64 0, zeroPlace]) (by simp [results, Tryz.results30, go_sem, d0, d1, d2, d3, d4, d5, d6, zeroPlace]) rfl ?_
      rw [HRUN.out]
      exact ⟨.slice aa an ac, .slice ka kn kc, by rw [HN1.out, HT1.out]; rfl, (HND.out.keep hk3 (fun _ _ h => h)).node, hb3⟩
theorem build_any (s : S) (m : Int) (w : World) (hs : s.size ≤ 65536) (hm : w.cell? ⟨0, 0, none⟩ = some (.int .i64 m)) : Calls Tryz.prog 30 #[.string s] w (BuildOut s w (buildR s.data.toList)) := by
 unfold buildR
 cases h : allR s.data.toList with
 | ok acc r => exact build_ok s m w hs hm h
 | bad x r => exact build_bad s m w hs hm h

end Go.Proofs.YtbbbfjcikhpmbaaGreat

/- The law's reading of a text, and its examples, walked; the conditions stand in the theorems. -/
namespace Go.Proofs.YtbbbfjcikhpmbaaGreat
open Go Go.RowKit

/-- The three results of a reading, each cell told apart. -/
def ReadV (t : Tr) (base : Nat) (e : Ending) (w' : World) : Prop := ∃ (hp : Bool) (q1 q2 q3 q4 q5 q6 q7 : S) (a1 : Option Addr) (n1 c1 : Nat) (a2 : Option Addr) (n2 c2 : Nat) (a3 : Option Addr) (n3 c3 : Nat) (x : Int) (y : S),
 e = .returned (.tuple #[.agg #[.bool hp, .string q1, .string q2, .string q3, .string q4, .string q5, .string q6, .string q7, .slice a1 n1 c1, .slice a2 n2 c2, .slice a3 n3 c3], .int .i64 x, .string y]) ∧ (∀ z, readE t = some z → x = z.1 ∧ y = bs z.2 ∧ ([.bool hp, .string q1, .string q2, .string q3, .string q4, .string q5, .string q6, .string q7, .slice a1 n1 c1, .slice a2 n2 c2, .slice a3 n3 c3] : List Value) = [.bool false, .string ⟨#[]⟩, .string ⟨#[]⟩, .string ⟨#[]⟩, .string ⟨#[]⟩, .string ⟨#[]⟩, .string ⟨#[]⟩, .string ⟨#[]⟩, .slice none 0 0, .slice none 0 0, .slice none 0 0]) ∧
 (readE t = none → x = 0 ∧ y = ⟨#[]⟩ ∧ ([.bool hp, .string q1, .string q2, .string q3, .string q4, .string q5, .string q6, .string q7, .slice a1 n1 c1, .slice a2 n2 c2, .slice a3 n3 c3] : List Value) = pomC (readV t) (.slice a1 n1 c1) (.slice a2 n2 c2) (.slice a3 n3 c3) ∧ PomOwn base w' (readV t) (.slice a1 n1 c1) (.slice a2 n2 c2) (.slice a3 n3 c3))
theorem ReadOut.vals {t : Tr} {w w' : World} {e : Ending} (h : ReadOut t w e w') : ReadV t w.heap.size e w' ∧ Below w.heap.size w w' := by
 refine ⟨?_, h.1⟩
 cases hE : readE t with
 | some z =>
  obtain rfl := h.2.1 z hE
  exact ⟨_, _, _, _, _, _, _, _, _, _, _, _, _, _, _, _, _, _, _, rfl, fun z' hz => by rw [hE] at hz; cases hz; exact ⟨rfl, rfl, rfl⟩, fun h => by rw [hE] at h; cases h⟩
 | none =>
  obtain ⟨pv, mv, dv, rfl, ho⟩ := h.2.2 hE
  obtain ⟨a1, c1, rfl⟩ := ho.props.shape
  obtain ⟨L2, h2⟩ := ho.managed
  obtain ⟨a2, c2, hm⟩ := h2.row.shape
  subst hm
  obtain ⟨L3, h3⟩ := ho.deps
  obtain ⟨a3, c3, hd⟩ := h3.row.shape
  subst hd
  exact ⟨_, _, _, _, _, _, _, _, _, _, _, _, _, _, _, _, _, _, _, rfl, (fun z' hz => by rw [hE] at hz; cases hz), fun _ => ⟨rfl, rfl, rfl, ho⟩⟩
def ReadVB (t : Tr) (w : World) (e : Ending) (w' : World) : Prop := ReadV t w.heap.size e w' ∧ Below w.heap.size w w'
set_option maxRecDepth 100000 in
set_option maxHeartbeats 4000000 in
theorem readT_any (s : S) (t : Tr) (r : Bs) (m : Int) (w : World) (hs : s.size ≤ 65536) (hb : buildR s.data.toList = .ok t r) (ht : Mild t) (hm : w.cell? ⟨0, 0, none⟩ = some (.int .i64 m)) :
    Calls Tryz.prog 32 #[.string s] w (ReadVB t w) := by
 have hw0 : 0 < w.heap.size := World.block_lt_of_cell? w _ hm
 have HBD : Hid (∀ W, Below w.heap.size w W → Calls Tryz.prog 30 #[.string s] W fun e w' => ∃ ao an ac ko kn kc, e = .returned (.tuple #[.agg #[.string (bs t.name), .slice ao an ac, .slice ko kn kc, .string (bs t.text)], .int .i64 0, .agg #[.int .i64 0, .int .i64 0, .int .i64 0]]) ∧ NodeOf w' t (.slice ao an ac) (.slice ko kn kc) ∧ Below W.heap.size W w') := fun W h => by
  have h1 := build_any s m W hs ((h.cell (by exact hw0)).trans hm)
  rw [hb] at h1
  refine h1.mono fun e w' hO => ?_
  obtain ⟨av, kv, he, hn, hb⟩ := hO
  obtain ⟨a1, a2, a3, a4, rfl, rfl, -, -⟩ := hn.shape
  exact ⟨_, _, _, _, _, _, he, hn, hb⟩
 have HM := Lib.hid ht
 clear hm ht hb hs hw0
 go_enter Tryz.func32, Tryz.ntmps32
 go_upto_region 1 with fail
 refine wp_world ?_
 intro W hW
 have x1 : Box W w.heap.size [.bool false, .string ⟨#[]⟩, .string ⟨#[]⟩, .string ⟨#[]⟩, .string ⟨#[]⟩, .string ⟨#[]⟩, .string ⟨#[]⟩, .string ⟨#[]⟩, .slice none 0 0, .slice none 0 0, .slice none 0 0] := by rw [hW]; exact Box.new w [.bool false, .string ⟨#[]⟩, .string ⟨#[]⟩, .string ⟨#[]⟩, .string ⟨#[]⟩, .string ⟨#[]⟩, .string ⟨#[]⟩, .string ⟨#[]⟩, .slice none 0 0, .slice none 0 0, .slice none 0 0] _ _ rfl
 have hb : Below w.heap.size w W := by rw [hW]; exact (Below.refl _ w).alloc (Nat.le_refl _) _
 clear hW
 have HX := Lib.hid x1
 have HB := Lib.hid hb
 clear x1 hb
 go_wp2_with fail
 refine (HBD.out _ HB.out).mono ?_
 rintro e w1 ⟨ao, an, ac, ko, kn, kc, rfl, hn, hb1⟩
 have HX1 := Lib.hid (HX.out.below hb1 HX.out.lt)
 have HB1 := Lib.hid (HB.out.trans (hb1.mono HB.out.size))
 have HN := Lib.hid hn
 clear hn hb1 HX HBD
 go_upto_region 2 with fail
 refine wp_world ?_
 intro W2 hW2
 have x2 : Box W2 w1.heap.size [.string (bs t.name), .slice ao an ac, .slice ko kn kc, .string (bs t.text)] := by rw [hW2]; exact (Box.new w1 [.string (bs t.name), .slice ao an ac, .slice ko kn kc, .string (bs t.text)] _ _ rfl).alloc _
 have hb2 : Below w1.heap.size w1 W2 := by rw [hW2]; exact ((Below.refl _ w1).alloc (Nat.le_refl _) _).alloc (by simp) _
 clear hW2
 have HX2 := Lib.hid (HX1.out.below hb2 HX1.out.lt)
 have HN2 := Lib.hid (HN.out.later hb2)
 have HB2 := Lib.hid (HB1.out.trans (hb2.mono HB1.out.size))
 have HF := Lib.hid x2
 have HRD : Hid (Calls Tryz.prog 13 #[.agg #[.string (bs t.name), .slice ao an ac, .slice ko kn kc, .string (bs t.text)]] W2 (ReadOut t W2)) := readQ_any t W2 _ _ HN2.out HM.out
 obtain ⟨a0, a1, a2, a3⟩ := bxc4 x2
 have al := x2.lt
 clear x2 hb2 HN HN2 HX1
 go_wp2_with fail
 refine HRD.out.mono ?_
 intro e w3 hO
 obtain ⟨⟨hp, q1, q2, q3, q4, q5, q6, q7, b1, n1, c1, b2, n2, c2, b3, n3, c3, x, y, rfl, hbad, hgood⟩, hb3⟩ := hO.vals
 have HX3 := Lib.hid (HX2.out.below hb3 HX2.out.lt)
 have HB3 := Lib.hid (HB2.out.trans (hb3.mono HB2.out.size))
 have HBAD := Lib.hid hbad
 have HGOOD := Lib.hid hgood
 have HS2 := Lib.hid HX2.out.lt
 clear a0 a1 a2 a3 al hO hbad hgood hb3 HX2 HF HRD
 go_wp2_with ((with_reducible show wpList _ _ _ (Oper.mk none (Op.store 33 (.tmp 2) (.tmp 16)) _ _ _ _ :: _) _ _); refine wpList_store_box rfl 33 (.tmp 2) (.tmp 16) rfl w.heap.size [.bool false, .string ⟨#[]⟩, .string ⟨#[]⟩, .string ⟨#[]⟩, .string ⟨#[]⟩, .string ⟨#[]⟩, .string ⟨#[]⟩, .string ⟨#[]⟩, .slice none 0 0, .slice none 0 0, .slice none 0 0] [.bool hp, .string q1, .string q2, .string q3, .string q4, .string q5, .string q6, .string q7, .slice b1 n1 c1, .slice b2 n2 c2, .slice b3 n3 c3] rfl rfl HX3.out rfl size_pomQ (by simp [Value.oneCell']) ?_; intro W4 v4 hg4; have HV4 := Lib.hid v4; have HG4 := Lib.hid hg4; clear v4 hg4)
 obtain ⟨z0, z1, z2, z3, z4, z5, z6, z7, z8, z9, z10⟩ := bxc11 HV4.out
 refine bodyPost_ret (v := .tuple #[.agg #[.bool hp, .string q1, .string q2, .string q3, .string q4, .string q5, .string q6, .string q7, .slice b1 n1 c1, .slice b2 n2 c2, .slice b3 n3 c3], .int .i64 x, .string y]) (by simp [results, Tryz.results32, go_sem, z0, z1, z2, z3, z4, z5, z6, z7, z8, z9, z10]) rfl ?_
 refine ⟨⟨_, _, _, _, _, _, _, _, _, _, _, _, _, _, _, _, _, _, _, rfl, HBAD.out, fun h => ?_⟩, HB3.out.trans (below_row HG4.out (Nat.le_refl _) HB3.out.size)⟩
 obtain ⟨h1, h2, h3, h4⟩ := HGOOD.out h
 exact ⟨h1, h2, h3, (h4.keptR HG4.out HS2.out).base_mono (Nat.le_of_lt HS2.out)⟩
def pex1 : Tr := .mk [112, 114, 111, 106, 101, 99, 116] [] [.mk [97, 114, 116, 105, 102, 97, 99, 116, 73, 100] [] [.mk [] [] [] [97]] []] []
def pex2 : Tr := .mk [112, 114, 111, 106, 101, 99, 116] [] [.mk [97, 114, 116, 105, 102, 97, 99, 116, 73, 100] [] [.mk [] [] [] [97]] [], .mk [118, 101, 114, 115, 105, 111, 110] [] [.mk [] [] [] [49]] [], .mk [118, 101, 114, 115, 105, 111, 110] [] [.mk [] [] [] [49]] []] []
def pex3 : Tr := .mk [112, 114, 111, 106, 101, 99, 116] [] [.mk [97, 114, 116, 105, 102, 97, 99, 116, 73, 100] [] [.mk [] [] [] [97]] [], .mk [100, 101, 112, 101, 110, 100, 101, 110, 99, 105, 101, 115] [] [.mk [100, 101, 112, 101, 110, 100, 101, 110, 99, 121] [] [.mk [103, 114, 111, 117, 112, 73, 100] [] [.mk [] [] [] [103]] [], .mk [97, 114, 116, 105, 102, 97, 99, 116, 73, 100] [] [.mk [] [] [] [98]] []] [], .mk [100, 101, 112, 101, 110, 100, 101, 110, 99, 121] [] [.mk [103, 114, 111, 117, 112, 73, 100] [] [.mk [] [] [] [103]] []] []] []] []
theorem pex1_built : buildR [60, 112, 114, 111, 106, 101, 99, 116, 62, 60, 97, 114, 116, 105, 102, 97, 99, 116, 73, 100, 62, 97, 60, 47, 97, 114, 116, 105, 102, 97, 99, 116, 73, 100, 62, 60, 47, 112, 114, 111, 106, 101, 99, 116, 62] = .ok pex1 [] := by kernel_rfl
theorem pex2_built : buildR [60, 112, 114, 111, 106, 101, 99, 116, 62, 60, 97, 114, 116, 105, 102, 97, 99, 116, 73, 100, 62, 97, 60, 47, 97, 114, 116, 105, 102, 97, 99, 116, 73, 100, 62, 60, 118, 101, 114, 115, 105, 111, 110, 62, 49, 60, 47, 118, 101, 114, 115, 105, 111, 110, 62, 60, 118, 101, 114, 115, 105, 111, 110, 62, 49, 60, 47, 118, 101, 114, 115, 105, 111, 110, 62, 60, 47, 112, 114, 111, 106, 101, 99, 116, 62] = .ok pex2 [] := by kernel_rfl
theorem pex3_built : buildR [60, 112, 114, 111, 106, 101, 99, 116, 62, 60, 97, 114, 116, 105, 102, 97, 99, 116, 73, 100, 62, 97, 60, 47, 97, 114, 116, 105, 102, 97, 99, 116, 73, 100, 62, 60, 100, 101, 112, 101, 110, 100, 101, 110, 99, 105, 101, 115, 62, 60, 100, 101, 112, 101, 110, 100, 101, 110, 99, 121, 62, 60, 103, 114, 111, 117, 112, 73, 100, 62, 103, 60, 47, 103, 114, 111, 117, 112, 73, 100, 62, 60, 97, 114, 116, 105, 102, 97, 99, 116, 73, 100, 62, 98, 60, 47, 97, 114, 116, 105, 102, 97, 99, 116, 73, 100, 62, 60, 47, 100, 101, 112, 101, 110, 100, 101, 110, 99, 121, 62, 60, 100, 101, 112, 101, 110, 100, 101, 110, 99, 121, 62, 60, 103, 114, 111, 117, 112, 73, 100, 62, 103, 60, 47, 103, 114, 111, 117, 112, 73, 100, 62, 60, 47, 100, 101, 112, 101, 110, 100, 101, 110, 99, 121, 62, 60, 47, 100, 101, 112, 101, 110, 100, 101, 110, 99, 105, 101, 115, 62, 60, 47, 112, 114, 111, 106, 101, 99, 116, 62] = .ok pex3 [] := by kernel_rfl
theorem pex1_read : readE pex1 = none := by kernel_rfl
theorem pex1_art : (readV pex1).artifact = ⟨#[97]⟩ := by kernel_rfl
theorem pex2_read : readE pex2 = some (20, [112, 114, 111, 106, 101, 99, 116, 47, 118, 101, 114, 115, 105, 111, 110, 91, 50, 93]) := by kernel_rfl
theorem pex3_read : readE pex3 = some (20, [112, 114, 111, 106, 101, 99, 116, 47, 100, 101, 112, 101, 110, 100, 101, 110, 99, 105, 101, 115, 47, 100, 101, 112, 101, 110, 100, 101, 110, 99, 121, 91, 50, 93, 47, 97, 114, 116, 105, 102, 97, 99, 116, 73, 100]) := by kernel_rfl
theorem pex1_mild : Mild pex1 := (Mild.of (by decide) (by decide) (by decide) (List.forall_mem_cons.2 ⟨(Mild.of (by decide) (by decide) (by decide) (List.forall_mem_cons.2 ⟨(Mild.of (by decide) (by decide) (by decide) (fun k hk => by cases hk)), (fun k hk => by cases hk)⟩)), (fun k hk => by cases hk)⟩))
theorem pex2_mild : Mild pex2 := (Mild.of (by decide) (by decide) (by decide) (List.forall_mem_cons.2 ⟨(Mild.of (by decide) (by decide) (by decide) (List.forall_mem_cons.2 ⟨(Mild.of (by decide) (by decide) (by decide) (fun k hk => by cases hk)), (fun k hk => by cases hk)⟩)), (List.forall_mem_cons.2 ⟨(Mild.of (by decide) (by decide) (by decide) (List.forall_mem_cons.2 ⟨(Mild.of (by decide) (by decide) (by decide) (fun k hk => by cases hk)), (fun k hk => by cases hk)⟩)), (List.forall_mem_cons.2 ⟨(Mild.of (by decide) (by decide) (by decide) (List.forall_mem_cons.2 ⟨(Mild.of (by decide) (by decide) (by decide) (fun k hk => by cases hk)), (fun k hk => by cases hk)⟩)), (fun k hk => by cases hk)⟩)⟩)⟩))
theorem pex3_mild : Mild pex3 := (Mild.of (by decide) (by decide) (by decide) (List.forall_mem_cons.2 ⟨(Mild.of (by decide) (by decide) (by decide) (List.forall_mem_cons.2 ⟨(Mild.of (by decide) (by decide) (by decide) (fun k hk => by cases hk)), (fun k hk => by cases hk)⟩)), (List.forall_mem_cons.2 ⟨(Mild.of (by decide) (by decide) (by decide) (List.forall_mem_cons.2 ⟨(Mild.of (by decide) (by decide) (by decide) (List.forall_mem_cons.2 ⟨(Mild.of (by decide) (by decide) (by decide) (List.forall_mem_cons.2 ⟨(Mild.of (by decide) (by decide) (by decide) (fun k hk => by cases hk)), (fun k hk => by cases hk)⟩)), (List.forall_mem_cons.2 ⟨(Mild.of (by decide) (by decide) (by decide) (List.forall_mem_cons.2 ⟨(Mild.of (by decide) (by decide) (by decide) (fun k hk => by cases hk)), (fun k hk => by cases hk)⟩)), (fun k hk => by cases hk)⟩)⟩)), (List.forall_mem_cons.2 ⟨(Mild.of (by decide) (by decide) (by decide) (List.forall_mem_cons.2 ⟨(Mild.of (by decide) (by decide) (by decide) (List.forall_mem_cons.2 ⟨(Mild.of (by decide) (by decide) (by decide) (fun k hk => by cases hk)), (fun k hk => by cases hk)⟩)), (fun k hk => by cases hk)⟩)), (fun k hk => by cases hk)⟩)⟩)), (fun k hk => by cases hk)⟩)⟩))
def PLive1 (w : World) (e : Ending) (w' : World) : Prop := ∃ (hp : Bool) (q1 q2 q3 q4 q6 q7 : S) (a1 : Option Addr) (n1 c1 : Nat) (a2 : Option Addr) (n2 c2 : Nat) (a3 : Option Addr) (n3 c3 : Nat),
 e = .returned (.tuple #[.agg #[.bool hp, .string q1, .string q2, .string q3, .string q4, .string ⟨#[97]⟩, .string q6, .string q7, .slice a1 n1 c1, .slice a2 n2 c2, .slice a3 n3 c3], .int .i64 0, .string ⟨#[]⟩]) ∧ Below w.heap.size w w'
theorem plive1_any (m : Int) (w : World) (hm : w.cell? ⟨0, 0, none⟩ = some (.int .i64 m)) : Calls Tryz.prog 32 #[.string ⟨#[60, 112, 114, 111, 106, 101, 99, 116, 62, 60, 97, 114, 116, 105, 102, 97, 99, 116, 73, 100, 62, 97, 60, 47, 97, 114, 116, 105, 102, 97, 99, 116, 73, 100, 62, 60, 47, 112, 114, 111, 106, 101, 99, 116, 62]⟩] w (PLive1 w) := by
 refine (readT_any ⟨#[60, 112, 114, 111, 106, 101, 99, 116, 62, 60, 97, 114, 116, 105, 102, 97, 99, 116, 73, 100, 62, 97, 60, 47, 97, 114, 116, 105, 102, 97, 99, 116, 73, 100, 62, 60, 47, 112, 114, 111, 106, 101, 99, 116, 62]⟩ pex1 [] m w (by decide) pex1_built pex1_mild hm).mono fun e w' hO => ?_
 obtain ⟨⟨hp, q1, q2, q3, q4, q5, q6, q7, a1, n1, c1, a2, n2, c2, a3, n3, c3, x, y, rfl, -, hg⟩, hb⟩ := hO
 obtain ⟨rfl, rfl, hc, -⟩ := hg pex1_read
 have h5 : q5 = ⟨#[97]⟩ := by
  have h1 := congrArg (·[5]?) hc
  simp only [pomC, pex1_art] at h1
  simpa using h1
 subst h5
 exact ⟨_, _, _, _, _, _, _, _, _, _, _, _, _, _, _, _, rfl, hb⟩
def PLiveN (l : Bs) (w : World) (e : Ending) (w' : World) : Prop := e = .returned (.tuple #[.agg #[.bool false, .string ⟨#[]⟩, .string ⟨#[]⟩, .string ⟨#[]⟩, .string ⟨#[]⟩, .string ⟨#[]⟩, .string ⟨#[]⟩, .string ⟨#[]⟩, .slice none 0 0, .slice none 0 0, .slice none 0 0], .int .i64 20, .string (bs l)]) ∧ Below w.heap.size w w'
theorem pliveN_any (s : S) (t : Tr) (l : Bs) (m : Int) (w : World) (hs : s.size ≤ 65536) (hb : buildR s.data.toList = .ok t []) (ht : Mild t) (hr : readE t = some (20, l)) (hm : w.cell? ⟨0, 0, none⟩ = some (.int .i64 m)) : Calls Tryz.prog 32 #[.string s] w (PLiveN l w) := by
 refine (readT_any s t [] m w hs hb ht hm).mono fun e w' hO => ?_
 obtain ⟨⟨hp, q1, q2, q3, q4, q5, q6, q7, a1, n1, c1, a2, n2, c2, a3, n3, c3, x, y, rfl, hg, -⟩, hb⟩ := hO
 obtain ⟨rfl, rfl, hc⟩ := hg _ hr
 refine ⟨?_, hb⟩
 have h1 : (#[.bool hp, .string q1, .string q2, .string q3, .string q4, .string q5, .string q6, .string q7, .slice a1 n1 c1, .slice a2 n2 c2, .slice a3 n3 c3] : Array Value) = #[.bool false, .string ⟨#[]⟩, .string ⟨#[]⟩, .string ⟨#[]⟩, .string ⟨#[]⟩, .string ⟨#[]⟩, .string ⟨#[]⟩, .string ⟨#[]⟩, .slice none 0 0, .slice none 0 0, .slice none 0 0] := congrArg List.toArray hc
 rw [h1]
set_option maxRecDepth 100000 in
set_option maxHeartbeats 8000000 in
theorem pomLives_any (m : Int) (w : World) (hm : w.cell? ⟨0, 0, none⟩ = some (.int .i64 m)) :
    Calls Tryz.prog 12 #[] w fun e w' => e = .returned (.bool true) ∧ Below w.heap.size w w' := by
 have hw0 : 0 < w.heap.size := World.block_lt_of_cell? w _ hm
 have H1 : Hid (∀ W, Below w.heap.size w W → Calls Tryz.prog 32 #[.string ⟨#[60, 112, 114, 111, 106, 101, 99, 116, 62, 60, 97, 114, 116, 105, 102, 97, 99, 116, 73, 100, 62, 97, 60, 47, 97, 114, 116, 105, 102, 97, 99, 116, 73, 100, 62, 60, 47, 112, 114, 111, 106, 101, 99, 116, 62]⟩] W (PLive1 W)) := fun W h => plive1_any m W ((h.cell (by exact hw0)).trans hm)
 have H2 : Hid (∀ W, Below w.heap.size w W → Calls Tryz.prog 32 #[.string ⟨#[60, 112, 114, 111, 106, 101, 99, 116, 62, 60, 97, 114, 116, 105, 102, 97, 99, 116, 73, 100, 62, 97, 60, 47, 97, 114, 116, 105, 102, 97, 99, 116, 73, 100, 62, 60, 118, 101, 114, 115, 105, 111, 110, 62, 49, 60, 47, 118, 101, 114, 115, 105, 111, 110, 62, 60, 118, 101, 114, 115, 105, 111, 110, 62, 49, 60, 47, 118, 101, 114, 115, 105, 111, 110, 62, 60, 47, 112, 114, 111, 106, 101, 99, 116, 62]⟩] W (PLiveN [112, 114, 111, 106, 101, 99, 116, 47, 118, 101, 114, 115, 105, 111, 110, 91, 50, 93] W)) := fun W h => pliveN_any ⟨#[60, 112, 114, 111, 106, 101, 99, 116, 62, 60, 97, 114, 116, 105, 102, 97, 99, 116, 73, 100, 62, 97, 60, 47, 97, 114, 116, 105, 102, 97, 99, 116, 73, 100, 62, 60, 118, 101, 114, 115, 105, 111, 110, 62, 49, 60, 47, 118, 101, 114, 115, 105, 111, 110, 62, 60, 118, 101, 114, 115, 105, 111, 110, 62, 49, 60, 47, 118, 101, 114, 115, 105, 111, 110, 62, 60, 47, 112, 114, 111, 106, 101, 99, 116, 62]⟩ pex2 _ m W (by decide) pex2_built pex2_mild pex2_read ((h.cell (by exact hw0)).trans hm)
 have H3 : Hid (∀ W, Below w.heap.size w W → Calls Tryz.prog 32 #[.string ⟨#[60, 112, 114, 111, 106, 101, 99, 116, 62, 60, 97, 114, 116, 105, 102, 97, 99, 116, 73, 100, 62, 97, 60, 47, 97, 114, 116, 105, 102, 97, 99, 116, 73, 100, 62, 60, 100, 101, 112, 101, 110, 100, 101, 110, 99, 105, 101, 115, 62, 60, 100, 101, 112, 101, 110, 100, 101, 110, 99, 121, 62, 60, 103, 114, 111, 117, 112, 73, 100, 62, 103, 60, 47, 103, 114, 111, 117, 112, 73, 100, 62, 60, 97, 114, 116, 105, 102, 97, 99, 116, 73, 100, 62, 98, 60, 47, 97, 114, 116, 105, 102, 97, 99, 116, 73, 100, 62, 60, 47, 100, 101, 112, 101, 110, 100, 101, 110, 99, 121, 62, 60, 100, 101, 112, 101, 110, 100, 101, 110, 99, 121, 62, 60, 103, 114, 111, 117, 112, 73, 100, 62, 103, 60, 47, 103, 114, 111, 117, 112, 73, 100, 62, 60, 47, 100, 101, 112, 101, 110, 100, 101, 110, 99, 121, 62, 60, 47, 100, 101, 112, 101, 110, 100, 101, 110, 99, 105, 101, 115, 62, 60, 47, 112, 114, 111, 106, 101, 99, 116, 62]⟩] W (PLiveN [112, 114, 111, 106, 101, 99, 116, 47, 100, 101, 112, 101, 110, 100, 101, 110, 99, 105, 101, 115, 47, 100, 101, 112, 101, 110, 100, 101, 110, 99, 121, 91, 50, 93, 47, 97, 114, 116, 105, 102, 97, 99, 116, 73, 100] W)) := fun W h => pliveN_any ⟨#[60, 112, 114, 111, 106, 101, 99, 116, 62, 60, 97, 114, 116, 105, 102, 97, 99, 116, 73, 100, 62, 97, 60, 47, 97, 114, 116, 105, 102, 97, 99, 116, 73, 100, 62, 60, 100, 101, 112, 101, 110, 100, 101, 110, 99, 105, 101, 115, 62, 60, 100, 101, 112, 101, 110, 100, 101, 110, 99, 121, 62, 60, 103, 114, 111, 117, 112, 73, 100, 62, 103, 60, 47, 103, 114, 111, 117, 112, 73, 100, 62, 60, 97, 114, 116, 105, 102, 97, 99, 116, 73, 100, 62, 98, 60, 47, 97, 114, 116, 105, 102, 97, 99, 116, 73, 100, 62, 60, 47, 100, 101, 112, 101, 110, 100, 101, 110, 99, 121, 62, 60, 100, 101, 112, 101, 110, 100, 101, 110, 99, 121, 62, 60, 103, 114, 111, 117, 112, 73, 100, 62, 103, 60, 47, 103, 114, 111, 117, 112, 73, 100, 62, 60, 47, 100, 101, 112, 101, 110, 100, 101, 110, 99, 121, 62, 60, 47, 100, 101, 112, 101, 110, 100, 101, 110, 99, 105, 101, 115, 62, 60, 47, 112, 114, 111, 106, 101, 99, 116, 62]⟩ pex3 _ m W (by decide) pex3_built pex3_mild pex3_read ((h.cell (by exact hw0)).trans hm)
 clear hm hw0
 go_enter Tryz.func12, Tryz.ntmps12
 go_wp2_with fail
 refine (H1.out _ (Below.refl _ _)).mono ?_
 intro e w1 hO
 obtain ⟨hp, q1, q2, q3, q4, q6, q7, a1, n1, c1, a2, n2, c2, a3, n3, c3, rfl, hb1⟩ := hO
 have HB1 := Lib.hid hb1
 clear hb1 H1
 go_upto_region 2 with fail
 refine wp_world ?_
 intro W1 hW1
 have x1 : Box W1 w1.heap.size [.bool hp, .string q1, .string q2, .string q3, .string q4, .string ⟨#[97]⟩, .string q6, .string q7, .slice a1 n1 c1, .slice a2 n2 c2, .slice a3 n3 c3] := by rw [hW1]; exact Box.new w1 [.bool hp, .string q1, .string q2, .string q3, .string q4, .string ⟨#[97]⟩, .string q6, .string q7, .slice a1 n1 c1, .slice a2 n2 c2, .slice a3 n3 c3] _ _ rfl
 have hb2 : Below w.heap.size w W1 := by rw [hW1]; exact HB1.out.alloc HB1.out.size _
 clear hW1 HB1
 have HX := Lib.hid x1
 have HB := Lib.hid hb2
 clear x1 hb2
 go_wp2_with fail
 refine (H2.out _ HB.out).mono ?_
 rintro e w2 ⟨rfl, hb2⟩
 have HX2 := Lib.hid (HX.out.below hb2 HX.out.lt)
 have HB2 := Lib.hid (HB.out.trans (hb2.mono HB.out.size))
 clear hb2 H2 HX HB
 go_upto_region 3 with fail
 refine wp_world ?_
 intro W3 hW3
 have x3 := HX2.out.alloc (.cells #[.bool false, .string ⟨#[]⟩, .string ⟨#[]⟩, .string ⟨#[]⟩, .string ⟨#[]⟩, .string ⟨#[]⟩, .string ⟨#[]⟩, .string ⟨#[]⟩, .slice none 0 0, .slice none 0 0, .slice none 0 0] 33)
 have hb3 : Below w.heap.size w W3 := by rw [hW3]; exact HB2.out.alloc HB2.out.size _
 have HX3 : Hid (Box W3 w1.heap.size [.bool hp, .string q1, .string q2, .string q3, .string q4, .string ⟨#[97]⟩, .string q6, .string q7, .slice a1 n1 c1, .slice a2 n2 c2, .slice a3 n3 c3]) := by rw [hW3]; exact x3
 clear hW3 x3 HX2 HB2
 have HB3 := Lib.hid hb3
 clear hb3
 go_wp2_with fail
 refine (H3.out _ HB3.out).mono ?_
 rintro e w4 ⟨rfl, hb4⟩
 have HX4 := Lib.hid (HX3.out.below hb4 HX3.out.lt)
 have HB4 := Lib.hid (HB3.out.trans (hb4.mono HB3.out.size))
 clear hb4 H3 HX3 HB3
 go_upto_region 4 with fail
 refine wp_world ?_
 intro W5 hW5
 have x5 := HX4.out.alloc (.cells #[.bool false, .string ⟨#[]⟩, .string ⟨#[]⟩, .string ⟨#[]⟩, .string ⟨#[]⟩, .string ⟨#[]⟩, .string ⟨#[]⟩, .string ⟨#[]⟩, .slice none 0 0, .slice none 0 0, .slice none 0 0] 33)
 have hb5 : Below w.heap.size w W5 := by rw [hW5]; exact HB4.out.alloc HB4.out.size _
 have HX5 : Hid (Box W5 w1.heap.size [.bool hp, .string q1, .string q2, .string q3, .string q4, .string ⟨#[97]⟩, .string q6, .string q7, .slice a1 n1 c1, .slice a2 n2 c2, .slice a3 n3 c3]) := by rw [hW5]; exact x5
 clear hW5 x5 HX4 HB4
 have HB5 := Lib.hid hb5
 clear hb5
 have z5 := HX5.out.cell 5 _ rfl
 have zl := HX5.out.lt
 have k2 : ((bs [112, 114, 111, 106, 101, 99, 116, 47, 118, 101, 114, 115, 105, 111, 110, 91, 50, 93] : S).toList == [112, 114, 111, 106, 101, 99, 116, 47, 118, 101, 114, 115, 105, 111, 110, 91, 50, 93]) = true := by decide +kernel
 have k3 : ((bs [112, 114, 111, 106, 101, 99, 116, 47, 100, 101, 112, 101, 110, 100, 101, 110, 99, 105, 101, 115, 47, 100, 101, 112, 101, 110, 100, 101, 110, 99, 121, 91, 50, 93, 47, 97, 114, 116, 105, 102, 97, 99, 116, 73, 100] : S).toList == [112, 114, 111, 106, 101, 99, 116, 47, 100, 101, 112, 101, 110, 100, 101, 110, 99, 105, 101, 115, 47, 100, 101, 112, 101, 110, 100, 101, 110, 99, 121, 91, 50, 93, 47, 97, 114, 116, 105, 102, 97, 99, 116, 73, 100]) = true := by decide +kernel
 have k1 : ((⟨#[97]⟩ : S).toList == [97]) = true := by decide +kernel
 go_wp2
 go_ret
 exact ⟨rfl, HB5.out⟩

end Go.Proofs.YtbbbfjcikhpmbaaGreat

/- Equality of the structs that the program compares: one law a type, as the walk takes it. -/
namespace Go.Proofs.YtbbbfjcikhpmbaaGreat
open Go Go.RowKit

theorem str_beq (a b : S) : (a.toList == b.toList) = decide (a = b) := by
 rw [Bool.eq_iff_iff, beq_iff_eq, decide_eq_true_iff, ByteArray.toList_eq, ByteArray.toList_eq]
 constructor
 · intro h
   obtain ⟨⟨x⟩⟩ := a
   obtain ⟨⟨y⟩⟩ := b
   simpa using h
 · rintro rfl; rfl
theorem eqg_prp : Tryz.prog.eqGuardType Tryz.prog.depth 55 = false := by kernel_rfl
theorem eqs_prp : Tryz.prog.stoodInHeld 55 = false := by kernel_rfl
theorem neq_prp (a0 a1 b0 b1 : S) (w : World) : (binOp .neq 55 (.agg #[.string a0, .string a1]) (.agg #[.string b0, .string b1])).run Tryz.prog w = .ok (.bool (!(decide (a0 = b0) && decide (a1 = b1)))) w := by
 have h := eqs_prp
 by_cases h0 : a0 = b0 <;> by_cases h1 : a1 = b1 <;> simp [go_sem, h, h0, h1, str_beq]
theorem eqg_id : Tryz.prog.eqGuardType Tryz.prog.depth 52 = false := by kernel_rfl
theorem eqs_id : Tryz.prog.stoodInHeld 52 = false := by kernel_rfl
theorem neq_id (a0 a1 b0 b1 : S) (w : World) : (binOp .neq 52 (.agg #[.string a0, .string a1]) (.agg #[.string b0, .string b1])).run Tryz.prog w = .ok (.bool (!(decide (a0 = b0) && decide (a1 = b1)))) w := by
 have h := eqs_id
 by_cases h0 : a0 = b0 <;> by_cases h1 : a1 = b1 <;> simp [go_sem, h, h0, h1, str_beq]
theorem eqg_gav : Tryz.prog.eqGuardType Tryz.prog.depth 29 = false := by kernel_rfl
theorem eqs_gav : Tryz.prog.stoodInHeld 29 = false := by kernel_rfl
theorem eql_gav (a0 a1 a2 b0 b1 b2 : S) (w : World) : (binOp .eql 29 (.agg #[.string a0, .string a1, .string a2]) (.agg #[.string b0, .string b1, .string b2])).run Tryz.prog w = .ok (.bool (decide (a0 = b0) && decide (a1 = b1) && decide (a2 = b2))) w := by
 have h := eqs_gav
 by_cases h0 : a0 = b0 <;> by_cases h1 : a1 = b1 <;> by_cases h2 : a2 = b2 <;> simp [go_sem, h, h0, h1, h2, str_beq]

end Go.Proofs.YtbbbfjcikhpmbaaGreat
