/- The walk of the program's Build; its conditions stand in the theorem. -/
import Derived.Test.YtphaeegbmfpcgaaGreatDoorFB11
import Derived.Test.YtphaeegbmfpcgaaGreatDoorFB18
import Derived.Test.YtphaeegbmfpcgaaGreatDoorFB17
import Derived.Test.YtphaeegbmfpcgaaGreatDoorFB19
import Derived.Test.YtphaeegbmfpcgaaGreatDoorProg
import Derived.Test.YtphaeegbmfpcgaaGreatDoorFB01
import Derived.KernelRfl
import Derived.Tactics2
import Derived.Defers
import Derived.Laws.Pointers
import Derived.Laws.LoneSync
import Derived.RegionTactic
import Derived.RegionCalls

namespace Go.Proofs.YtphaeegbmfpcgaaGreatDoor
open Go Go.RowKit

/-- The results are stored. -/
def resW (W : World) (N : Nat) (a b c d e f g : Value) : World := ((((((W.setCell ⟨N, 0, none⟩ a).setCell ⟨N, 1, none⟩ b).setCell ⟨N, 2, none⟩ c).setCell ⟨N, 3, none⟩ d).setCell ⟨N + 1, 0, none⟩ e).setCell ⟨N + 1, 1, none⟩ f).setCell ⟨N + 1, 2, none⟩ g
def tokPlace (s : S) (p : Tk × Bs) : Value := placeV s.data.toList (pos s p.2)
theorem res_store {W : World} {N : Nat} {u0 u1 u2 u3 p0 p1 p2 : Value} (h0 : Box W N [u0, u1, u2, u3]) (h1 : Box W (N + 1) [p0, p1, p2]) (a b c d e f g : Value) :
    Box (resW W N a b c d e f g) N [a, b, c, d] ∧ Box (resW W N a b c d e f g) (N + 1) [e, f, g] :=
 ⟨(((((((h0.set 0 a).set 1 b).set 2 c).set 3 d).grownB (setCell_grown _ _ _ _) (by omega)).grownB (setCell_grown _ _ _ _) (by omega)).grownB (setCell_grown _ _ _ _) (by omega)),
  (((((((h1.grownB (setCell_grown _ _ _ _) (by omega)).grownB (setCell_grown _ _ _ _) (by omega)).grownB (setCell_grown _ _ _ _) (by omega)).grownB (setCell_grown _ _ _ _) (by omega)).set 0 e).set 1 f).set 2 g)⟩
theorem res_below {B : Nat} {w W : World} {N : Nat} (h : Below B w W) (hN : B ≤ N) (a b c d e f g : Value) : Below B w (resW W N a b c d e f g) :=
 below_set (below_set (below_set (below_set (below_set (below_set (below_set h N 0 _ hN) N 1 _ hN) N 2 _ hN) N 3 _ hN) (N + 1) 0 _ (by omega)) (N + 1) 1 _ (by omega)) (N + 1) 2 _ (by omega)
theorem res_kept {X : Nat → Prop} {W : World} {N : Nat} (h0 : X N) (h1 : X (N + 1)) (a b c d e f g : Value) : KeptX X W (resW W N a b c d e f g) :=
 ((((((keptX_set _ N 0 _ h0).trans (keptX_set _ N 1 _ h0)).trans (keptX_set _ N 2 _ h0)).trans (keptX_set _ N 3 _ h0)).trans (keptX_set _ (N + 1) 0 _ h1)).trans (keptX_set _ (N + 1) 1 _ h1)).trans (keptX_set _ (N + 1) 2 _ h1)
set_option maxRecDepth 100000 in
set_option maxHeartbeats 8000000 in
theorem build_bad (s : S) (m : Int) (w : World) {x : Int} {r : Bs} (hs : s.size ≤ 65536) (hm : w.cell? ⟨0, 0, none⟩ = some (.int .i64 m)) (h : allR s.data.toList = .bad x r) :
    Calls Tryz.prog 49 #[.string s] w (BuildOut s w (.bad x r)) := by
 have hx0 : (x == 0) = false := beq_eq_false_iff_ne.2 (allR_bad_ne h)
 have hw0 : 0 < w.heap.size := World.block_lt_of_cell? w _ hm
 have HA : Hid (∀ W : World, W.cell? ⟨0, 0, none⟩ = some (.int .i64 m) → Calls Tryz.prog 80 #[.string s] W (AllOut s W (.bad x r))) := fun W hW => all_bad s m W hs hW h
 clear h
 go_enter Tryz.func49, Tryz.ntmps49
 go_wp2_with fail
 refine Calls.world ?_
 intro W hW
 have x0 : Box W w.heap.size [.string ⟨#[]⟩, .slice none 0 0, .slice none 0 0, .string ⟨#[]⟩] := by rw [hW]; exact (Box.new w _ _ _ rfl).alloc _
 have x1 : Box W (w.heap.size + 1) [.int .i64 0, .int .i64 0, .int .i64 0] := by rw [hW]; exact Box.new _ _ _ _ (by simp)
 have hB : Below w.heap.size w W := by rw [hW]; exact ((Below.refl _ w).alloc (Nat.le_refl _) _).alloc (by simp) _
 clear hW
 refine (HA.out W ((hB.cell (by exact hw0)).trans hm)).mono ?_
 rintro e w1 ⟨rfl, hb⟩
 unfold placeV
 obtain ⟨li, hli⟩ : ∃ li, li = (lineCol (s.data.toList.take (pos s r))).1 := ⟨_, rfl⟩
 obtain ⟨co, hco⟩ : ∃ co, co = (lineCol (s.data.toList.take (pos s r))).2 := ⟨_, rfl⟩
 have HPL : Hid (placeV s.data.toList (pos s r) = .agg #[.int .i64 (pos s r : Nat), .int .i64 li, .int .i64 co]) := by show _ = _; rw [hli, hco]; rfl
 rw [← hli, ← hco]
 clear hli hco
 have x0' := x0.below hb x0.lt
 have x1' := x1.below hb x1.lt
 have HB := Lib.hid (hB.trans (hb.mono hB.size))
 clear x0 x1 hb hB
 have HX0 := Lib.hid x0'
 have HX1 := Lib.hid x1'
 clear x0' x1'
 go_wp2
 refine wp_world ?_
 intro W2 hW2
 have y0 : Box W2 w.heap.size [.string ⟨#[]⟩, .slice none 0 0, .slice none 0 0, .string ⟨#[]⟩] := by rw [hW2]; exact HX0.out.alloc _
 have y1 : Box W2 (w.heap.size + 1) [.int .i64 0, .int .i64 0, .int .i64 0] := by rw [hW2]; exact HX1.out.alloc _
 have y2 : Box W2 w1.heap.size [.int .i64 (pos s r : Nat), .int .i64 li, .int .i64 co] := by rw [hW2]; exact Box.new w1 _ _ _ rfl
 have hB2 : Below w.heap.size w W2 := by rw [hW2]; exact HB.out.alloc HB.out.size _
 clear hW2
 have HB2 := Lib.hid hB2
 obtain ⟨p0, p1, p2, p3⟩ := bxc4 y0
 have pf0 := y0.free 0
 have pf1 := y0.free 1
 have pf2 := y0.free 2
 have pf3 := y0.free 3
 obtain ⟨q0, q1, q2⟩ := bxc3 y1
 have qf0 := y1.free 0
 have qf1 := y1.free 1
 have qf2 := y1.free 2
 obtain ⟨r0, r1, r2⟩ := bxc3 y2
 have pl := y0.lt
 have ql := y1.lt
 have rl := y2.lt
 have hne : w.heap.size ≠ w1.heap.size := by have := HX0.out.lt; omega
 have hne2 : w.heap.size + 1 ≠ w1.heap.size := by have := HX1.out.lt; omega
 have hst := res_store y0 y1 (.string ⟨#[]⟩) (.slice none 0 0) (.slice none 0 0) (.string ⟨#[]⟩) (.int .i64 (pos s r : Nat)) (.int .i64 li) (.int .i64 co)
 have hbl := res_below hB2 (Nat.le_refl _) (.string ⟨#[]⟩) (.slice none 0 0) (.slice none 0 0) (.string ⟨#[]⟩) (.int .i64 (pos s r : Nat)) (.int .i64 li) (.int .i64 co)
 unfold resW at hst hbl
 have HST := Lib.hid hst
 have HBL := Lib.hid hbl
 clear y0 y1 y2 hB2 HX0 HX1 HB hst hbl
 generalize w1.heap.size = b2 at *
 go_region
 all_goals
  go_wp2
  obtain ⟨W3, hW3⟩ : ∃ W3, W3 = (resW W2 w.heap.size (.string ⟨#[]⟩) (.slice none 0 0) (.slice none 0 0) (.string ⟨#[]⟩) (.int .i64 (pos s r : Nat)) (.int .i64 li) (.int .i64 co)).drew := ⟨_, rfl⟩
  unfold resW at hW3
  rw [← hW3]
  have z0 : Box W3 w.heap.size [.string ⟨#[]⟩, .slice none 0 0, .slice none 0 0, .string ⟨#[]⟩] := by rw [hW3]; exact HST.out.1.drew
  have z1 : Box W3 (w.heap.size + 1) [.int .i64 (pos s r : Nat), .int .i64 li, .int .i64 co] := by rw [hW3]; exact HST.out.2.drew
  have hb3 : Below w.heap.size w W3 := by rw [hW3]; exact belowN HBL.out 1
  obtain ⟨d0, d1, d2, d3⟩ := bxc4 z0
  obtain ⟨d4, d5, d6⟩ := bxc3 z1
  refine bodyPost_ret (v := .tuple #[noNode, .int .i64 x, .agg #[.int .i64 (pos s r : Nat), .int .i64 li, .int .i64 co]]) (by simp [results, Tryz.results49, go_sem, d0, d1, d2, d3, d4, d5, d6, noNode]) rfl ?_
  exact ⟨by rw [HPL.out], hb3⟩
set_option maxRecDepth 100000 in
set_option maxHeartbeats 16000000 in
theorem build_ok (s : S) (m : Int) (w : World) {acc : List (Tk × Bs)} {r : Bs} (hs : s.size ≤ 65536) (hm : w.cell? ⟨0, 0, none⟩ = some (.int .i64 m)) (h : allR s.data.toList = .ok acc r) :
    Calls Tryz.prog 49 #[.string s] w (BuildOut s w (runB st0 acc)) := by
 have hw0 : 0 < w.heap.size := World.block_lt_of_cell? w _ hm
 have HA : Hid (∀ W : World, W.cell? ⟨0, 0, none⟩ = some (.int .i64 m) → Calls Tryz.prog 80 #[.string s] W (AllOut s W (.ok acc r))) := fun W hW => all_ok s m W hs hW h
 obtain ⟨hlen, htx, hkd⟩ := toks_small h (by rw [size_data]; exact hs)
 have HTX := Lib.hid htx
 have HKD := Lib.hid hkd
 clear h htx hkd
 go_enter Tryz.func49, Tryz.ntmps49
 go_wp2_with fail
 refine Calls.world ?_
 intro W hW
 have x0 : Box W w.heap.size [.string ⟨#[]⟩, .slice none 0 0, .slice none 0 0, .string ⟨#[]⟩] := by rw [hW]; exact (Box.new w _ _ _ rfl).alloc _
 have x1 : Box W (w.heap.size + 1) [.int .i64 0, .int .i64 0, .int .i64 0] := by rw [hW]; exact Box.new _ _ _ _ (by simp)
 have hB : Below w.heap.size w W := by rw [hW]; exact ((Below.refl _ w).alloc (Nat.le_refl _) _).alloc (by simp) _
 have hWs : W.heap.size = w.heap.size + 2 := by rw [hW]; simp
 clear hW
 refine (HA.out W ((hB.cell (by exact hw0)).trans hm)).mono ?_
 rintro e w1 ⟨ov, L, rfl, hT, hb⟩
 have HT : Hid (∀ B, w1.heap.size ≤ B → TokAt (w.heap.size + 2) B w1 s ov acc) := fun B hB => TokAt.of hT (by omega) hB
 obtain ⟨ao, cap, hov⟩ := (HT.out _ (Nat.le_refl _)).1
 subst hov
 have x0' := x0.below hb x0.lt
 have x1' := x1.below hb x1.lt
 have hB1 := hB.trans (hb.mono hB.size)
 clear x0 x1 hb hB hT
 have HX0 := Lib.hid x0'
 have HX1 := Lib.hid x1'
 have HB1 := Lib.hid hB1
 clear x0' x1' hB1
 unfold zeroPlace
 go_wp2
 refine wp_world ?_
 intro W2 hW2
 have y0 : Box W2 w.heap.size [.string ⟨#[]⟩, .slice none 0 0, .slice none 0 0, .string ⟨#[]⟩] := by rw [hW2]; exact (HX0.out.alloc _).alloc _
 have y1 : Box W2 (w.heap.size + 1) [.int .i64 0, .int .i64 0, .int .i64 0] := by rw [hW2]; exact (HX1.out.alloc _).alloc _
 have hC : BOf (w.heap.size + 2) W2 (w1.heap.size + 1) st0 0 (fun k => k = w1.heap.size + 1 ∨ k < w.heap.size + 2) (.slice none 0 0) [] := by
  rw [hW2]
  exact ⟨Core.init _ _ (by simp) (by have := HX1.out.lt; omega) _ _ _ _, by simp [st0], by simp [st0], by simp [st0], by simp [st0]⟩
 have hb2 : Below w1.heap.size w1 W2 := by rw [hW2]; exact ((Below.refl _ _).alloc (Nat.le_refl _) _).alloc (by simp) _
 have hT2 : TokAt (w.heap.size + 2) (w1.heap.size + 1) W2 s (.slice ao acc.length cap) acc := ((HT.out _ (Nat.le_refl _)).below hb2).mono (by omega)
 have hB2 : Below w.heap.size w W2 := HB1.out.trans (hb2.mono HB1.out.size)
 have hw1 : w.heap.size + 2 ≤ w1.heap.size := by have := HX1.out.lt; omega
 have HC := Lib.hid hC
 have HT2 := Lib.hid hT2
 have HB2 := Lib.hid hB2
 have HY0 := Lib.hid y0
 have HY1 := Lib.hid y1
 clear hC hT2 hB2 y0 y1 hb2 hW2 HX0 HX1 HB1 HT HA
 generalize w1.heap.size = b1 at *
 go_loopw [10, 11, 28] (fun _ _ i wr => ∃ (k : Nat) (st : BSt) (X : Nat → Prop) (ov : Value) (ps : List (Nat × Nat)), k ≤ acc.length ∧ i = .int .i64 k ∧ Hid (BOf (w.heap.size + 2) wr (b1 + 1) st (2 * k) X ov ps ∧ Below (b1 + 1) W2 wr ∧ runB st0 acc = runB st (acc.drop k))) (fun _ _ i _ => acc.length - (intOf i).toNat)
 case atStart => exact ⟨0, st0, _, _, _, Nat.zero_le _, rfl, HC.out, Below.refl _ _, rfl⟩
 case round =>
  obtain ⟨k, st, X, ov, ps, hk, rfl, HR⟩ := hrel
  by_cases hlt : k < acc.length
  · obtain ⟨g, o, cap', av, e, hg, c0, c1, c2, c3, c4, c5, c6, ha⟩ := (HT2.out.below HR.out.2.1).2 k acc[k].1 acc[k].2 (List.getElem?_eq_getElem hlt)
    simp only [Value.slice.injEq, true_and] at e
    obtain ⟨rfl, rfl⟩ := e
    have HDR : Hid (acc.drop k = acc[k] :: acc.drop (k + 1)) := List.drop_eq_getElem_cons hlt
    have hki : (k : Int) < (acc.length : Int) := by omega
    have hgs : g < wr.heap.size := by have := HR.out.1.core.lt; omega
    obtain ⟨ta, tc, hav⟩ := ha.shape
    have HAT := Lib.hid ha
    have htx := HTX.out k hlt
    have hkd := HKD.out k hlt
    have HTK := Lib.hid fun o' => tokenB_any (wr.alloc o') (b1 + 1) (2 * k) st X ov ps (HR.out.1.below ((Below.refl _ wr).alloc (Nat.le_refl _) o')) acc[k].1 av (pos s acc[k].2 : Nat) (lineCol (s.data.toList.take (pos s acc[k].2))).1 (lineCol (s.data.toList.take (pos s acc[k].2))).2 (HAT.out.below ((Below.refl _ wr).alloc (Nat.le_of_lt HR.out.1.core.lt) o')) hkd htx (by omega)
    have HPL : Hid (tokPlace s acc[k] = .agg #[.int .i64 (pos s acc[k].2 : Nat), .int .i64 (lineCol (s.data.toList.take (pos s acc[k].2))).1, .int .i64 (lineCol (s.data.toList.take (pos s acc[k].2))).2]) := rfl
    unfold tokV at HTK
    subst hav
    have HSB : Hid (∀ x, stepB st acc[k].1 = .bad x → x ≠ 0) := fun x hx => stepB_bad hx
    have HRB : Hid (∀ st', stepB st acc[k].1 = .ok st' → runB st (acc.drop k) = runB st' (acc.drop (k + 1))) := fun st' h => by rw [HDR.out]; simp only [runB, h]
    have HRX : Hid (∀ x, stepB st acc[k].1 = .bad x → runB st (acc.drop k) = .bad x acc[k].2) := fun x h => by rw [HDR.out]; simp only [runB, h]
    clear ha htx hkd
    generalize pos s acc[k].2 = P at *
    generalize (lineCol (s.data.toList.take P)).1 = li at *
    generalize (lineCol (s.data.toList.take P)).2 = co at *
    generalize acc[k].1 = t at *
    go_wp2_with fail
    refine (HTK.out _).mono ?_
    intro e w2 hO
    have hbx := Box.new wr [.int .i64 t.kind, .string (bs t.name), .slice ta t.attrs.length tc, .string (bs t.text), .int .i64 P, .int .i64 li, .int .i64 co] 157 _ rfl
    have HBX := Lib.hid hbx
    have HBW : Hid (Below (b1 + 1) wr (wr.alloc (.cells #[.int .i64 t.kind, .string (bs t.name), .slice ta t.attrs.length tc, .string (bs t.text), .int .i64 P, .int .i64 li, .int .i64 co] 157))) := (Below.refl _ wr).alloc (Nat.le_of_lt HR.out.1.core.lt) _
    clear hbx c0 c1 c2 c3 c4 c5 c6 hgs
    cases hR : stepB st t with
    | ok st' =>
     rw [hR] at hO
     obtain ⟨rfl, ⟨X', ov', ps', hB'⟩, hb⟩ := hO
     have hnew : BOf (w.heap.size + 2) w2 (b1 + 1) st' (2 * (k + 1)) X' ov' ps' ∧ Below (b1 + 1) W2 w2 ∧ runB st0 acc = runB st' (acc.drop (k + 1)) := ⟨hB', (HR.out.2.1.trans HBW.out).trans hb, by rw [HR.out.2.2, HRB.out st' hR]⟩
     have HN := Lib.hid hnew
     clear hB' hb hnew
     go_wp2
     go_roundw
     case rel => exact ⟨k + 1, st', X', ov', ps', hlt, by go_num, HN.out⟩
     case measure => simp [intOf]; omega
    | bad x =>
     rw [hR] at hO
     obtain ⟨rfl, hgr, hb⟩ := hO
     have hx0 : (x == 0) = false := beq_eq_false_iff_ne.2 (HSB.out x hR)
     have hb3 : Below (b1 + 1) W2 w2 := (HR.out.2.1.trans HBW.out).trans hb
     have y0 := HY0.out.below hb3 (by omega)
     have y1 := HY1.out.below hb3 (by omega)
     have y2 := HBX.out.grownB hgr (by have := HR.out.1.core.lt; omega)
     have hB3 : Below w.heap.size w w2 := HB2.out.trans (hb3.mono (by omega))
     have hrun : runB st0 acc = .bad x acc[k].2 := by rw [HR.out.2.2, HRX.out x hR]
     have hst := res_store y0 y1 (.string ⟨#[]⟩) (.slice none 0 0) (.slice none 0 0) (.string ⟨#[]⟩) (.int .i64 P) (.int .i64 li) (.int .i64 co)
     have hbl := res_below hB3 (Nat.le_refl _) (.string ⟨#[]⟩) (.slice none 0 0) (.slice none 0 0) (.string ⟨#[]⟩) (.int .i64 P) (.int .i64 li) (.int .i64 co)
     unfold resW at hst hbl
     have HST := Lib.hid hst
     have HBL := Lib.hid hbl
     have p0 := y0.cell 0 _ rfl
     have pf0 := y0.free 0
     have p1 := y0.cell 1 _ rfl
     have pf1 := y0.free 1
     have p2 := y0.cell 2 _ rfl
     have pf2 := y0.free 2
     have p3 := y0.cell 3 _ rfl
     have pf3 := y0.free 3
     have q0 := y1.cell 0 _ rfl
     have qf0 := y1.free 0
     have q1 := y1.cell 1 _ rfl
     have qf1 := y1.free 1
     have q2 := y1.cell 2 _ rfl
     have qf2 := y1.free 2
     have pl := y0.lt
     have ql := y1.lt
     have t4 := y2.cell 4 _ rfl
     have t5 := y2.cell 5 _ rfl
     have t6 := y2.cell 6 _ rfl
     have tl := y2.lt
     have hlw := HR.out.1.core.lt
     have hne : w.heap.size ≠ wr.heap.size := by omega
     have hne2 : w.heap.size + 1 ≠ wr.heap.size := by omega
     have HRUN := Lib.hid hrun
     clear hst hbl hb3 y0 y1 y2 hB3 hgr hb hrun
     go_wp2
     go_region
     all_goals
      go_wp2
      obtain ⟨W3, hW3⟩ : ∃ W3, W3 = (resW w2 w.heap.size (.string ⟨#[]⟩) (.slice none 0 0) (.slice none 0 0) (.string ⟨#[]⟩) (.int .i64 P) (.int .i64 li) (.int .i64 co)).drew := ⟨_, rfl⟩
      unfold resW at hW3
      rw [← hW3]
      have z0 : Box W3 w.heap.size [.string ⟨#[]⟩, .slice none 0 0, .slice none 0 0, .string ⟨#[]⟩] := by rw [hW3]; exact HST.out.1.drew
      have z1 : Box W3 (w.heap.size + 1) [.int .i64 P, .int .i64 li, .int .i64 co] := by rw [hW3]; exact HST.out.2.drew
      have hb3 : Below w.heap.size w W3 := by rw [hW3]; exact belowN HBL.out 1
      obtain ⟨d0, d1, d2, d3⟩ := bxc4 z0
      obtain ⟨d4, d5, d6⟩ := bxc3 z1
      refine bodyPost_ret (v := .tuple #[noNode, .int .i64 x, .agg #[.int .i64 P, .int .i64 li, .int .i64 co]]) (by simp [results, Tryz.results49, go_sem, d0, d1, d2, d3, d4, d5, d6, noNode]) rfl ?_
      rw [HRUN.out]
      exact ⟨by rw [show placeV s.data.toList (pos s acc[k].2) = _ from HPL.out], hb3⟩
  · obtain rfl : k = acc.length := by omega
    have hki : ¬ (acc.length : Int) < (acc.length : Int) := by omega
    have hrun : runB st0 acc = runB st [] := by rw [HR.out.2.2, List.drop_length]
    have HRUN := Lib.hid hrun
    have HAT : Hid (∀ W, Calls Tryz.prog 82 #[.string s, .int .i64 s.size] W fun e w' => e = .returned (placeV s.data.toList s.size) ∧ Below W.heap.size W w') := fun W => at_any s s.size W (Nat.le_refl _) (by omega)
    clear hrun
    go_wp2_with fail
    refine (HAT.out wr).mono ?_
    rintro e w2 ⟨rfl, hb⟩
    have hC := HR.out.1.below hb
    have hb3 : Below (b1 + 1) W2 w2 := HR.out.2.1.trans (hb.mono (Nat.le_of_lt HR.out.1.core.lt))
    have HPL : Hid (placeV s.data.toList s.size = .agg #[.int .i64 s.size, .int .i64 (lineCol (s.data.toList.take s.size)).1, .int .i64 (lineCol (s.data.toList.take s.size)).2]) := rfl
    unfold placeV
    generalize (lineCol (s.data.toList.take s.size)).1 = li at *
    generalize (lineCol (s.data.toList.take s.size)).2 = co at *
    have HC3 := Lib.hid hC
    have HB3 := Lib.hid hb3
    clear hb hC hb3 HAT
    have c4 := HC3.out.core.c4
    have c6 := HC3.out.core.c6
    have hl2 := HC3.out.core.lt
    obtain ⟨oa, ocap, hov⟩ := HC3.out.shape
    rw [hov] at c4
    have W4 : Hid (∀ o' : Obj, Below (b1 + 1) W2 (w2.alloc o') ∧ BOf (w.heap.size + 2) (w2.alloc o') (b1 + 1) st (2 * acc.length) X ov ps) := fun o' => ⟨HB3.out.alloc (Nat.le_of_lt hl2) _, HC3.out.below ((Below.refl _ _).alloc (Nat.le_refl _) _)⟩
    obtain ⟨stack, root, cnt, tx⟩ := st
    cases stack with
    | cons f fs =>
     simp only [List.length_cons] at c4
     have hp0 : (0 : Int) < (fs.length : Int) + 1 := by omega
     go_wp2
     refine wp_world ?_
     intro w3 hw3
     have hb5 : Below (b1 + 1) W2 w3 := by rw [hw3]; exact (W4.out _).1
     have y0 := HY0.out.below hb5 (by omega)
     have y1 := HY1.out.below hb5 (by omega)
     have y2 : Box w3 w2.heap.size [.int .i64 s.size, .int .i64 li, .int .i64 co] := by rw [hw3]; exact Box.new w2 _ _ _ rfl
     have hB3 : Below w.heap.size w w3 := HB2.out.trans (hb5.mono (by omega))
     clear hw3
     have hst := res_store y0 y1 (.string ⟨#[]⟩) (.slice none 0 0) (.slice none 0 0) (.string ⟨#[]⟩) (.int .i64 s.size) (.int .i64 li) (.int .i64 co)
     have hbl := res_below hB3 (Nat.le_refl _) (.string ⟨#[]⟩) (.slice none 0 0) (.slice none 0 0) (.string ⟨#[]⟩) (.int .i64 s.size) (.int .i64 li) (.int .i64 co)
     unfold resW at hst hbl
     have HST := Lib.hid hst
     have HBL := Lib.hid hbl
     have p0 := y0.cell 0 _ rfl
     have pf0 := y0.free 0
     have p1 := y0.cell 1 _ rfl
     have pf1 := y0.free 1
     have p2 := y0.cell 2 _ rfl
     have pf2 := y0.free 2
     have p3 := y0.cell 3 _ rfl
     have pf3 := y0.free 3
     have q0 := y1.cell 0 _ rfl
     have qf0 := y1.free 0
     have q1 := y1.cell 1 _ rfl
     have qf1 := y1.free 1
     have q2 := y1.cell 2 _ rfl
     have qf2 := y1.free 2
     have pl := y0.lt
     have ql := y1.lt
     obtain ⟨t0, t1, t2⟩ := bxc3 y2
     have tl := y2.lt
     have hne : w.heap.size ≠ w2.heap.size := by omega
     have hne2 : w.heap.size + 1 ≠ w2.heap.size := by omega
     clear hst hbl hb5 y0 y1 y2 hB3
     go_region
     all_goals
      go_wp2
      obtain ⟨W3, hW3⟩ : ∃ W3, W3 = (resW w3 w.heap.size (.string ⟨#[]⟩) (.slice none 0 0) (.slice none 0 0) (.string ⟨#[]⟩) (.int .i64 s.size) (.int .i64 li) (.int .i64 co)).drew := ⟨_, rfl⟩
      unfold resW at hW3
      rw [← hW3]
      have z0 : Box W3 w.heap.size [.string ⟨#[]⟩, .slice none 0 0, .slice none 0 0, .string ⟨#[]⟩] := by rw [hW3]; exact HST.out.1.drew
      have z1 : Box W3 (w.heap.size + 1) [.int .i64 s.size, .int .i64 li, .int .i64 co] := by rw [hW3]; exact HST.out.2.drew
      have hb3 : Below w.heap.size w W3 := by rw [hW3]; exact belowN HBL.out 1
      obtain ⟨d0, d1, d2, d3⟩ := bxc4 z0
      obtain ⟨d4, d5, d6⟩ := bxc3 z1
      refine bodyPost_ret (v := .tuple #[noNode, .int .i64 13, .agg #[.int .i64 s.size, .int .i64 li, .int .i64 co]]) (by simp [results, Tryz.results49, go_sem, d0, d1, d2, d3, d4, d5, d6, noNode]) rfl ?_
      rw [HRUN.out]
      exact ⟨by rw [pos_nil, HPL.out], hb3⟩
    | nil =>
     simp only [List.length_nil] at c4
     cases root with
     | none =>
      simp only [Option.isSome_none] at c6
      go_wp2
      refine wp_world ?_
      intro w3 hw3
      have hb5 : Below (b1 + 1) W2 w3 := by rw [hw3]; exact (W4.out _).1
      have y0 := HY0.out.below hb5 (by omega)
      have y1 := HY1.out.below hb5 (by omega)
      have y2 : Box w3 w2.heap.size [.int .i64 s.size, .int .i64 li, .int .i64 co] := by rw [hw3]; exact Box.new w2 _ _ _ rfl
      have hB3 : Below w.heap.size w w3 := HB2.out.trans (hb5.mono (by omega))
      clear hw3
      have hst := res_store y0 y1 (.string ⟨#[]⟩) (.slice none 0 0) (.slice none 0 0) (.string ⟨#[]⟩) (.int .i64 s.size) (.int .i64 li) (.int .i64 co)
      have hbl := res_below hB3 (Nat.le_refl _) (.string ⟨#[]⟩) (.slice none 0 0) (.slice none 0 0) (.string ⟨#[]⟩) (.int .i64 s.size) (.int .i64 li) (.int .i64 co)
      unfold resW at hst hbl
      have HST := Lib.hid hst
      have HBL := Lib.hid hbl
      have p0 := y0.cell 0 _ rfl
      have pf0 := y0.free 0
      have p1 := y0.cell 1 _ rfl
      have pf1 := y0.free 1
      have p2 := y0.cell 2 _ rfl
      have pf2 := y0.free 2
      have p3 := y0.cell 3 _ rfl
      have pf3 := y0.free 3
      have q0 := y1.cell 0 _ rfl
      have qf0 := y1.free 0
      have q1 := y1.cell 1 _ rfl
      have qf1 := y1.free 1
      have q2 := y1.cell 2 _ rfl
      have qf2 := y1.free 2
      have pl := y0.lt
      have ql := y1.lt
      obtain ⟨t0, t1, t2⟩ := bxc3 y2
      have tl := y2.lt
      have hne : w.heap.size ≠ w2.heap.size := by omega
      have hne2 : w.heap.size + 1 ≠ w2.heap.size := by omega
      clear hst hbl hb5 y0 y1 y2 hB3
      go_region
      all_goals
       go_wp2
       obtain ⟨W3, hW3⟩ : ∃ W3, W3 = (resW w3 w.heap.size (.string ⟨#[]⟩) (.slice none 0 0) (.slice none 0 0) (.string ⟨#[]⟩) (.int .i64 s.size) (.int .i64 li) (.int .i64 co)).drew := ⟨_, rfl⟩
       unfold resW at hW3
       rw [← hW3]
       have z0 : Box W3 w.heap.size [.string ⟨#[]⟩, .slice none 0 0, .slice none 0 0, .string ⟨#[]⟩] := by rw [hW3]; exact HST.out.1.drew
       have z1 : Box W3 (w.heap.size + 1) [.int .i64 s.size, .int .i64 li, .int .i64 co] := by rw [hW3]; exact HST.out.2.drew
       have hb3 : Below w.heap.size w W3 := by rw [hW3]; exact belowN HBL.out 1
       obtain ⟨d0, d1, d2, d3⟩ := bxc4 z0
       obtain ⟨d4, d5, d6⟩ := bxc3 z1
       refine bodyPost_ret (v := .tuple #[noNode, .int .i64 16, .agg #[.int .i64 s.size, .int .i64 li, .int .i64 co]]) (by simp [results, Tryz.results49, go_sem, d0, d1, d2, d3, d4, d5, d6, noNode]) rfl ?_
       rw [HRUN.out]
       exact ⟨by rw [pos_nil, HPL.out], hb3⟩
     | some t =>
      simp only [Option.isSome_some] at c6
      have ht := HC3.out.core.tree
      obtain ⟨av, kv, hcl, hnd⟩ : ∃ av kv, At4 w2 (b1 + 1) 0 (nodeC t.name av kv t.text) ∧ NodeX X w2 t av kv := by
       cases ht with
       | root av kv h1 h2 => exact ⟨av, kv, h1, h2⟩
      have k0 := hcl 0 _ rfl
      have k1 := hcl 1 _ rfl
      have k2 := hcl 2 _ rfl
      have k3 := hcl 3 _ rfl
      simp only [Nat.zero_add] at k0 k1 k2 k3
      clear ht hcl c4 c6
      go_upto_region 13 with fail
      refine wp_world ?_
      intro w3 hw3
      have hb5 : Below (b1 + 1) W2 w3 := by rw [hw3]; exact (W4.out _).1
      have hb6 : Below w2.heap.size w2 w3 := by rw [hw3]; exact (Below.refl _ _).alloc (Nat.le_refl _) _
      have hC5 := HC3.out.below hb6
      have hnd5 := hnd.later hb6
      rw [← hb6.cell (p := ⟨b1 + 1, 0, none⟩) (by exact hl2)] at k0
      rw [← hb6.cell (p := ⟨b1 + 1, 1, none⟩) (by exact hl2)] at k1
      rw [← hb6.cell (p := ⟨b1 + 1, 2, none⟩) (by exact hl2)] at k2
      rw [← hb6.cell (p := ⟨b1 + 1, 3, none⟩) (by exact hl2)] at k3
      have c4 := hC5.core.c4
      have c6 := hC5.core.c6
      have hl5 := hC5.core.lt
      rw [hov] at c4
      simp only [List.length_nil, Option.isSome_some] at c4 c6
      have y0 := HY0.out.below hb5 (by omega)
      have y1 := HY1.out.below hb5 (by omega)
      have hB3 : Below w.heap.size w w3 := HB2.out.trans (hb5.mono (by omega))
      have hlow : X w.heap.size ∧ X (w.heap.size + 1) := ⟨hC5.core.xlo _ (by omega), hC5.core.xlo _ (by omega)⟩
      have hkp := res_kept hlow.1 hlow.2 (W := w3) (.string (bs t.name)) av kv (.string (bs t.text)) (.int .i64 0) (.int .i64 0) (.int .i64 0)
      unfold resW at hkp
      have HKP := Lib.hid hkp
      have HND := Lib.hid hnd5
      obtain ⟨N1, hN1⟩ : ∃ N1 : S, N1 = bs t.name := ⟨_, rfl⟩
      obtain ⟨T1, hT1⟩ : ∃ T1 : S, T1 = bs t.text := ⟨_, rfl⟩
      have HN1 := Lib.hid hN1
      have HT1 := Lib.hid hT1
      rw [← hN1] at k0
      rw [← hT1] at k3
      rw [← hN1, ← hT1] at HKP
      obtain ⟨aa, an, ac, hav⟩ : ∃ aa an ac, av = .slice aa an ac := by
       obtain ⟨_, -, h1, -⟩ := hnd.parts
       obtain ⟨ao', cap', e⟩ := h1.shape
       exact ⟨_, _, _, e⟩
      obtain ⟨ka, kn, kc, hkv⟩ : ∃ ka kn kc, kv = .slice ka kn kc := by
       obtain ⟨_, -, -, h1, -⟩ := hnd.parts
       obtain ⟨ao', cap', e⟩ := h1.shape
       exact ⟨_, _, _, e⟩
      subst hav hkv
      have hst := res_store y0 y1 (.string N1) (.slice aa an ac) (.slice ka kn kc) (.string T1) (.int .i64 0) (.int .i64 0) (.int .i64 0)
      have hbl := res_below hB3 (Nat.le_refl _) (.string N1) (.slice aa an ac) (.slice ka kn kc) (.string T1) (.int .i64 0) (.int .i64 0) (.int .i64 0)
      unfold resW at hst hbl
      have HST := Lib.hid hst
      have HBL := Lib.hid hbl
      have p0 := y0.cell 0 _ rfl
      have pf0 := y0.free 0
      have p1 := y0.cell 1 _ rfl
      have pf1 := y0.free 1
      have p2 := y0.cell 2 _ rfl
      have pf2 := y0.free 2
      have p3 := y0.cell 3 _ rfl
      have pf3 := y0.free 3
      have q0 := y1.cell 0 _ rfl
      have qf0 := y1.free 0
      have q1 := y1.cell 1 _ rfl
      have qf1 := y1.free 1
      have q2 := y1.cell 2 _ rfl
      have qf2 := y1.free 2
      have pl := y0.lt
      have ql := y1.lt
      clear hst hbl hb5 y0 y1 hB3 hw3 hkp hnd hnd5 hb6 hC5 hN1 hT1 hlow
      go_wp2
      obtain ⟨W3, hW3⟩ : ∃ W3, W3 = resW w3 w.heap.size (.string N1) (.slice aa an ac) (.slice ka kn kc) (.string T1) (.int .i64 0) (.int .i64 0) (.int .i64 0) := ⟨_, rfl⟩
      unfold resW at hW3
      rw [← hW3]
      have z0 : Box W3 w.heap.size [.string N1, .slice aa an ac, .slice ka kn kc, .string T1] := by rw [hW3]; exact HST.out.1
      have z1 : Box W3 (w.heap.size + 1) [.int .i64 0, .int .i64 0, .int .i64 0] := by rw [hW3]; exact HST.out.2
      have hb3 : Below w.heap.size w W3 := by rw [hW3]; exact HBL.out
      have hk3 : KeptX X w3 W3 := by rw [hW3]; exact HKP.out
      obtain ⟨d0, d1, d2, d3⟩ := bxc4 z0
      obtain ⟨d4, d5, d6⟩ := bxc3 z1
      refine bodyPost_ret (v := .tuple #[.agg #[.string N1, .slice aa an ac, .slice ka kn kc, .string T1], .int .i64 0, zeroPlace]) (by simp [results, Tryz.results49, go_sem, d0, d1, d2, d3, d4, d5, d6, zeroPlace]) rfl ?_
      rw [HRUN.out]
      exact ⟨.slice aa an ac, .slice ka kn kc, by rw [HN1.out, HT1.out]; rfl, (HND.out.keep hk3 (fun _ _ h => h)).node, hb3⟩
theorem build_any (s : S) (m : Int) (w : World) (hs : s.size ≤ 65536) (hm : w.cell? ⟨0, 0, none⟩ = some (.int .i64 m)) : Calls Tryz.prog 49 #[.string s] w (BuildOut s w (buildR s.data.toList)) := by
 unfold buildR
 cases h : allR s.data.toList with
 | ok acc r => exact build_ok s m w hs hm h
 | bad x r => exact build_bad s m w hs hm h

end Go.Proofs.YtphaeegbmfpcgaaGreatDoor

/- What store.entry.read does with a text that is a project; the conditions stand in the theorem. -/

namespace Go.Proofs.YtphaeegbmfpcgaaGreatDoor
open Go Go.RowKit

theorem size_pomS : (Tryz.prog.info? 48).map (·.size) = some 11 := by kernel_rfl
theorem PomOwn.flat {base : Nat} {w : World} {p : Pom} {pv mv dv : Value} (h : PomOwn base w p pv mv dv) : ∃ a1 n1 c1 a2 n2 c2 a3 n3 c3, pv = .slice a1 n1 c1 ∧ mv = .slice a2 n2 c2 ∧ dv = .slice a3 n3 c3 := by
 obtain ⟨a1, c1, rfl⟩ := h.props.shape
 obtain ⟨L2, h2⟩ := h.managed
 obtain ⟨a2, c2, hm⟩ := h2.row.shape
 obtain ⟨L3, h3⟩ := h.deps
 obtain ⟨a3, c3, hd⟩ := h3.row.shape
 exact ⟨_, _, _, _, _, _, _, _, _, rfl, hm, hd⟩
theorem PomOwn.grownB {base r : Nat} {w w' : World} {p : Pom} {pv mv dv : Value} (h : PomOwn base w p pv mv dv) (hg : w.grownBy w' (some r)) (hr : r < base) : PomOwn base w' p pv mv dv :=
 h.moved fun k hk hl => hg.block k hl (by intro e; cases e; omega)
def EReadOut (eb : Nat) (s : S) (d1 d2 d3 : Value) (p : Pom) (w : World) (e : Ending) (w' : World) : Prop := e = .returned (.tuple #[]) ∧ w.grownBy w' (some eb) ∧
 ∃ pv mv dv, Box w' eb ([.string s, d1, d2, d3] ++ pomC p pv mv dv ++ [.int .i64 0, .string ⟨#[]⟩, .string ⟨#[]⟩, .string ⟨#[]⟩, .int .i64 0, .int .i64 0, .int .i64 0, .string ⟨#[]⟩]) ∧ PomOwn w.heap.size w' p pv mv dv
set_option maxRecDepth 100000 in
set_option maxHeartbeats 8000000 in
theorem eread_any (eb : Nat) (s : S) (d1 d2 d3 : Value) (g : Gav) (t : Tr) (q : Bs) (m : Int) (w : World) (OLD : List Value) (hol : OLD.length = 11) (hb : Box w eb ([.string s, d1, d2, d3] ++ OLD ++ [.int .i64 0, .string ⟨#[]⟩, .string ⟨#[]⟩, .string ⟨#[]⟩, .int .i64 0, .int .i64 0, .int .i64 0, .string ⟨#[]⟩])) (hs : s.size ≤ 65536) (hbd : buildR s.data.toList = .ok t q) (ht : Mild t) (hr : readE t = none)
    (hm : w.cell? ⟨0, 0, none⟩ = some (.int .i64 m)) : Calls Tryz.prog 32 #[ptr eb, .agg #[.string g.group, .string g.artifact, .string g.version]] w (EReadOut eb s d1 d2 d3 (readV t) w) := by
 have hw0 : 0 < w.heap.size := World.block_lt_of_cell? w _ hm
 have HBD : Hid (∀ W, Below w.heap.size w W → Calls Tryz.prog 49 #[.string s] W fun e w' => ∃ ao an ac ko kn kc, e = .returned (.tuple #[.agg #[.string (bs t.name), .slice ao an ac, .slice ko kn kc, .string (bs t.text)], .int .i64 0, .agg #[.int .i64 0, .int .i64 0, .int .i64 0]]) ∧ NodeOf w' t (.slice ao an ac) (.slice ko kn kc) ∧ Below W.heap.size W w') := fun W h => by
  have h1 := build_any s m W hs ((h.cell (by exact hw0)).trans hm)
  rw [hbd] at h1
  refine h1.mono fun e w' hO => ?_
  obtain ⟨av, kv, he, hn, hb⟩ := hO
  obtain ⟨a1, a2, a3, a4, rfl, rfl, -, -⟩ := hn.shape
  exact ⟨_, _, _, _, _, _, he, hn, hb⟩
 have HM := Lib.hid ht
 have HOL := Lib.hid hol
 have HR := Lib.hid hr
 have HE := Lib.hid hb
 have hel := hb.lt
 clear hm ht hbd hs hw0 hr hb hol
 unfold ptr
 go_enter Tryz.func32, Tryz.ntmps32
 go_upto_region 1 with fail
 refine wp_world ?_
 intro W hW
 have x1 : Box W w.heap.size [.string g.group, .string g.artifact, .string g.version] := by rw [hW]; exact Box.new w [.string g.group, .string g.artifact, .string g.version] _ _ rfl
 have hb : Below w.heap.size w W := by rw [hW]; exact (Below.refl _ w).alloc (Nat.le_refl _) _
 clear hW
 have HX := Lib.hid x1
 have HB := Lib.hid hb
 have HE1 := Lib.hid (HE.out.below hb hel)
 clear x1 hb
 have e0 := HE1.out.cell 0 _ rfl
 have el := HE1.out.lt
 go_wp2_with fail
 refine (HBD.out _ HB.out).mono ?_
 rintro e w1 ⟨ao, an, ac, ko, kn, kc, rfl, hn, hb1⟩
 have HE2 := Lib.hid (HE1.out.below hb1 el)
 have HX1 := Lib.hid (HX.out.below hb1 HX.out.lt)
 have HB1 := Lib.hid (HB.out.trans (hb1.mono HB.out.size))
 have HN := Lib.hid hn
 clear hn hb1 HX HBD e0 el HE1 HB
 go_upto_region 2 with fail
 refine wp_world ?_
 intro W2 hW2
 have x2 : Box W2 w1.heap.size [.string (bs t.name), .slice ao an ac, .slice ko kn kc, .string (bs t.text)] := by rw [hW2]; exact (Box.new w1 [.string (bs t.name), .slice ao an ac, .slice ko kn kc, .string (bs t.text)] _ _ rfl).alloc _
 have hb2 : Below w1.heap.size w1 W2 := by rw [hW2]; exact ((Below.refl _ w1).alloc (Nat.le_refl _) _).alloc (by simp) _
 clear hW2
 have HE3 := Lib.hid (HE2.out.below hb2 HE2.out.lt)
 have HN2 := Lib.hid (HN.out.later hb2)
 have HB2 := Lib.hid (HB1.out.trans (hb2.mono HB1.out.size))
 have HRD : Hid (Calls Tryz.prog 50 #[.agg #[.string (bs t.name), .slice ao an ac, .slice ko kn kc, .string (bs t.text)]] W2 (ReadOut t W2)) := readQ_any t W2 _ _ HN2.out HM.out
 obtain ⟨a0, a1, a2, a3⟩ := bxc4 x2
 have al := x2.lt
 clear x2 hb2 HN HN2 HX1 HE2 HB1
 go_wp2_with fail
 refine HRD.out.mono ?_
 intro e w3 hO
 obtain ⟨pv, mv, dv, rfl, ho⟩ := hO.2.2 HR.out
 have hb3 := hO.1
 obtain ⟨a1', n1, c1, a2', n2, c2, a3', n3, c3, rfl, rfl, rfl⟩ := ho.flat
 have HE4 := Lib.hid (HE3.out.below hb3 HE3.out.lt)
 have HB3 := Lib.hid (HB2.out.trans (hb3.mono HB2.out.size))
 have HO := Lib.hid (ho.base_mono HB2.out.size)
 clear a0 a1 a2 a3 al hO hb3 HRD HE3 HB2 ho
 have HO2 := HO.out
 clear HO HR
 generalize readV t = p at *
 obtain ⟨hp, ⟨q1, q2, q3⟩, q4, q5, q6, q7, ps, ms, ds⟩ := p
 have HO := Lib.hid HO2
 clear HO2
 simp only [pomC]
 go_upto_region 7 with fail
 refine wp_world ?_
 intro W4 hW4
 have x4 : Box W4 w3.heap.size [.bool hp, .string q1, .string q2, .string q3, .string q4, .string q5, .string q6, .string q7, .slice a1' n1 c1, .slice a2' n2 c2, .slice a3' n3 c3] := by rw [hW4]; exact Box.new w3 [.bool hp, .string q1, .string q2, .string q3, .string q4, .string q5, .string q6, .string q7, .slice a1' n1 c1, .slice a2' n2 c2, .slice a3' n3 c3] _ _ rfl
 have hb4 : Below w3.heap.size w3 W4 := by rw [hW4]; exact (Below.refl _ w3).alloc (Nat.le_refl _) _
 clear hW4
 have HE5 := Lib.hid (HE4.out.below hb4 HE4.out.lt)
 have HB4 := Lib.hid (HB3.out.trans (hb4.mono HB3.out.size))
 have HO4 := Lib.hid (HO.out.below hb4)
 clear hb4 HE4 HB3 HO
 obtain ⟨k0, k1, k2, k3, k4, k5, k6, k7, k8, k9, k10⟩ := bxc11 x4
 have kl := x4.lt
 have e0 := HE5.out.cell 0 _ rfl
 have el := HE5.out.lt
 clear x4
 go_wp2_with ((with_reducible show wpList _ _ _ (Oper.mk none (Op.store 48 (.tmp 45) (.tmp 43)) _ _ _ _ :: _) _ _); refine wpList_store_part rfl 48 (.tmp 45) (.tmp 43) rfl eb 4 [.string s, d1, d2, d3] OLD [.bool hp, .string q1, .string q2, .string q3, .string q4, .string q5, .string q6, .string q7, .slice a1' n1 c1, .slice a2' n2 c2, .slice a3' n3 c3] [.int .i64 0, .string ⟨#[]⟩, .string ⟨#[]⟩, .string ⟨#[]⟩, .int .i64 0, .int .i64 0, .int .i64 0, .string ⟨#[]⟩] rfl rfl HE5.out rfl HOL.out size_pomS (by simp [Value.oneCell']) ?_; intro W5 x5 g5)
 go_end0
 exact ⟨rfl, grown_after HB4.out g5, _, _, _, x5, HO4.out.grownB g5 hel⟩

end Go.Proofs.YtphaeegbmfpcgaaGreatDoor

/- The parts of sync.Once and sync/atomic that the store uses, one goroutine, nobody waiting; what the function that Once calls does is a hypothesis. -/
namespace Go.Proofs.YtphaeegbmfpcgaaGreatDoor
open Go Go.RowKit

theorem disable (w : World) : (callFunc 145 #[]).run Tryz.prog w = .ok (.value (.tuple #[])) w := run_call_mark0 Tryz.func145 (by kernel_rfl) (by kernel_rfl) (by kernel_rfl) .disable (by kernel_rfl) w
theorem enable (w : World) : (callFunc 147 #[]).run Tryz.prog w = .ok (.value (.tuple #[])) w := run_call_mark0 Tryz.func147 (by kernel_rfl) (by kernel_rfl) (by kernel_rfl) .enable (by kernel_rfl) w
theorem acquire (a : Addr) (w : World) : (callFunc 148 #[.pointer (some a)]).run Tryz.prog w = .ok (.value (.tuple #[])) w := run_call_marked Tryz.func148 (by kernel_rfl) (by kernel_rfl) (by kernel_rfl) .acquire (by kernel_rfl) a w
theorem releaseMerge (a : Addr) (w : World) : (callFunc 150 #[.pointer (some a)]).run Tryz.prog w = .ok (.value (.tuple #[])) w := run_call_marked Tryz.func150 (by kernel_rfl) (by kernel_rfl) (by kernel_rfl) .releaseMerge (by kernel_rfl) a w
theorem add_any (a : Addr) (y d s : Int) (w : World) (hc : w.cell? a = some (.int .i64 y)) (hz : w.frozen? a = false) (hs : IntKind.i64.wrap (y + d) = s) :
    Calls Tryz.prog 29 #[.pointer (some a), .int .i64 d] w fun e w' => e = .returned (.int .i64 s) ∧ w' = w.setCell a (.int .i64 s) := by
 have hadd := run_call_add (P := Tryz.prog) Tryz.func46 (by kernel_rfl) (by kernel_rfl) (by kernel_rfl) .i64 (by kernel_rfl) (y := d) (s := s) hc hz (by simp [go_sem, hs])
 go_enter Tryz.func29, Tryz.ntmps29
 go_wp2
 go_ret
 exact ⟨rfl, rfl⟩
theorem load_any (a : Addr) (y : Int) (w : World) (hc : w.cell? a = some (.int .i64 y)) :
    Calls Tryz.prog 36 #[.pointer (some a)] w fun e w' => e = .returned (.int .i64 y) ∧ w' = w := by
 have hl := run_call_load (P := Tryz.prog) Tryz.func55 (by kernel_rfl) (by kernel_rfl) (by kernel_rfl) .i64 (by kernel_rfl) hc
 go_enter Tryz.func36, Tryz.ntmps36
 go_wp2
 go_ret
 exact ⟨rfl, rfl⟩
/-- '(*sync/atomic.Bool).Store(true)' as a deferred call. -/
theorem store_deferred (a : Addr) (x : Value) (u : FrameMode) (w : World) (hc : w.cell? a = some x) (hz : w.frozen? a = false) :
    CallsD Tryz.prog 79 #[.pointer (some a), .bool true] u w fun e u' w' => u' = u ∧ (e = .returned (.tuple #[]) ∧ w' = w.drew.setCell a (.int .u32 1)) := by
 have hc' : w.drew.cell? a = some x := by go_simp
 have hz' : w.drew.frozen? a = false := by go_simp
 have hst := run_call_store (P := Tryz.prog) Tryz.func117 (by kernel_rfl) (by kernel_rfl) (by kernel_rfl) (by kernel_rfl) (k := .u32) (y := 1) hc' hz'
 go_enter_d Tryz.func79, Tryz.ntmps79
 go_wp2
 go_region_calls
 all_goals (go_end0; exact ⟨rfl, rfl⟩)
set_option maxRecDepth 100000 in
set_option maxHeartbeats 1600000 in
/-- '(*sync.Mutex).Unlock' as a deferred call, nobody waiting. -/
theorem unlock_deferred (a : Addr) (u : FrameMode) (w : World) (hc : w.cell? a = some (.int .i32 1)) (hz : w.frozen? a = false) :
    CallsD Tryz.prog 78 #[.pointer (some a)] u w fun e u' w' => u' = u ∧ (e = .returned (.tuple #[]) ∧ w' = w.setCell a (.int .i32 0)) := by
 have hd := disable
 have he := enable
 have hr := releaseMerge
 have hadd := run_call_add (P := Tryz.prog) Tryz.func151 (by kernel_rfl) (by kernel_rfl) (by kernel_rfl) .i32 (by kernel_rfl) (y := -1) (s := 0) hc hz (by simp [go_sem]; rfl)
 have hcv := run_convert_to_unsafe (P := Tryz.prog) (src := 231) (dst := 235) Tryz.underlying231 Tryz.underlying235 (by kernel_rfl) hc
 go_enter_d Tryz.func78, Tryz.ntmps78
 go_wp2
 go_end0
 go_wp2
 go_end0
 exact ⟨rfl, rfl⟩
set_option maxRecDepth 100000 in
set_option maxHeartbeats 1600000 in
/-- '(*sync.Mutex).Lock', the lock free. -/
theorem lock_free (a : Addr) (w : World) (hc : w.cell? a = some (.int .i32 0)) (hz : w.frozen? a = false) :
    Calls Tryz.prog 77 #[.pointer (some a)] w fun e w' => e = .returned (.tuple #[]) ∧ w' = w.setCell a (.int .i32 1) := by
 have hd := disable
 have he := enable
 have ha := acquire
 have hcas := run_call_cas_hit (P := Tryz.prog) Tryz.func146 (by kernel_rfl) (by kernel_rfl) (by kernel_rfl) .i32 (by kernel_rfl) (y := 1) hc hz
 have hc' : (w.setCell a (.int .i32 1)).cell? a = some (.int .i32 1) := World.cell?_setCell_same w a _ hc
 have hcv := run_convert_to_unsafe (P := Tryz.prog) (src := 231) (dst := 235) Tryz.underlying231 Tryz.underlying235 (by kernel_rfl) hc'
 go_enter Tryz.func77, Tryz.ntmps77
 go_wp2
 first | go_end0 | (simp only [Exit.inBlock, Exit.then]; refine bodyPost_ret (results_none rfl _ _ _) rfl ?_) | refine bodyPost_ret (results_none rfl _ _ _) rfl ?_
 go_wp2
 go_end0
 exact ⟨rfl, rfl⟩
set_option maxRecDepth 100000 in
set_option maxHeartbeats 1600000 in
/-- '(*sync.Once).Do', not yet done, the lock free: what the function does (R, from the world with the lock taken), then done is told and the lock is free. -/
theorem slow_any (b : Nat) (caps : Array Value) (w : World) (R : World → Prop) (h0 : w.cell? ⟨b, 1, none⟩ = some (.int .u32 0)) (h1 : w.cell? ⟨b, 2, none⟩ = some (.int .i32 0))
    (f1 : w.frozen? ⟨b, 2, none⟩ = false)
    (hR : ∀ w', R w' → (∃ x, w'.cell? ⟨b, 1, none⟩ = some x) ∧ w'.frozen? ⟨b, 1, none⟩ = false ∧ w'.cell? ⟨b, 2, none⟩ = some (.int .i32 1) ∧ w'.frozen? ⟨b, 2, none⟩ = false)
    (hf : Calls Tryz.prog 31 caps (w.setCell ⟨b, 2, none⟩ (.int .i32 1)) fun e w' => e = .returned (.tuple #[]) ∧ R w') :
    Calls Tryz.prog 48 #[.pointer (some ⟨b, 1, none⟩), .func (.func 31) #[] caps] w fun e w' => e = .returned (.tuple #[]) ∧ ∃ w1, R w1 ∧ w' = (w1.drew.setCell ⟨b, 1, none⟩ (.int .u32 1)).setCell ⟨b, 2, none⟩ (.int .i32 0) := by
 have hl := run_call_load (P := Tryz.prog) Tryz.func76 (by kernel_rfl) (by kernel_rfl) (by kernel_rfl) .u32 (by kernel_rfl) (w := w.setCell ⟨b, 2, none⟩ (.int .i32 1)) (a := ⟨b, 1, none⟩) (x := 0) ((World.cell?_setCell_other _ ⟨b, 2, none⟩ ⟨b, 1, none⟩ _ (by simp)).trans h0)
 have hnot : ∀ (x : Bool) (w : World), (Op.unary .not (.bool x)).run Tryz.prog w = .ok (.bool (!x)) w := fun _ _ => rfl
 have HR := Lib.hid hR
 have HF := Lib.hid hf
 clear hR hf
 go_enter_defers Tryz.func48, Tryz.ntmps48
 go_wp2_with (go_at_call 77; refine (lock_free ⟨b, 2, none⟩ _ (by go_simp) (by go_simp)).mono ?_; rintro e w' ⟨rfl, rfl⟩)
 go_wp2_with (first | (go_at_call 31; refine HF.out.mono ?_; rintro e w1 ⟨rfl, hr⟩) | (go_at_call 47; go_in))
 obtain ⟨⟨x, g0⟩, z0, g1, z1⟩ := HR.out w1 hr
 go_wp2
 refine leaves_cons (f := 79) (args := #[.pointer (some ⟨b, 1, none⟩), .bool true]) (by simp) (by simp [go_sem]) ?_
 refine (store_deferred ⟨b, 1, none⟩ x .returning _ g0 z0).mono ?_
 rintro e u' w'' ⟨rfl, rfl, rfl⟩
 refine leaves_cons (f := 78) (args := #[.pointer (some ⟨b, 2, none⟩)]) (by simp [settle]) (by simp [go_sem]) ?_
 refine (unlock_deferred ⟨b, 2, none⟩ _ _ ?_ (by simp [z1])).mono ?_
 · exact (World.cell?_setCell_other _ ⟨b, 1, none⟩ ⟨b, 2, none⟩ _ (by simp)).trans g1
 rintro e u' w'' ⟨rfl, rfl, rfl⟩
 simp [Leaves, settle, results, Tryz.results48]
 exact ⟨w1, hr, rfl⟩
set_option maxRecDepth 100000 in
set_option maxHeartbeats 1600000 in
theorem do_first (b : Nat) (caps : Array Value) (w : World) (R : World → Prop) (h0 : w.cell? ⟨b, 1, none⟩ = some (.int .u32 0)) (h1 : w.cell? ⟨b, 2, none⟩ = some (.int .i32 0))
    (f1 : w.frozen? ⟨b, 2, none⟩ = false)
    (hR : ∀ w', R w' → (∃ x, w'.cell? ⟨b, 1, none⟩ = some x) ∧ w'.frozen? ⟨b, 1, none⟩ = false ∧ w'.cell? ⟨b, 2, none⟩ = some (.int .i32 1) ∧ w'.frozen? ⟨b, 2, none⟩ = false)
    (hf : Calls Tryz.prog 31 caps (w.setCell ⟨b, 2, none⟩ (.int .i32 1)) fun e w' => e = .returned (.tuple #[]) ∧ R w') :
    Calls Tryz.prog 30 #[.pointer (some ⟨b, 1, none⟩), .func (.func 31) #[] caps] w fun e w' => e = .returned (.tuple #[]) ∧ ∃ w1, R w1 ∧ w' = (w1.drew.setCell ⟨b, 1, none⟩ (.int .u32 1)).setCell ⟨b, 2, none⟩ (.int .i32 0) := by
 have hl := run_call_load (P := Tryz.prog) Tryz.func76 (by kernel_rfl) (by kernel_rfl) (by kernel_rfl) .u32 (by kernel_rfl) h0
 have hnot : ∀ (x : Bool) (w : World), (Op.unary .not (.bool x)).run Tryz.prog w = .ok (.bool (!x)) w := fun _ _ => rfl
 have HS := Lib.hid (slow_any b caps w R h0 h1 f1 hR hf)
 clear hR hf
 go_enter Tryz.func30, Tryz.ntmps30
 go_wp2_with (first | (go_at_call 48; refine HS.out.mono ?_; rintro e w' ⟨rfl, hR⟩) | (go_at_call 47; go_in))
 go_end0
 exact ⟨rfl, hR⟩
/-- Done already: the function is not called. -/
theorem do_done (b : Nat) (fv : Value) (w : World) (h0 : w.cell? ⟨b, 1, none⟩ = some (.int .u32 1)) :
    Calls Tryz.prog 30 #[.pointer (some ⟨b, 1, none⟩), fv] w fun e w' => e = .returned (.tuple #[]) ∧ w' = w := by
 have hl := run_call_load (P := Tryz.prog) Tryz.func76 (by kernel_rfl) (by kernel_rfl) (by kernel_rfl) .u32 (by kernel_rfl) h0
 have hnot : ∀ (x : Bool) (w : World), (Op.unary .not (.bool x)).run Tryz.prog w = .ok (.bool (!x)) w := fun _ _ => rfl
 go_enter Tryz.func30, Tryz.ntmps30
 go_wp2
 go_end0
 exact ⟨rfl, rfl⟩

end Go.Proofs.YtphaeegbmfpcgaaGreatDoor
